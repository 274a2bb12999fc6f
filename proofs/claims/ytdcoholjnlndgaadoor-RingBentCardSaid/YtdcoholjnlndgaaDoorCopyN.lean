/-
  Plain: builtin copy of elements of several cells.
  Contracts: math/bits.Mul64, Mul, of one and a small number.
-/
import Derived.Test.YtdcoholjnlndgaaDoorWords
import Derived.Laws.CopyRow
import Derived.Laws.CopyOwn
import Derived.Test.YtdcoholjnlndgaaDoorKeep
namespace Go.Proofs.YtdcoholjnlndgaaDoor
open Go.RowKit
set_option linter.unusedVariables false

theorem run_copy_n {P : Program} (w : World) (dT sT ty elem : TypeId) (s g o dLen dCap : Nat) (a : Addr) (sLen sCap : Nat) (cur : Array Value) (t : TypeId) (cs : List Value)
    (hu : P.underlying dT = some (.slice elem)) (hs : (P.info? elem).map (·.size) = some s)
    (hg : w.heap[g]? = some (.cells cur t (0, 0))) (hn : cs.length = Nat.min sLen dLen * s)
    (hsrc : ∀ j v, cs[j]? = some v → w.cell? (a.add j) = some v) (hfit : o + cs.length ≤ cur.size) (h1 : ∀ v ∈ cs, v.oneCell' = true) :
    (Builtin.copy_ #[dT, sT] ty #[.slice (some ⟨g, o, none⟩) dLen dCap, .slice (some a) sLen sCap]).run P w =
      .ok (goInt (Nat.min sLen dLen)) (w.setRow g (cur.toList.take o ++ cs ++ cur.toList.drop (o + cs.length)).toArray) := by
  have hl := run_loadCells_list (P := P) w a cs hsrc
  have hst := run_storeCells_at P g o t cs 0 cur w hg (by simpa using hfit) h1
  cases hq : P.info? elem with
  | none => simp [hq] at hs
  | some i =>
    have hi : i.size = s := by simpa [hq] using hs
    simp [Builtin.copy_, run_underlying hu, Builtin.lenOf, Builtin.firstCells, sizeOf, typeInfo, hq, hi, ← hn, hl, hst]

/-- So many times the same cells. -/
def flat (n : Nat) (x : List Value) : List Value := (List.replicate n x).flatten
theorem flat_len {x : List Value} {s : Nat} (h : x.length = s) (n : Nat) : (flat n x).length = s * n := by
  induction n with
  | zero => simp [flat]
  | succ n ih =>
    have e : flat (n + 1) x = x ++ flat n x := by simp [flat, List.replicate_succ]
    rw [e, List.length_append, ih, h, Nat.mul_succ, Nat.add_comm]
theorem flat_add (a b : Nat) (x : List Value) : flat (a + b) x = flat a x ++ flat b x := by
  unfold flat
  rw [← List.replicate_append_replicate, List.flatten_append]
theorem flat_take {x : List Value} {s : Nat} (h : x.length = s) {q n : Nat} (hq : q ≤ n) : (flat n x).take (s * q) = flat q x := by
  obtain ⟨r, rfl⟩ : ∃ r, n = q + r := ⟨n - q, by omega⟩
  rw [flat_add, List.take_left' (flat_len h q)]
theorem flat_drop {x : List Value} {s : Nat} (h : x.length = s) {q n : Nat} (hq : q ≤ n) : (flat n x).drop (s * q) = flat (n - q) x := by
  obtain ⟨r, rfl⟩ : ∃ r, n = q + r := ⟨n - q, by omega⟩
  rw [flat_add, List.drop_left' (flat_len h q), Nat.add_sub_cancel_left]
/-- A row that holds j of k. -/
def rowR (x z : List Value) (j k : Nat) : List Value := flat j x ++ flat (k - j) z
theorem rowR_len {x z : List Value} {s j k : Nat} (hx : x.length = s) (hz : z.length = s) (h : j ≤ k) : (rowR x z j k).length = s * k := by
  rw [rowR, List.length_append, flat_len hx, flat_len hz, ← Nat.mul_add]
  congr 1
  omega
theorem rowR_copy {x z : List Value} {s j q k : Nat} (hx : x.length = s) (hz : z.length = s) (h : j + q ≤ k) (hq : q ≤ j) :
    (rowR x z j k).take (s * j) ++ (rowR x z j k).take (s * q) ++ (rowR x z j k).drop (s * j + s * q) = rowR x z (j + q) k := by
  have e1 : (rowR x z j k).take (s * j) = flat j x := by rw [rowR, List.take_left' (flat_len hx j)]
  have hle : s * q ≤ s * j := Nat.mul_le_mul_left s hq
  have e2 : (rowR x z j k).take (s * q) = flat q x := by
    rw [rowR, List.take_append_of_le_length (by rw [flat_len hx]; exact hle), flat_take hx hq]
  have e3 : (rowR x z j k).drop (s * j + s * q) = flat (k - j - q) z := by
    rw [rowR, ← List.drop_drop, List.drop_left' (flat_len hx j), flat_drop hz (by omega)]
  rw [e1, e2, e3, ← flat_add, rowR, show k - (j + q) = k - j - q by omega]

theorem flat_one (x : List Value) : flat 1 x = x := by simp [flat]
theorem flat_mem {n : Nat} {x : List Value} {u : Value} (h : u ∈ flat n x) : u ∈ x := by
  unfold flat at h
  obtain ⟨l, hl, hu⟩ := List.mem_flatten.1 h
  rw [List.mem_replicate] at hl
  rw [← hl.2]
  exact hu
theorem rowR_all (x z : List Value) (k : Nat) : rowR x z k k = flat k x := by simp [rowR, flat]
theorem rowR_none (x z : List Value) (k : Nat) : rowR x z 0 k = flat k z := by simp [rowR, flat]

/-- copy of one element to the head of a row. -/
theorem run_copy_first {α : Type} {R : Rp α} {s : Nat} {P : Program} (hF : Fine R s) (w : World) (dT sT ty elem : TypeId) {S : Nat → Prop} {A : Option Addr} {c k N : Nat} {y : α} {z : List Value} {t : TypeId} (ha : Sl R s w S A 1 c [y])
    (hu : P.underlying dT = some (.slice elem)) (hs : (P.info? elem).map (·.size) = some s) (hg : w.heap[N]? = some (.cells (flat k z).toArray t (0, 0))) (hz : z.length = s) (hk : 1 ≤ k) :
    ∃ x, R w S x y ∧ x.length = s ∧ (∀ u ∈ x, u.oneCell' = true) ∧ (Builtin.copy_ #[dT, sT] ty #[.slice (some ⟨N, 0, none⟩) k k, .slice A 1 c]).run P w = .ok (goInt 1) (w.setRow N (rowR x z 1 k).toArray) := by
  obtain ⟨ad, xs, rfl, _, hl, hat, h1, hel⟩ := ha.flat hF (by omega)
  have hr := hel 0 y rfl
  rw [Nat.one_mul] at hl
  rw [Nat.zero_mul, List.drop_zero, List.take_of_length_le (by omega)] at hr
  refine ⟨xs, hr, hl, h1, ?_⟩
  have hm : Nat.min 1 k = 1 := Nat.min_eq_left hk
  have hrun := run_copy_n (P := P) w dT sT ty elem s N 0 k k ad 1 c _ t xs hu hs hg (by rw [hm, Nat.one_mul, hl]) (fun j v hv => hat j v hv) (by
    rw [Nat.zero_add, hl]
    show s ≤ (flat k z).length
    rw [flat_len hz]
    exact Nat.le_mul_of_pos_right s hk) h1
  rw [hm] at hrun
  rw [hrun]
  congr 3
  rw [List.take_zero, List.nil_append, Nat.zero_add, hl, rowR, flat_one]
  congr 1
  show (flat k z).drop s = flat (k - 1) z
  have := flat_drop hz (q := 1) (n := k) hk
  rwa [Nat.mul_one] at this

/-- copy of a row's head behind itself. -/
theorem run_copy_more {P : Program} (w : World) (dT sT ty elem : TypeId) {s k j N : Nat} {x z : List Value} {t : TypeId} (hx : x.length = s) (hz : z.length = s) (h1 : ∀ u ∈ x, u.oneCell' = true)
    (hu : P.underlying dT = some (.slice elem)) (hs : (P.info? elem).map (·.size) = some s) (hg : w.heap[N]? = some (.cells (rowR x z j k).toArray t (0, 0))) (hj : j ≤ k) (d c : Nat) :
    (Builtin.copy_ #[dT, sT] ty #[.slice (some ⟨N, s * j, none⟩) (k - j) d, .slice (some ⟨N, 0, none⟩) j c]).run P w = .ok (goInt (Nat.min j (k - j))) (w.setRow N (rowR x z (j + Nat.min j (k - j)) k).toArray) := by
  obtain ⟨q, hq⟩ : ∃ q, q = Nat.min j (k - j) := ⟨_, rfl⟩
  have hq1 : q ≤ j := by rw [hq]; exact Nat.min_le_left _ _
  have hq2 : q ≤ k - j := by rw [hq]; exact Nat.min_le_right _ _
  have hsz : (rowR x z j k).length = s * k := rowR_len hx hz hj
  have e1 : (rowR x z j k).take (s * q) = flat q x := by
    rw [rowR, List.take_append_of_le_length (by rw [flat_len hx]; exact Nat.mul_le_mul_left s hq1), flat_take hx hq1]
  have hrun := run_copy_n (P := P) w dT sT ty elem s N (s * j) (k - j) d ⟨N, 0, none⟩ j c _ t ((rowR x z j k).take (s * q)) hu hs hg (by rw [← hq, e1, flat_len hx, Nat.mul_comm]) (fun i v hv => by
    rw [List.getElem?_take] at hv
    split at hv
    · have hadd : (⟨N, 0, none⟩ : Addr).add i = ⟨N, i, none⟩ := by unfold Addr.add; split <;> simp_all
      rw [hadd]
      simpa [World.cell?, hg] using hv
    · cases hv) (by
    rw [e1, flat_len hx]
    show s * j + s * q ≤ (rowR x z j k).length
    rw [hsz, ← Nat.mul_add]
    exact Nat.mul_le_mul_left s (by omega)) (fun v hv => by rw [e1] at hv; exact h1 v (flat_mem hv))
  rw [← hq] at hrun ⊢
  rw [hrun]
  congr 3
  have h3 := rowR_copy (j := j) (q := q) (k := k) hx hz (by omega) hq1
  rw [← h3]
  congr 2
  rw [e1, flat_len hx]

/-- What such a row is, when it is full. -/
theorem own_rep {α : Type} {R : Rp α} {s : Nat} {w : World} {B lo N k : Nat} {e : TypeId} {x z : List Value} {y : α} (hR : ∀ w S, R w S x y) (hF : Fine R s) (h1 : ∀ u ∈ x, u.oneCell' = true) (hg : w.heap[N]? = some (.cells (rowR x z k k).toArray e (0, 0))) (hB : B ≤ N) (hk : k ≤ maxLen) :
    Ow R s w B lo e (.slice (some ⟨N, 0, none⟩) k k) k (List.replicate k y) := by
  have hx : x.length = s := hF.size (hR w (fun _ => True))
  rw [rowR_all] at hg
  have hl : (flat k x).length = k * s := by rw [flat_len hx, Nat.mul_comm]
  refine ⟨List.length_replicate, flat k x, ⟨hl, .inr ⟨N, k, _, rfl, hB, hg, Nat.le_refl _, hk, hl, ?_⟩⟩, fun u hu => h1 u (flat_mem hu), fun i v hv => ?_⟩
  · exact List.take_of_length_le (Nat.le_of_eq hl)
  · obtain ⟨hi, rfl⟩ : i < k ∧ v = y := by
      have := List.getElem?_eq_some_iff.1 hv
      simp at this
      exact ⟨this.1, this.2.symm⟩
    rw [Nat.mul_comm, flat_drop hx (by omega)]
    have h2 := flat_take hx (q := 1) (n := k - i) (by omega)
    rw [Nat.mul_one, flat_one] at h2
    rw [h2]
    exact hR _ _

theorem wp_copy_run {P : Program} {w w' : World} {ops : Array Oper} {rest : List Oper} {o : Oper} {a : Act} {Q : Exit → Act → World → Prop} (hgd : o.guard = none) (d s : Operand) (dT sT : TypeId)
    (ho : o.op = .call { callee := .builtin .copy, args := #[d, s], argTypes := #[dT, sT] }) (v : Value) (D E : Value) (hd : a.eval d = D) (hs : a.eval s = E)
    (hrun : (Builtin.copy_ #[dT, sT] o.type #[D, E]).run P w = .ok v w')
    (h : wpList P ops Q rest (a.put o.dst v) w') : wpList P ops Q (o :: rest) a w := by
  refine wpList_plain hgd fun K hK => ?_
  unfold Oper.wp
  simp [execOp, ho, resolve, invoke, builtin, hd, hs, hrun, Result.andThen]
  exact hK _ _ h
theorem step_copy_run {P : Program} {w w' : World} {ops : Array Oper} {o : Oper} {a : Act} {K : Act → World → Prop} {Q : Exit → Act → World → Prop} {E' : Prop} (hgd : o.guard = none) (d s : Operand) (dT sT : TypeId)
    (ho : o.op = .call { callee := .builtin .copy, args := #[d, s], argTypes := #[dT, sT] }) (v : Value) (D E : Value) (hd : a.eval d = D) (hs : a.eval s = E)
    (hrun : (Builtin.copy_ #[dT, sT] o.type #[D, E]).run P w = .ok v w')
    (h : K (a.put o.dst v) w') : if Region.wanted o (yielded ops a.tmps) = true then Oper.wp P o a w K Q else E' := by
  have hw : Region.wanted o (yielded ops a.tmps) = true := by simp [Region.wanted, hgd]
  rw [if_pos hw]
  unfold Oper.wp
  simp [execOp, ho, resolve, invoke, builtin, hd, hs, hrun, Result.andThen]
  exact h

end Go.Proofs.YtdcoholjnlndgaaDoor

namespace Go.Proofs.YtdcoholjnlndgaaDoor
open Go.RowKit
set_option linter.unusedVariables false
set_option maxRecDepth 100000

end Go.Proofs.YtdcoholjnlndgaaDoor
