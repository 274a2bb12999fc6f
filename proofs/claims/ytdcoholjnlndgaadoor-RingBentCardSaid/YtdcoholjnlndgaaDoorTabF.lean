/-
  Contracts: bytes.Equal, table.Read.
  Contracts: pack.Unrow, its rest in memory of its own; table.Read.
  Contract: table.Read.
-/
import Derived.Test.YtdcoholjnlndgaaDoorTabB
import Derived.Laws.IdiomStrings
import Derived.Lib.BufferRead
import Derived.Deep.RegionLaw
import Derived.Deep.DeepCutAuto
import Derived.Test.YtdcoholjnlndgaaDoorSpot
namespace Go.Proofs.YtdcoholjnlndgaaDoor
open Go.RowKit
set_option linter.unusedVariables false
set_option maxRecDepth 100000

theorem conv_bs {P : Program} {w : World} {A : Option Addr} {n c : Nat} {l : List UInt8} (h : Bs w A n c l) (src dst e : TypeId) (hs : P.underlying src = some (.slice e)) (he : P.underlying e = some (.int .u8)) (hd : P.underlying dst = some .string) :
    (convert src dst (.slice A n c)).run P w = .ok (.string ⟨l.toArray⟩) w := by
  have hl := h.len
  by_cases h0 : n = 0
  · subst h0
    have hl0 : l = [] := List.eq_nil_of_length_eq_zero hl
    subst hl0
    cases A with
    | none => exact Lib.run_convert_nil_bytes w src dst e c hs he hd
    | some a => exact run_convert_bytes_back w src dst e a c [] hs he hd (fun j hj => absurd hj (by simp))
  · obtain ⟨ad, e1, _, hc⟩ := h.at0 (by omega)
    subst e1
    subst hl
    refine run_convert_bytes_back w src dst e ad c l hs he hd (fun j hj => ?_)
    obtain ⟨cs, hr, hat⟩ := hc j l[j] (List.getElem?_eq_getElem hj)
    have hr : cs = [.int .u8 (l[j].toNat : Int)] := hr
    subst hr
    have h1 := hat 0 _ rfl
    rwa [Nat.mul_one, add_zero'] at h1

theorem beq_bytes (xs ys : List UInt8) : (xs == ys) = decide (xs = ys) := by
  by_cases h : xs = ys
  · rw [decide_eq_true h]; simpa using h
  · rw [decide_eq_false h]; simpa using h

set_option maxHeartbeats 400000 in
theorem equal_any {A B : Option Addr} {n c m d : Nat} {xs ys : List UInt8} {w : World} (ha : Bs w A n c xs) (hb : Bs w B m d ys) :
    Calls Tryd.prog 56 #[.slice A n c, .slice B m d] w fun e w' => e = .returned (.bool (decide (xs = ys))) ∧ w = w' := by
  have h1 := conv_bs (P := Tryd.prog) ha 54 9 5 Tryd.underlying54 Tryd.underlying5 Tryd.underlying9
  have h2 := conv_bs (P := Tryd.prog) hb 54 9 5 Tryd.underlying54 Tryd.underlying5 Tryd.underlying9
  have h3 := beq_bytes xs ys
  obtain ⟨D, hD⟩ : ∃ D, D = decide (xs = ys) := ⟨_, rfl⟩
  rw [← hD] at h3 ⊢
  clear hD
  go_enter Tryd.func56, Tryd.ntmps56
  go_wp2_with fail
  go_ret
  exact ⟨rfl, rfl⟩

theorem tabOf_snoc (k : Nat) (l : List UInt8) : tabOf (k + 1) l = tabOf k l ++ [entOf (l.drop (9 * k))] := by
  induction k generalizing l with
  | zero => rfl
  | succ k ih =>
    have h1 : tabOf (k + 1 + 1) l = entOf l :: tabOf (k + 1) (l.drop 9) := rfl
    rw [h1, ih (l.drop 9), List.drop_drop, show 9 + 9 * k = 9 * (k + 1) by omega]
    rfl

end Go.Proofs.YtdcoholjnlndgaaDoor

namespace Go.Proofs.YtdcoholjnlndgaaDoor
open Go.RowKit
set_option linter.unusedVariables false
set_option maxRecDepth 100000

def UnrowNew (w : World) (xs : List UInt8) (s : List Int) (e : Ending) (w' : World) : Prop :=
  Below w.heap.size w w' ∧
  ((sumN s ≤ xs.length ∧ ∃ V cv R cr, e = .returned (.tuple #[.slice V s.length cv, .slice R (xs.length - sumN s) cr, .int .i64 0]) ∧ Sl intR 1 w' (New w.heap.size w') V s.length cv (unrowI s xs) ∧ Sl byteR 1 w' (New w.heap.size w') R (xs.length - sumN s) cr (xs.drop (sumN s))) ∨
   (xs.length < sumN s ∧ e = .returned (.tuple #[.slice none 0 0, .slice none 0 0, .int .i64 4])))

set_option maxHeartbeats 1000000 in
theorem unrow_new {A B : Option Addr} {n c m d : Nat} {xs : List UInt8} {s : List Int} {w : World} (ha : Bs w A n c xs) (hb : Is w B m d s) (hn : n ≤ 65536) (hm : m ≤ 1000) (hs : ∀ z ∈ s, Sized z) :
    Calls Tryd.prog 54 #[.slice A n c, .slice B m d] w (UnrowNew w xs s) := by
  obtain ⟨i0, hi0, hz0, hz1, hz2⟩ := info_parts int_info
  have hla := ha.len
  have hlb := hb.len
  have HA := hide hla
  have HB := hide hlb
  have HS := hide hs
  clear hla hlb hs
  go_enter Tryd.func54, Tryd.ntmps54
  go_wp2_with fail
  refine (clone_any _ _ _ _ _ ha hn).mono ?_
  rintro e w1 ⟨V1, c1, rfl, ho1, hb1⟩
  have r1 := ho1.new_ byteR_fine (Nat.le_refl _) (Nat.le_refl _)
  clear ho1
  go_wp2_with fail
  go_loopw [4, 5, 16] (fun v r i wr => ∃ k q : Nat, ∃ R cr, k ≤ m ∧ i = .int .i64 k ∧ q ≤ n ∧ r = .slice R (n - q) cr ∧ Hid (q = sumN (s.take k)) ∧ Ow intR 1 wr w.heap.size w.heap.size 3 v k (unrowI (s.take k) xs) ∧ Sl byteR 1 wr (New w.heap.size wr) R (n - q) cr (xs.drop q) ∧ Below w.heap.size w wr) (fun _ _ i _ => m - (intOf i).toNat)
  case atStart => exact ⟨0, 0, V1, c1, Nat.zero_le _, rfl, Nat.zero_le _, rfl, rfl, Ow.nil_ _ _ _ _, r1, hb1⟩
  case round =>
    obtain ⟨k, q, R, cr, hk, rfl, hqn, rfl, hq, ho, hr, hbw⟩ := hrel
    by_cases hlt : k < m
    · obtain ⟨bd, z, rfl, hbdl, hz, hzi, hzw⟩ := at_int hb hlt
      have hzc := below_cell hbw hbdl hzw
      have hsz := HS.out z (List.mem_of_getElem? hz)
      obtain ⟨V0, c0, rfl⟩ := ho.form
      have hsn := sumN_snoc hz
      by_cases hsh : ((n - q : Nat) : Int) < z
      · have hp := get_short (A := R) (n := n - q) (c := cr) (w := wr) z hsz hsh
        have HP := hide hp
        have hbad : Hid (n < sumN s) := by
          have h1 := sumN_mono (s := s) (k := k + 1)
          have h2 := hq.out
          show _ < _
          omega
        clear hp hsz hz hsn
        go_wp2_with fail
        refine (unhide HP).mono ?_
        rintro e w2 ⟨rfl, rfl⟩
        go_wp2_with fail
        go_ret3
        exact ⟨hbw, .inr ⟨by rw [HA.out]; exact hbad.out, rfl⟩⟩
      · obtain ⟨Z, rfl⟩ : ∃ Z : Nat, z = (Z : Int) := ⟨z.toNat, by rcases hsz with h | h | h <;> omega⟩
        have hZ : Z = 1 ∨ Z = 2 ∨ Z = 4 := by rcases hsz with h | h | h <;> omega
        have hp := get_ok (hr.old_ byteR_fine) (by omega) Z hZ (by omega)
        have hqz : n - q - Z = n - (q + Z) := by omega
        rw [hqz, List.drop_drop] at hp
        have hsnoc := unrowI_snoc (xs := xs) hz
        rw [Int.toNat_natCast, ← hq.out] at hsnoc
        rw [Int.toNat_natCast, ← hq.out] at hsn
        have hq2 : Hid (q + Z = sumN (s.take (k + 1))) := hsn.symm
        have hle : q + Z ≤ n := by omega
        have HP := hide hp
        have HN := hide hsnoc
        have hni : InI ((num ((xs.drop q).take Z) : Nat) : Int) := by
          have h1 := num_lt ((xs.drop q).take Z)
          have h2 : ((xs.drop q).take Z).length ≤ 4 := by simp only [List.length_take]; omega
          have h3 : 256 ^ ((xs.drop q).take Z).length ≤ 256 ^ 4 := Nat.pow_le_pow_right (by omega) h2
          constructor <;> omega
        have HNI := hide hni
        clear hp hsz hz hsn hsnoc hZ hqz hsh hni
        go_wp2_with fail
        refine (unhide HP).mono ?_
        rintro e w2 ⟨V2, c2, rfl, ho2, hb2⟩
        have hbw2 : Below w.heap.size w w2 := th hbw hb2
        have ho' := ho.below intR_fine hb2
        have ho3 := ho'.alloc intR_fine (.cells #[.int .i64 ((num ((xs.drop q).take Z) : Nat) : Int)] 3)
        have hs3 : Sl intR 1 (w2.alloc (.cells #[.int .i64 ((num ((xs.drop q).take Z) : Nat) : Int)] 3)) (But (w2.alloc (.cells #[.int .i64 ((num ((xs.drop q).take Z) : Nat) : Int)] 3)) w.heap.size (.slice V0 k c0)) (some ⟨w2.heap.size, 0, none⟩) 1 1 [((num ((xs.drop q).take Z) : Nat) : Int)] := Sl.one_ intR_fine ⟨rfl, HNI.out⟩ (fun q hq => (ho'.lt q hq).2) hbw2.size
        have hb3 := hbw2.alloc hbw2.size (.cells #[.int .i64 ((num ((xs.drop q).take Z) : Nat) : Int)] 3)
        have hap : Sl byteR 1 w2 (But w2 w.heap.size (.slice V0 k c0)) V2 (n - (q + Z)) c2 (xs.drop (q + Z)) := ho2.apart byteR_fine hbw.size hbw.size (fun q hq => ⟨(ho.lt q hq).2, (ho.lt q hq).2⟩)
        go_wp2_with (at_builtin; go_loud (refine wpList_append_ow _ rfl (.tmp 30) (.tmp 32) _ rfl intR_fine w.heap.size w.heap.size 3 i0 _ 8 Tryd.underlying27 hi0 hz0 hz1 hz2 rfl (by omega) (.slice V0 k c0) k (unrowI (s.take k) xs) rfl ho3 _ _ 1 1 _ rfl hs3 (fun _ _ _ h => h) (by simp only [maxLen]; omega) (by omega) hb3.size ?_); intro V3 w3 ho4 hg4 hat4)
        rw [HN.out] at ho4
        have hb4 := below_grown hg4 ho3.lt hb3.size
        have r3 : Sl byteR 1 w3 (New w.heap.size w3) V2 (n - (q + Z)) c2 (xs.drop (q + Z)) := hap.move byteR_fine (fun b hb => (hg4.block b (by have := hb.2.1; simp; omega) hb.2.2).trans (Below.heap_alloc _ _ _ hb.2.1)) (fun b hb => ⟨hb.1, Nat.lt_of_lt_of_le hb.2.1 (Nat.le_trans (by simp) hg4.size)⟩)
        go_roundw
        case rel => exact ⟨k + 1, q + Z, V2, c2, by omega, by go_num, by omega, rfl, hq2, ho4, r3, hb3.trans hb4⟩
        case measure => simp [intOf]; omega
    · obtain rfl : k = m := by omega
      rw [List.take_of_length_le (by rw [HB.out]; omega)] at ho hq
      obtain ⟨V0, c0, rfl⟩ := ho.form
      go_wp2_with fail
      go_ret3
      have hqq := hq.out
      subst hqq
      have h1 := HA.out
      have h2 := HB.out
      subst h1
      subst h2
      exact ⟨hbw, .inl ⟨hqn, V0, c0, R, cr, rfl, ho.new_ intR_fine (Nat.le_refl _) (Nat.le_refl _), hr⟩⟩


/-- One entry's bytes, read. -/
theorem unrow3_ok {A B : Option Addr} {n c : Nat} {xs : List UInt8} {w : World} (ha : Bs w A n c xs) (hb : Is w B 3 3 [4, 4, 1]) (hn : n ≤ 65536) (h9 : 9 ≤ n) :
    Calls Tryd.prog 54 #[.slice A n c, .slice B 3 3] w fun e w' => ∃ V cv R cr, e = .returned (.tuple #[.slice V 3 cv, .slice R (n - 9) cr, .int .i64 0]) ∧ Is w' V 3 cv [(num (xs.take 4) : Int), (num ((xs.drop 4).take 4) : Int), (num ((xs.drop 8).take 1) : Int)] ∧ Sl byteR 1 w' (New w.heap.size w') R (n - 9) cr (xs.drop 9) ∧ Below w.heap.size w w' := by
  have hl := ha.len
  refine (unrow_new ha hb hn (by omega) (fun z hz => by simp at hz; rcases hz with rfl | rfl; exact .inr (.inr rfl); exact .inl rfl)).mono ?_
  rintro e w' ⟨hb', ⟨_, V, cv, R, cr, rfl, hi, hr⟩ | ⟨h, _⟩⟩
  · have hs : sumN [4, 4, 1] = 9 := rfl
    rw [hs, hl] at hr ⊢
    have hu : unrowI [4, 4, 1] xs = [(num (xs.take 4) : Int), (num ((xs.drop 4).take 4) : Int), (num ((xs.drop 8).take 1) : Int)] := by
      simp [unrowI, List.drop_drop]
    rw [hu] at hi
    exact ⟨V, cv, R, cr, rfl, hi.old_ intR_fine, hr, hb'⟩
  · exact absurd h (by show ¬ (xs.length < 9); omega)
theorem unrow3_no {A B : Option Addr} {n c : Nat} {xs : List UInt8} {w : World} (ha : Bs w A n c xs) (hb : Is w B 3 3 [4, 4, 1]) (hn : n ≤ 65536) (h9 : n < 9) :
    Calls Tryd.prog 54 #[.slice A n c, .slice B 3 3] w fun e w' => e = .returned (.tuple #[.slice none 0 0, .slice none 0 0, .int .i64 4]) ∧ Below w.heap.size w w' := by
  have hl := ha.len
  refine (unrow_new ha hb hn (by omega) (fun z hz => by simp at hz; rcases hz with rfl | rfl; exact .inr (.inr rfl); exact .inl rfl)).mono ?_
  rintro e w' ⟨hb', ⟨h, _⟩ | ⟨_, rfl⟩⟩
  · exact absurd h (by show ¬ (9 ≤ xs.length); omega)
  · exact ⟨rfl, hb'⟩

/-- What table.Read tells. -/
def RdQ (g : Geo) (l : List UInt8) (T : List Ent) (err : Int) : Prop := (¬ GeoOk g ∧ err = 1 ∧ T = []) ∨ (GeoOk g ∧ ReadOk g.data l ∧ err = 0 ∧ T = tabOf (g.data + 1).toNat l) ∨ (GeoOk g ∧ ¬ ReadOk g.data l ∧ err = 4 ∧ T = [])
def RdPost (w : World) (g : Geo) (l : List UInt8) (e : Ending) (w' : World) : Prop := Below w.heap.size w w' ∧ ∃ A n c T err, e = .returned (.tuple #[.agg #[.slice A n c], .int .i64 err]) ∧ Sl entR 3 w' (New w.heap.size w') A n c T ∧ RdQ g l T err

/-- The blocks that are neither the box nor the entries' own. -/
def Ap (N : Nat) (w : World) (v : Value) : Nat → Prop := fun b => b < w.heap.size ∧ b ≠ N ∧ some b ≠ v.ownBlock

end Go.Proofs.YtdcoholjnlndgaaDoor

namespace Go.Proofs.YtdcoholjnlndgaaDoor
open Go.RowKit
set_option linter.unusedVariables false
set_option maxRecDepth 100000

theorem ent_info2 : (Tryd.prog.info? 80).map (fun i => (i.zero, i.size, i.bytes)) = some (some (.agg #[.int .i64 0, .int .i64 0, .bool false]), 3, 24) := by kernel_rfl
theorem entKept {w w' : World} {base lo : Nat} {e : TypeId} {V : Value} {n : Nat} {L : List Ent} {rw : Option Nat} (h : Ow entR 3 w base lo e V n L) (hg : w.grownBy w' rw) (hne : V.ownBlock = none ∨ V.ownBlock ≠ rw) : Ow entR 3 w' base lo e V n L := by
  obtain ⟨hl, xs, hx, h1, hel⟩ := h
  exact ⟨hl, xs, hx.kept hg hne, h1, fun i x hi => hel i x hi⟩
theorem put_grown (w : World) (p : Addr) (v : Value) : w.grownBy (w.setCell p v) (some p.block) := ⟨rfl, rfl, rfl, by simp [World.setCell], fun k hk hne => put_blk w p v k (fun e => hne (by rw [e]))⟩
theorem entPut {w : World} {base lo : Nat} {e : TypeId} {V : Value} {n : Nat} {L : List Ent} (h : Ow entR 3 w base lo e V n L) (p : Addr) (v : Value) (hp : p.block < base) : Ow entR 3 (w.setCell p v) base lo e V n L :=
  entKept h (put_grown w p v) (.inr fun e => by have := (h.lt _ e).1; omega)
/-- A literal of one entry. -/
theorem lit_entry {w : World} {N : Nat} {e : TypeId} {a s : Int} {l : Bool} (hN : w.heap.size = N) (ha : InI a) (hs : InI s) : Sl entR 3 (w.alloc (.cells #[.int .i64 a, .int .i64 s, .bool l] e)) (fun _ => True) (some ⟨N, 0, none⟩) 1 1 [⟨a, s, l⟩] := by
  subst hN
  refine ⟨rfl, Nat.le_refl _, fun _ => ⟨_, rfl, trivial, fun i y hi => ⟨[.int .i64 a, .int .i64 s, .bool l], ?_, ?_⟩⟩⟩
  · obtain rfl : i = 0 := by have := (List.getElem?_eq_some_iff.1 hi).1; simp at this; omega
    simp at hi
    subst hi
    exact ⟨rfl, ha, hs⟩
  · obtain rfl : i = 0 := by have := (List.getElem?_eq_some_iff.1 hi).1; simp at this; omega
    intro j u hu
    rw [Nat.zero_mul, add_zero']
    exact World.news_of_block (heap_alloc_new w _) j u hu
theorem bx_at2 {w w' : World} {cs : Array Value} {e : TypeId} {N : Nat} (hN : w.heap.size = N) (hb : Below (w.alloc (.cells cs e)).heap.size (w.alloc (.cells cs e)) w') (k : Nat) (u : Value) (h : cs[k]? = some u) : w'.cell? ⟨N, k, none⟩ = some u := by
  subst hN
  exact box_cell hb k u h
theorem bx_free2 {w w' : World} {cs : Array Value} {e : TypeId} {N : Nat} (hN : w.heap.size = N) (hb : Below (w.alloc (.cells cs e)).heap.size (w.alloc (.cells cs e)) w') (k : Nat) : w'.frozen? ⟨N, k, none⟩ = false := by
  subst hN
  exact box_free hb k

/-- Bytes apart stay while the entries grow and the box is stored into. -/
theorem ap_grow {N : Nat} {w w' : World} {v v' : Value} {R : Option Addr} {m c : Nat} {l : List UInt8} (h : Sl byteR 1 w (Ap N w v) R m c l) (hg : w.grownBy w' v.ownBlock) (hat : v'.ownBlock = v.ownBlock ∨ v'.ownBlock = some w.heap.size) (u : Value) : Sl byteR 1 (w'.setCell ⟨N, 0, none⟩ u) (Ap N (w'.setCell ⟨N, 0, none⟩ u) v') R m c l :=
  h.move byteR_fine (fun b hb => (put_blk _ _ _ _ hb.2.1).trans (hg.block b hb.1 hb.2.2)) (fun b hb => ⟨by rw [set_size]; exact Nat.lt_of_lt_of_le hb.1 hg.size, hb.2.1, by
    rcases hat with h | h <;> rw [h]
    · exact hb.2.2
    · intro e
      injection e with e
      have := hb.1
      omega⟩)
theorem ap_below {N : Nat} {w w' : World} {v : Value} {R : Option Addr} {m c : Nat} {l : List UInt8} (h : Sl byteR 1 w (Ap N w v) R m c l) (hb : Below w.heap.size w w') : Sl byteR 1 w' (Ap N w' v) R m c l :=
  h.move byteR_fine (fun b hb' => hb.block b hb'.1) (fun b hb' => ⟨Nat.lt_of_lt_of_le hb'.1 hb.size, hb'.2⟩)

theorem entNew {w : World} {base lo B : Nat} {e : TypeId} {A : Option Addr} {n c : Nat} {L : List Ent} (h : Ow entR 3 w base lo e (.slice A n c) n L) (hB : B ≤ base) : Sl entR 3 w (New B w) A n c L := by
  have hr := h.read entR_fine
  refine ⟨hr.len, hr.cap, fun hn => ?_⟩
  obtain ⟨ad, e1, h1, hc⟩ := hr.at0 hn
  obtain ⟨hl, xs, hx, _, _⟩ := h
  obtain ⟨g, cap, hv, hg, hgl⟩ := hx.form hn
  have hA : A = some ⟨g, 0, none⟩ := by injection hv
  subst hA
  injection e1 with e1
  subst e1
  refine ⟨_, rfl, ⟨Nat.le_trans hB hg, hgl⟩, fun i x hx => ?_⟩
  obtain ⟨cs, hr, hat⟩ := hc i x hx
  exact ⟨cs, hr, hat⟩

theorem read_len {g : Geo} {d : Nat} (hd : g.data = (d : Int)) {l : List UInt8} (h : ReadOk g.data l) : l.length = 9 * (d + 1) := by
  have := h.1
  rw [hd] at this
  omega
theorem read_tab {d : Nat} {l : List UInt8} (h9 : 9 * (d + 1) ≤ l.length) : ReadOk (d : Int) l ↔ (TabOk (d : Int) (tabOf (d + 1) l) ∧ tabL (tabOf (d + 1) l) = l) := by
  have e : ((d : Int) + 1).toNat = d + 1 := by omega
  have hk := tabL_of h9
  unfold ReadOk
  rw [e]
  constructor
  · rintro ⟨h1, h2, h3⟩
    refine ⟨h3, ?_⟩
    have := hk.2 h2
    rwa [List.take_of_length_le (by omega)] at this
  · rintro ⟨h1, h2⟩
    have hl : l.length = 9 * (d + 1) := by rw [← h2, tabL_len, tabOf_len]
    refine ⟨by omega, hk.1 ?_, h1⟩
    rw [List.take_of_length_le (by omega)]
    exact h2

set_option maxHeartbeats 8000000 in
theorem read_any (A : Option Addr) (n c : Nat) (l : List UInt8) (g : Geo) (w : World) (hl : Bs w A n c l) (hn : n ≤ 60000) :
    Calls Tryd.prog 42 #[g.v, .slice A n c] w (RdPost w g l) := by
  obtain ⟨e0, he0, ee0, ee1, ee2⟩ := info_parts ent_info2
  have hS0 : (w.alloc (.cells #[.int .i64 g.zones, .int .i64 g.data, .int .i64 g.spares, .int .i64 g.slots, .int .i64 g.anchors] 23)).heap.size = w.heap.size + 1 := by simp
  have hb0 : Below w.heap.size w ((w.alloc (.cells #[.int .i64 g.zones, .int .i64 g.data, .int .i64 g.spares, .int .i64 g.slots, .int .i64 g.anchors] 23)).alloc (.cells #[.slice none 0 0] 65)) := (alloc_below w _).alloc (by simp) _
  have bx : ∀ W, Below ((w.alloc (.cells #[.int .i64 g.zones, .int .i64 g.data, .int .i64 g.spares, .int .i64 g.slots, .int .i64 g.anchors] 23)).alloc (.cells #[.slice none 0 0] 65)).heap.size ((w.alloc (.cells #[.int .i64 g.zones, .int .i64 g.data, .int .i64 g.spares, .int .i64 g.slots, .int .i64 g.anchors] 23)).alloc (.cells #[.slice none 0 0] 65)) W →
      W.cell? ⟨w.heap.size, 0, none⟩ = some (.int .i64 g.zones) ∧ W.cell? ⟨w.heap.size, 1, none⟩ = some (.int .i64 g.data) ∧ W.cell? ⟨w.heap.size, 2, none⟩ = some (.int .i64 g.spares) ∧ W.cell? ⟨w.heap.size, 3, none⟩ = some (.int .i64 g.slots) ∧ W.cell? ⟨w.heap.size, 4, none⟩ = some (.int .i64 g.anchors) ∧ W.cell? ⟨w.heap.size + 1, 0, none⟩ = some (.slice none 0 0) ∧ W.frozen? ⟨w.heap.size + 1, 0, none⟩ = false ∧ Below w.heap.size w W := fun W hW =>
    have h := th (alloc_below _ _) hW
    ⟨box_cell h 0 _ rfl, box_cell h 1 _ rfl, box_cell h 2 _ rfl, box_cell h 3 _ rfl, box_cell h 4 _ rfl, bx_at2 hS0 hW 0 _ rfl, bx_free2 hS0 hW 0, th (alloc_below _ _) h⟩
  have BX := hide bx
  have hck := fun w => gcheck_any g w
  clear bx hS0
  unfold RdPost
  by_cases hG : GeoOk g
  · have he : geoErr g = 0 := if_pos hG
    rw [he] at hck
    unfold Geo.v at hck ⊢
    have HCK := hide hck
    obtain ⟨d, hd⟩ : ∃ d : Nat, g.data = (d : Int) := ⟨g.data.toNat, by have := hG.2.1; omega⟩
    have hd4 : d ≤ 4 := by have := hG.2.1; omega
    rw [hd] at BX HCK hb0 ⊢
    have HD := hide hd
    have HG := hide hG
    clear hck he hd hG
    go_enter Tryd.func42, Tryd.ntmps42
    go_wp2_with fail
    refine (HCK.out _).mono ?_
    rintro e w1 ⟨rfl, hb1⟩
    have hw1 : w.heap.size + 1 + 1 ≤ w1.heap.size := by have := hb1.size; simp at this; omega
    have bx1 : ∀ W, Below w1.heap.size w1 W → _ := fun W hW => BX.out W (th hb1 hW)
    have BX1 := hide bx1
    clear bx1
    obtain ⟨p0, p1, p2, p3, p4, pr, pf, _⟩ := BX.out w1 hb1
    have hl1 := hl.on byteR_fine (th hb0 hb1)
    have hst : Sl byteR 1 (w1.alloc (.cells #[.slice none 0 0] 65)) (Ap w1.heap.size (w1.alloc (.cells #[.slice none 0 0] 65)) (.slice none 0 0)) A n c l :=
      hl1.move byteR_fine (fun b hb => (alloc_below w1 (.cells #[.slice none 0 0] 65)).block b hb) (fun b hb => ⟨by have h : b < w1.heap.size := hb; simp; omega, by have h : b < w1.heap.size := hb; omega, by simp [Value.ownBlock]⟩)
    have hct : (w1.alloc (.cells #[.slice none 0 0] 65)).cell? ⟨w1.heap.size, 0, none⟩ = some (.slice none 0 0) := box_cell (Below.refl _ _) 0 _ rfl
    have hft : (w1.alloc (.cells #[.slice none 0 0] 65)).frozen? ⟨w1.heap.size, 0, none⟩ = false := box_free (Below.refl _ _) 0
    have HCT := hide hct
    have HFT := hide hft
    clear hct hft
    obtain ⟨t0, t1, t2, t3, t4, _, _, _⟩ := BX.out _ (th hb1 (alloc_below w1 (.cells #[.slice none 0 0] 65)))
    go_wp2_with fail
    go_loopw [7, 21] (fun v i wr => ∃ k m : Nat, ∃ R cr A1 c1, k ≤ d + 1 ∧ i = .int .i64 k ∧ Hid (m + 9 * k = n) ∧ v = .slice R m cr ∧ Sl byteR 1 wr (Ap w1.heap.size wr (.slice A1 k c1)) R m cr (l.drop (9 * k)) ∧ Ow entR 3 wr (w1.heap.size + 1) 0 80 (.slice A1 k c1) k (tabOf k l) ∧ wr.cell? ⟨w1.heap.size, 0, none⟩ = some (.slice A1 k c1) ∧ wr.frozen? ⟨w1.heap.size, 0, none⟩ = false ∧ Below w1.heap.size w1 wr ∧ w1.heap.size + 1 ≤ wr.heap.size) (fun _ i _ => d + 1 - (intOf i).toNat)
    case atStart => exact ⟨0, n, A, c, none, 0, Nat.zero_le _, rfl, rfl, rfl, hst, Ow.nil_ _ _ _ _, HCT.out, HFT.out, alloc_below _ _, by simp⟩
    case round =>
      obtain ⟨k, m, R, cr, A1, c1, hk, rfl, hm, rfl, hr, ho, ct, ft, hb, hsz⟩ := hrel
      obtain ⟨q0, q1, q2, q3, q4, qr, qf, hbw⟩ := BX.out wr (th hb1 hb)
      by_cases hlt : k < d + 1
      · obtain ⟨W3, hW3⟩ : ∃ W3, W3 = wr.alloc (.cells #[.int .i64 4, .int .i64 4, .int .i64 1] 3) := ⟨_, rfl⟩
        have hb3 : Below wr.heap.size wr W3 := by rw [hW3]; exact alloc_below _ _
        have hi3 : Is W3 (some ⟨wr.heap.size, 0, none⟩) 3 3 [4, 4, 1] := by
          rw [hW3]
          exact lit_ints_at (n := 3) (l := [4, 4, 1]) rfl rfl (by omega) (fun z hz => by simp at hz; rcases hz with rfl | rfl <;> exact ⟨by omega, by omega⟩) rfl
        have hr3 : Bs W3 R m cr (l.drop (9 * k)) := (ap_below hr hb3).move byteR_fine (fun _ _ => rfl) (fun b hb => hb.1)
        have hm6 : m ≤ 65536 := by have := hm.out; omega
        have HW3 := hide hW3
        clear hW3
        by_cases h9 : 9 ≤ m
        · have HU := hide (unrow3_ok hr3 hi3 hm6 h9)
          go_wp2_with fail
          rw [← HW3.out]
          refine HU.out.mono ?_
          rintro e w4 ⟨V4, c4, R4, cr4, rfl, hi4, hr4, hb4⟩
          have hsn := tabOf_snoc k l
          have hd9 : (l.drop (9 * k)).drop 9 = l.drop (9 * (k + 1)) := by rw [List.drop_drop]; congr 1
          rw [hd9] at hr4
          obtain ⟨X, hX⟩ : ∃ X, X = l.drop (9 * k) := ⟨_, rfl⟩
          rw [← hX] at hi4 hsn
          have hXl : X.length = m := by rw [hX]; exact hr.len
          obtain ⟨a1, ha1⟩ : ∃ a1 : Nat, a1 = num (X.take 4) := ⟨_, rfl⟩
          obtain ⟨a2, ha2⟩ : ∃ a2 : Nat, a2 = num ((X.drop 4).take 4) := ⟨_, rfl⟩
          obtain ⟨a3, ha3⟩ : ∃ a3 : Nat, a3 = num ((X.drop 8).take 1) := ⟨_, rfl⟩
          obtain ⟨lo, hlo⟩ : ∃ lo, lo = decide (a3 = 1) := ⟨_, rfl⟩
          have hent : entOf X = ⟨(a1 : Int), (a2 : Int), lo⟩ := by rw [entOf, ← ha1, ← ha2, ← ha3, hlo]
          have hb1' : a1 < 4294967296 := by rw [ha1]; exact num_take_lt X 4 (by omega)
          have hb2' : a2 < 4294967296 := by rw [ha2]; exact num_take_lt (X.drop 4) 4 (by simp; omega)
          have hlo2 : ((a3 : Int) == 1) = lo := by
            rw [hlo]
            by_cases h : a3 = 1
            · subst h; rfl
            · rw [decide_eq_false h]; simp; omega
          rw [← ha1, ← ha2, ← ha3] at hi4
          rw [hent] at hsn
          have HSN := hide hsn
          obtain ⟨vd, x0, hvd, hv0, y0, _, z0⟩ := at_int hi4 (show 0 < 3 by omega)
          subst hvd
          obtain ⟨vd', x1, hvd1, _, y1, _, z1⟩ := at_int hi4 (show 1 < 3 by omega)
          injection hvd1 with hvd1
          subst hvd1
          obtain ⟨vd', x2, hvd2, _, y2, _, z2⟩ := at_int hi4 (show 2 < 3 by omega)
          injection hvd2 with hvd2
          subst hvd2
          simp at y0 y1 y2
          subst y0; subst y1; subst y2
          rw [add_zero'] at z0
          have z1' : w4.cell? ⟨vd.block, vd.off + 1, none⟩ = some (.int .i64 a2) := z1
          have z2' : w4.cell? ⟨vd.block, vd.off + 2, none⟩ = some (.int .i64 a3) := z2
          have hb34 := th hb3 hb4
          have ho4 := ho.below entR_fine hb34
          have hE5 : Below w4.heap.size w4 (w4.alloc (.cells #[.int .i64 a1, .int .i64 a2, .bool lo] 80)).drew := (alloc_below w4 (.cells #[.int .i64 a1, .int .i64 a2, .bool lo] 80)).drew
          have ho5 := ho4.below entR_fine hE5
          have hlit : Sl entR 3 (w4.alloc (.cells #[.int .i64 a1, .int .i64 a2, .bool lo] 80)).drew (fun _ => True) (some ⟨w4.heap.size, 0, none⟩) 1 1 [⟨(a1 : Int), (a2 : Int), lo⟩] := Sl.drew entR_fine (lit_entry rfl (show InI (a1 : Int) from ⟨by omega, by omega⟩) (show InI (a2 : Int) from ⟨by omega, by omega⟩))
          have hct : ∀ W, Below wr.heap.size wr W → W.cell? ⟨w1.heap.size, 0, none⟩ = some (.slice A1 k c1) := fun W hW => (hW.cell (by exact hsz)).trans ct
          have ct4 := hct _ hb34
          have ct5 : (w4.alloc (.cells #[.int .i64 a1, .int .i64 a2, .bool lo] 80)).cell? ⟨w1.heap.size, 0, none⟩ = some (.slice A1 k c1) := hct _ (th hb34 (alloc_below _ _))
          have hz5 : ∀ ad v, w4.cell? ad = some v → ad.block < w4.heap.size → (w4.alloc (.cells #[.int .i64 a1, .int .i64 a2, .bool lo] 80)).cell? ad = some v := fun ad v h hb' => ((alloc_below w4 _).cell hb').trans h
          have hs5 : w1.heap.size + 1 ≤ (w4.alloc (.cells #[.int .i64 a1, .int .i64 a2, .bool lo] 80)).drew.heap.size := Nat.le_trans hsz (th hb34 hE5).size
          have hap4 : Sl byteR 1 w4 (Ap w1.heap.size w4 (.slice A1 k c1)) R4 (m - 9) cr4 (l.drop (9 * (k + 1))) :=
            hr4.move byteR_fine (fun _ _ => rfl) (fun b hb' => ⟨hb'.2, by have h1 := hb'.1; have h2 := hb3.size; omega, fun e => by have h1 := hb'.1; have h2 := hb3.size; have h3 := (ho.lt b e.symm).2; omega⟩)
          have HAP := hide (ap_below hap4 hE5)
          have hb15 := hb.trans ((th hb34 hE5).mono hb.size)
          have HFT := hide ft
          clear hsn hd9 hr4 hX hXl ha1 ha2 ha3 hlo hent hi4 z1 z2 hct hap4 hr
          go_upto_region 10 with fail
          go_cut [47] (fun v wx => ∃ A8 c8, v = .slice A8 (k + 1) c8 ∧ wx.cell? ⟨w1.heap.size, 0, none⟩ = some (.slice A8 (k + 1) c8) ∧ wx.frozen? ⟨w1.heap.size, 0, none⟩ = false ∧ Ow entR 3 wx (w1.heap.size + 1) 0 80 (.slice A8 (k + 1) c8) (k + 1) (tabOf (k + 1) l) ∧ Sl byteR 1 wx (Ap w1.heap.size wx (.slice A8 (k + 1) c8)) R4 (m - 9) cr4 (l.drop (9 * (k + 1))) ∧ Below w1.heap.size w1 wx ∧ w1.heap.size + 1 ≤ wx.heap.size)
          case first =>
            go_region_law (refine step_append_ow _ (by rfl) _ _ _ (by rfl) entR_fine (w1.heap.size + 1) 0 80 e0 _ 24 Tryd.underlying63 he0 ee0 ee1 ee2 rfl (by omega) (.slice A1 k c1) k _ (by rfl) ho5 _ _ 1 1 _ (by rfl) hlit (fun _ _ _ h => h) (by simp only [maxLen]; omega) (by omega) hs5 ?_; intro V6 w6 ho6 hg6 hat6; obtain ⟨A6, c6, rfl⟩ := ho6.form; have hb56 := below_grown (base := w1.heap.size + 1) hg6 ho5.lt hs5; have ct6 : w6.cell? ⟨w1.heap.size, 0, none⟩ = some (.slice A1 k c1) := (hb56.cell (by simp)).trans ct5; have ft6 : w6.frozen? ⟨w1.heap.size, 0, none⟩ = false := (hb56.frozen (by simp)).trans (((th hb34 hE5).frozen (by exact hsz)).trans HFT.out))
            all_goals (go_wp2_with fail; go_meet; exact ⟨A6, c6, rfl, put_same ct6, (put_free _ _ _ _).trans ft6, by rw [HSN.out]; exact entPut ho6 _ _ (by simp), ap_grow HAP.out hg6 hat6 _, (hb15.trans (hb56.mono (by omega))).setCell (Nat.le_refl _) _, by rw [set_size]; exact Nat.le_trans hs5 hg6.size⟩)
          case rest =>
            obtain ⟨A8, c8, rfl, ct8, ft8, ho8, hr8, hb8, hs8⟩ := hcut
            go_wp2_with fail
            go_roundw
            case rel => exact ⟨k + 1, m - 9, R4, cr4, A8, c8, by omega, by go_num, by have := hm.out; show m - 9 + 9 * (k + 1) = n; omega, rfl, hr8, ho8, ct8, ft8, hb8, hs8⟩
            case measure => simp [intOf]; omega
        · have HU := hide (unrow3_no hr3 hi3 hm6 (by omega))
          have hnot : ¬ ReadOk g.data l := fun h => by have h1 := read_len HD.out h; have h2 := hl.len; have h3 := hm.out; omega
          have HNOT := hide hnot
          clear hnot
          go_wp2_with fail
          rw [← HW3.out]
          refine HU.out.mono ?_
          rintro e w4 ⟨rfl, hb4⟩
          obtain ⟨r0, r1, r2, r3, r4, rr, rf, hbr⟩ := BX.out w4 (th hb1 (th hb (th hb3 hb4)))
          go_wp2_with fail
          exact bodyPost_ret (v := .tuple #[.agg #[.slice none 0 0], .int .i64 4]) (by simp [results, Tryd.results42, go_sem, put_same rr]) rfl ⟨hbr.setCell (by simp) _, none, 0, 0, [], 4, rfl, Sl.nil_ _, .inr (.inr ⟨HG.out, HNOT.out, rfl, rfl⟩)⟩
      · obtain rfl : k = d + 1 := by omega
        have hn9 : 9 * (d + 1) ≤ l.length := by have h1 := hm.out; have h2 := hl.len; omega
        have hrt := read_tab hn9
        rw [← HD.out] at hrt
        have HRT := hide hrt
        have hae := ho.read entR_fine
        have htb := tbytes_any A1 (d + 1) c1 (tabOf (d + 1) l) g wr hae (by omega)
        unfold Geo.v TBytesPost at htb
        rw [HD.out] at htb
        have HTB := hide htb
        have HFR := hide hr
        clear hrt htb hn9 hr
        go_wp2_with fail
        refine HTB.out.mono ?_
        rintro e w7 ⟨hb7, V7, n7, c7, l7, er7, rfl, hs7, hq7⟩
        obtain ⟨r0, r1, r2, r3, r4, rr, rf, hbr⟩ := BX.out w7 (th hb1 (hb.trans (hb7.mono hb.size)))
        have ct7 : w7.cell? ⟨w1.heap.size, 0, none⟩ = some (.slice A1 (d + 1) c1) := (hb7.cell (by exact hsz)).trans ct
        have hl7 := hl.on byteR_fine hbr
        unfold TBytes at hq7
        rw [HD.out] at hq7
        rcases hq7 with ⟨hno, rfl, rfl⟩ | ⟨hyes, rfl, rfl⟩
        · have hnot : ¬ ReadOk g.data l := fun h => hno ⟨HG.out, by have := (HRT.out.1 h).1; rwa [HD.out] at this⟩
          have HNOT := hide hnot
          obtain rfl : n7 = 0 := by simpa using hs7.len.symm
          clear hno hnot
          go_wp2_with fail
          exact bodyPost_ret (v := .tuple #[.agg #[.slice none 0 0], .int .i64 4]) (by simp [results, Tryd.results42, go_sem, put_same rr]) rfl ⟨hbr.setCell (by simp) _, none, 0, 0, [], 4, rfl, Sl.nil_ _, .inr (.inr ⟨HG.out, HNOT.out, rfl, rfl⟩)⟩
        · have HEQ := hide (equal_any hs7 hl7)
          by_cases heq : tabL (tabOf (d + 1) l) = l
          · have hok : ReadOk g.data l := HRT.out.2 ⟨by rw [HD.out]; exact hyes.2, heq⟩
            have HOK := hide hok
            have he2 : decide (tabL (tabOf (d + 1) l) = l) = true := decide_eq_true heq
            rw [he2] at HEQ
            have h7 := ho.below entR_fine hb7
            clear heq hok he2 hyes
            go_wp2_with fail
            refine HEQ.out.mono ?_
            rintro e w8 ⟨rfl, rfl⟩
            go_wp2_with fail
            exact bodyPost_ret (v := .tuple #[.agg #[.slice A1 (d + 1) c1], .int .i64 0]) (by simp [results, Tryd.results42, go_sem, put_same rr]) rfl ⟨hbr.setCell (by simp) _, A1, d + 1, c1, _, 0, rfl, entNew (entPut h7 _ _ (by show w.heap.size + 1 < w1.heap.size + 1; omega)) (by omega), .inr (.inl ⟨HG.out, HOK.out, rfl, by rw [HD.out, show ((d : Int) + 1).toNat = d + 1 by omega]⟩)⟩
          · have hnot : ¬ ReadOk g.data l := fun h => heq (HRT.out.1 h).2
            have HNOT := hide hnot
            have he2 : decide (tabL (tabOf (d + 1) l) = l) = false := decide_eq_false heq
            rw [he2] at HEQ
            clear heq hnot he2 hyes
            go_wp2_with fail
            refine HEQ.out.mono ?_
            rintro e w8 ⟨rfl, rfl⟩
            go_wp2_with fail
            exact bodyPost_ret (v := .tuple #[.agg #[.slice none 0 0], .int .i64 4]) (by simp [results, Tryd.results42, go_sem, put_same rr]) rfl ⟨hbr.setCell (by simp) _, none, 0, 0, [], 4, rfl, Sl.nil_ _, .inr (.inr ⟨HG.out, HNOT.out, rfl, rfl⟩)⟩
  · have he : geoErr g = 1 := if_neg hG
    rw [he] at hck
    unfold Geo.v at hck ⊢
    have HCK := hide hck
    have HG := hide hG
    clear hck he hG
    go_enter Tryd.func42, Tryd.ntmps42
    go_wp2_with fail
    refine (HCK.out _).mono ?_
    rintro e w1 ⟨rfl, hb1⟩
    obtain ⟨p0, p1, p2, p3, p4, pr, pf, hbw⟩ := BX.out w1 hb1
    go_wp2_with fail
    exact bodyPost_ret (v := .tuple #[.agg #[.slice none 0 0], .int .i64 1]) (by simp [results, Tryd.results42, go_sem, put_same pr]) rfl ⟨hbw.setCell (by simp) _, none, 0, 0, [], 1, rfl, Sl.nil_ _, .inl ⟨HG.out, rfl, rfl⟩⟩

end Go.Proofs.YtdcoholjnlndgaaDoor
