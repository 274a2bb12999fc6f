/-
  Plain: rows of bytes turned by each other.
  Plain: what is known of a zone.
  Contracts: zone.begin and its closure; slices.IndexFunc and ContainsFunc over rows.
  Contracts: casematelaw07.Some; casemateref01.Geometry; casemateref08.in, What, At, Entry, Table, Had.
-/
import Derived.Test.YtdcoholjnlndgaaDoorWords
import Derived.Laws.BitsAllLaws
import Derived.Test.YtdcoholjnlndgaaDoorTabP
import Derived.Test.YtdcoholjnlndgaaDoorTabC
import Derived.Test.YtdcoholjnlndgaaDoorSum
namespace Go.Proofs.YtdcoholjnlndgaaDoor
open Go.RowKit
set_option linter.unusedVariables false

/-- Two rows of bytes, xored as far as both reach. -/
def zx (a b : List UInt8) : List UInt8 := List.zipWith (· ^^^ ·) a b
theorem zx_len (a b : List UInt8) : (zx a b).length = min a.length b.length := List.length_zipWith
theorem xor_u8 (a b : UInt8) : bits .xor .u8 (a.toNat : Int) (b.toNat : Int) = ((a ^^^ b).toNat : Int) := by
  rw [u8_xor_nat _ _ a.toNat_lt b.toNat_lt, UInt8.toNat_xor]
theorem zx_step (xs ys : List UInt8) (k : Nat) (hx : k < xs.length) (hy : k < ys.length) :
    (zx (xs.take k) (ys.take k) ++ xs.drop k).set k (xs[k] ^^^ ys[k]) = zx (xs.take (k + 1)) (ys.take (k + 1)) ++ xs.drop (k + 1) := by
  have hl : (zx (xs.take k) (ys.take k)).length = k := by simp [zx]; omega
  rw [List.set_append_right _ _ (by omega), hl, Nat.sub_self, List.drop_eq_getElem_cons hx, List.set_cons_zero, List.take_succ_eq_append_getElem hx, List.take_succ_eq_append_getElem hy]
  unfold zx
  rw [List.zipWith_append (by simp; omega)]
  simp
theorem zx_at (xs ys : List UInt8) (k : Nat) (hx : k < xs.length) (hy : k < ys.length) : (zx (xs.take k) (ys.take k) ++ xs.drop k)[k]? = some xs[k] := by
  have hl : (zx (xs.take k) (ys.take k)).length = k := by simp [zx]; omega
  rw [List.getElem?_append_right (by omega), hl, Nat.sub_self, List.getElem?_drop, Nat.add_zero, List.getElem?_eq_getElem hx]
theorem all_take_step {α : Type} {L : List α} {p : α → Bool} {k : Nat} {x : α} (hx : L[k]? = some x) (h : (L.take k).all p = true) (hp : p x = true) : (L.take (k + 1)).all p = true := by
  obtain ⟨h1, e1⟩ := List.getElem?_eq_some_iff.1 hx
  rw [List.take_succ_eq_append_getElem h1, e1, List.all_append, h]
  simp [hp]
/-- A row of rows, each as long, xored one behind the other onto a first one. -/
def zxs (o : List UInt8) (L : List (List UInt8)) : List UInt8 := L.foldl zx o
theorem zxs_step {o : List UInt8} {L : List (List UInt8)} {k : Nat} {x : List UInt8} (h : L[k]? = some x) : zx (zxs o (L.take k)) x = zxs o (L.take (k + 1)) := by
  obtain ⟨h1, e1⟩ := List.getElem?_eq_some_iff.1 h
  rw [List.take_succ_eq_append_getElem h1, e1]
  simp [zxs]
theorem zx_comm (a b : List UInt8) : zx a b = zx b a := by
  unfold zx
  rw [List.zipWith_comm]
  congr
  funext x y
  exact UInt8.xor_comm _ _
theorem zx_back (a b : List UInt8) (h : b.length = a.length) : zx (zx a b) b = a := by
  unfold zx
  apply List.ext_getElem
  · simp; omega
  · intro i h1 h2
    simp [UInt8.xor_assoc]
theorem zx_self (a : List UInt8) : zx a a = List.replicate a.length 0 := by
  unfold zx
  apply List.ext_getElem
  · simp
  · intro i h1 h2
    simp
/-- The parity of a row, and the row without one: what is left is that one. -/
theorem zxs_zero (N : Nat) (x : List UInt8) (h : x.length = N) : zx (List.replicate N 0) x = x := by
  unfold zx
  apply List.ext_getElem
  · simp; omega
  · intro i h1 h2
    simp
theorem zx_assoc (a b c : List UInt8) : zx (zx a b) c = zx a (zx b c) := by
  unfold zx
  apply List.ext_getElem
  · simp [Nat.min_assoc]
  · intro i h1 h2
    simp [UInt8.xor_assoc]
theorem zx_right_comm (a b c : List UInt8) : zx (zx a b) c = zx (zx a c) b := by rw [zx_assoc, zx_comm b c, ← zx_assoc]
theorem zxs_swap (o x : List UInt8) (L : List (List UInt8)) : zxs (zx o x) L = zx (zxs o L) x := by
  induction L generalizing o with
  | nil => rfl
  | cons y L ih => simp only [zxs, List.foldl_cons] at ih ⊢; rw [zx_right_comm, ih]
theorem zxs_len (o : List UInt8) (L : List (List UInt8)) (N : Nat) (ho : o.length = N) (hL : ∀ l ∈ L, l.length = N) : (zxs o L).length = N := by
  induction L generalizing o with
  | nil => exact ho
  | cons y L ih =>
    simp only [zxs, List.foldl_cons]
    exact ih (zx o y) (by rw [zx_len, ho, hL y (by simp)]; omega) (fun l hl => hL l (by simp [hl]))
theorem zxs_cons_erase (o : List UInt8) (L : List (List UInt8)) (k : Nat) (hk : k < L.length) : zxs o L = zx (zxs o (L.eraseIdx k)) L[k] := by
  induction L generalizing o k with
  | nil => simp at hk
  | cons y L ih =>
    cases k with
    | zero =>
      show zxs (zx o y) L = zx (zxs o L) y
      exact zxs_swap o y L
    | succ k =>
      show zxs (zx o y) L = _
      rw [ih (zx o y) k (by simpa using hk)]
      rfl
theorem zx_self' (a : List UInt8) (N : Nat) (h : a.length = N) : zx a a = List.replicate N 0 := by rw [zx_self, h]
/-- All rows of length N, from any start: xored twice over the same rows, it is the start. -/
theorem zxs_twice (o : List UInt8) (L : List (List UInt8)) (N : Nat) (ho : o.length = N) (hL : ∀ l ∈ L, l.length = N) : zxs (zxs o L) L = o := by
  induction L generalizing o with
  | nil => rfl
  | cons y L ih =>
    have hy : y.length = N := hL y (by simp)
    have hL' : ∀ l ∈ L, l.length = N := fun l hl => hL l (by simp [hl])
    show zxs (zx (zxs (zx o y) L) y) L = o
    rw [zxs_swap o y L, zx_assoc, zx_self' y N hy]
    have h1 : zx (zxs o L) (List.replicate N 0) = zxs o L := by rw [zx_comm, zxs_zero N _ (zxs_len o L N ho hL')]
    rw [h1, ih o ho hL']
theorem rest_is (L : List (List UInt8)) (N k : Nat) (hL : ∀ l ∈ L, l.length = N) (hk : k < L.length) : zxs (zxs (List.replicate N 0) L) (L.eraseIdx k) = L[k] := by
  have hE : ∀ l ∈ L.eraseIdx k, l.length = N := fun l hl => hL l (List.mem_of_mem_eraseIdx hl)
  rw [zxs_cons_erase _ L k hk, zxs_swap, zxs_twice _ _ N (by simp) hE, zxs_zero N _ (hL _ (List.getElem_mem hk))]
/-- The rows of a list but one. -/
theorem but_step {α : Type} {L : List α} {k miss : Nat} {x : α} (h : L[k]? = some x) (hne : k ≠ miss) : (L.take (k + 1)).eraseIdx miss = (L.take k).eraseIdx miss ++ [x] := by
  obtain ⟨h1, e1⟩ := List.getElem?_eq_some_iff.1 h
  have hl : (L.take k).length = k := by rw [List.length_take]; omega
  rw [List.take_succ_eq_append_getElem h1, e1]
  by_cases hlt : miss < k
  · rw [List.eraseIdx_append_of_lt_length (by omega)]
  · rw [List.eraseIdx_of_length_le (by simp; omega), List.eraseIdx_of_length_le (by omega)]
theorem but_miss {α : Type} {L : List α} {k : Nat} {x : α} (h : L[k]? = some x) : (L.take (k + 1)).eraseIdx k = (L.take k).eraseIdx k := by
  obtain ⟨h1, e1⟩ := List.getElem?_eq_some_iff.1 h
  have hl : (L.take k).length = k := by rw [List.length_take]; omega
  rw [List.take_succ_eq_append_getElem h1, e1, List.eraseIdx_append_of_length_le (by omega), show (L.take k).eraseIdx k = L.take k from List.eraseIdx_of_length_le (by omega), hl]
  simp
theorem zxs_snoc (o : List UInt8) (L : List (List UInt8)) (x : List UInt8) : zxs o (L ++ [x]) = zx (zxs o L) x := by simp [zxs]

end Go.Proofs.YtdcoholjnlndgaaDoor

namespace Go.Proofs.YtdcoholjnlndgaaDoor
open Go.RowKit
set_option linter.unusedVariables false

/-- What is had of all that are not lost, but of one, up to n. -/
def othN (L : List Ent) (H : List (List UInt8)) (i n : Nat) : List (List UInt8) :=
  (List.range n).filterMap fun j => if j = i ∨ (L[j]?.map (·.lost)).getD false = true then none else H[j]?
theorem othN_succ (L : List Ent) (H : List (List UInt8)) (i n : Nat) : othN L H i (n + 1) = othN L H i n ++ (if n = i ∨ (L[n]?.map (·.lost)).getD false = true then none else H[n]?).toList := by
  rw [othN, List.range_succ, List.filterMap_append]
  congr 1
theorem othN_skip {L : List Ent} {H : List (List UInt8)} {i n : Nat} (h : n = i ∨ (L[n]?.map (·.lost)).getD false = true) : othN L H i (n + 1) = othN L H i n := by
  rw [othN_succ, if_pos h]; simp
theorem othN_more {L : List Ent} {H : List (List UInt8)} {i n : Nat} {e : Ent} {x : List UInt8} (hi : n ≠ i) (he : L[n]? = some e) (hl : e.lost = false) (hx : H[n]? = some x) : othN L H i (n + 1) = othN L H i n ++ [x] := by
  rw [othN_succ, if_neg (by simp [hi, he, hl]), hx]; rfl
/-- One of a zone's; nothing: it is not known. -/
def knownL (L : List Ent) (H : List (List UInt8)) (i : Nat) : List UInt8 :=
  match L[i]?, H[i]? with
  | some e, some h =>
    if e.lost then [] else if h ≠ [] then h else if [] ∈ othN L H i H.length then [] else
      if (crc (zxs (List.replicate 8 0) (othN L H i H.length)) : Int) = e.sum then zxs (List.replicate 8 0) (othN L H i H.length) else []
  | _, _ => []

/-- As many as there are to be, each a block, or nothing. -/
def HadOk (d : Int) (H : List (List UInt8)) : Prop := (H.length : Int) = d + 1 ∧ ∀ h ∈ H, h.length = 0 ∨ h.length = 8
instance (d : Int) (H : List (List UInt8)) : Decidable (HadOk d H) := by unfold HadOk; infer_instance

theorem oth_mem {L : List Ent} {H : List (List UInt8)} {i n : Nat} {x : List UInt8} (h : x ∈ othN L H i n) : x ∈ H := by
  simp only [othN, List.mem_filterMap] at h
  obtain ⟨j, _, hj⟩ := h
  split at hj
  · cases hj
  · exact List.mem_of_getElem? hj
theorem oth_len {L : List Ent} {H : List (List UInt8)} {i n : Nat} : (othN L H i n).length ≤ n := by
  have := List.length_filterMap_le (f := fun j => if j = i ∨ (L[j]?.map (·.lost)).getD false = true then none else H[j]?) (l := List.range n)
  rwa [List.length_range] at this
theorem known_len {d : Int} {L : List Ent} {H : List (List UInt8)} (hH : HadOk d H) (i : Nat) : (knownL L H i).length = 0 ∨ (knownL L H i).length = 8 := by
  unfold knownL
  split
  · rename_i e h he hh
    split
    · exact .inl rfl
    · split
      · exact hH.2 h (List.mem_of_getElem? hh)
      · split
        · exact .inl rfl
        · rename_i hno
          split
          · right
            refine zxs_len _ _ 8 (by simp) fun l hl => ?_
            rcases hH.2 l (oth_mem hl) with h0 | h0
            · exact absurd (List.eq_nil_of_length_eq_zero h0 ▸ hl) hno
            · exact h0
          · exact .inl rfl
  · exact .inl rfl

end Go.Proofs.YtdcoholjnlndgaaDoor

namespace Go.Proofs.YtdcoholjnlndgaaDoor
open Go.RowKit
set_option linter.unusedVariables false
set_option maxRecDepth 100000

/-- A block, or nothing. -/
def BlkOk (l : List UInt8) : Prop := l.length = 0 ∨ l.length = 8
instance (l : List UInt8) : Decidable (BlkOk l) := by unfold BlkOk; infer_instance

/-- A zone that is looked at: its block's cells. -/
def Look (w : World) (N : Nat) (d : Nat) (V V' : Value) : Prop := N < w.heap.size ∧ w.cell? ⟨N, 0, none⟩ = some (.int .i64 d) ∧ w.cell? ⟨N, 1, none⟩ = some V ∧ w.cell? ⟨N, 2, none⟩ = some V'
theorem Look.on {w w' : World} {N d : Nat} {V V' : Value} (h : Look w N d V V') (hb : Below w.heap.size w w') : Look w' N d V V' :=
  ⟨Nat.lt_of_lt_of_le h.1 hb.size, (hb.cell h.1).trans h.2.1, (hb.cell h.1).trans h.2.2.1, (hb.cell h.1).trans h.2.2.2⟩

/-- What zone.begin tells. -/
def BeginPost (w : World) (g : Geo) (L : List Ent) (H : List (List UInt8)) (V V' : Value) (e : Ending) (w' : World) : Prop :=
  Below w.heap.size w w' ∧
  ((¬ (GeoOk g ∧ TabOk g.data L) ∧ e = .returned (.tuple #[.pointer none, .int .i64 1])) ∨
   ((GeoOk g ∧ TabOk g.data L) ∧ ¬ HadOk g.data H ∧ e = .returned (.tuple #[.pointer none, .int .i64 2])) ∨
   ((GeoOk g ∧ TabOk g.data L) ∧ HadOk g.data H ∧ ∃ N, w.heap.size ≤ N ∧ e = .returned (.tuple #[.pointer (some ⟨N, 0, none⟩), .int .i64 0]) ∧ Look w' N g.data.toNat V V'))

end Go.Proofs.YtdcoholjnlndgaaDoor

namespace Go.Proofs.YtdcoholjnlndgaaDoor
open Go.RowKit
set_option linter.unusedVariables false
set_option maxRecDepth 100000

/-- int(uint(i) % n). -/
def um (i : Int) (n : Int) : Int := wrap64 ((IntKind.u64.wrap i).tmod n)
theorem um_is (i : Int) (n : Nat) (hn : 1 ≤ n) (hn' : n ≤ 4294967296) : ∃ k : Nat, um i n = (k : Int) ∧ k < n := by
  have h0 : 0 ≤ IntKind.u64.wrap i := by rw [IntKind.wrap_u64]; exact Int.emod_nonneg _ (by omega)
  have h1 : (IntKind.u64.wrap i).tmod (n : Int) = IntKind.u64.wrap i % (n : Int) := Int.tmod_eq_emod_of_nonneg h0
  have h2 : 0 ≤ IntKind.u64.wrap i % (n : Int) := Int.emod_nonneg _ (by omega)
  have h3 : IntKind.u64.wrap i % (n : Int) < n := Int.emod_lt_of_pos _ (by omega)
  unfold um
  rw [h1, IntWalk.wrap64_in _ ⟨by omega, by omega⟩]
  exact ⟨(IntKind.u64.wrap i % (n : Int)).toNat, by omega, by omega⟩

/-- A right geometry, of any numbers. -/
def someG (z d s l a : Int) : Geo := ⟨1 + um z 4, 1 + um d 4, um s 3, 14 + um l 17, 1 + um a 3⟩
theorem someG_ok (z d s l a : Int) : GeoOk (someG z d s l a) := by
  obtain ⟨k1, e1, h1⟩ := um_is z 4 (by omega) (by omega)
  obtain ⟨k2, e2, h2⟩ := um_is d 4 (by omega) (by omega)
  obtain ⟨k3, e3, h3⟩ := um_is s 3 (by omega) (by omega)
  obtain ⟨k4, e4, h4⟩ := um_is l 17 (by omega) (by omega)
  obtain ⟨k5, e5, h5⟩ := um_is a 3 (by omega) (by omega)
  unfold someG
  rw [show um z 4 = um z ((4 : Nat) : Int) from rfl, show um d 4 = um d ((4 : Nat) : Int) from rfl, show um s 3 = um s ((3 : Nat) : Int) from rfl, show um l 17 = um l ((17 : Nat) : Int) from rfl, show um a 3 = um a ((3 : Nat) : Int) from rfl, e1, e2, e3, e4, e5]
  exact ⟨⟨by show (1 : Int) ≤ 1 + k1; omega, by show 1 + (k1 : Int) ≤ 4; omega⟩, ⟨by show (1 : Int) ≤ 1 + k2; omega, by show 1 + (k2 : Int) ≤ 4; omega⟩, ⟨by show (0 : Int) ≤ k3; omega, by show (k3 : Int) ≤ 2; omega⟩, ⟨by show (14 : Int) ≤ 14 + k4; omega, by show 14 + (k4 : Int) ≤ 30; omega⟩, by show (1 : Int) ≤ 1 + k5; omega, by show 1 + (k5 : Int) ≤ 3; omega⟩

theorem um_zero (n : Int) : um 0 n = 0 := by
  unfold um
  rw [IntKind.wrap_u64, Int.zero_emod, Int.zero_tmod, IntWalk.wrap64_in _ ⟨by omega, by omega⟩]
theorem some_zero : someG 0 0 0 0 0 = ⟨1, 1, 0, 14, 1⟩ := by
  unfold someG
  simp only [um_zero]
  rfl
theorem geo_one : GeoOk ⟨1, 1, 0, 14, 1⟩ := by decide

set_option maxHeartbeats 1000000 in
theorem some_any (z d s l a : Int) (hz : InI z) (hd : InI d) (hs : InI s) (hl : InI l) (ha : InI a) (w : World) :
    Calls Tryd.prog 15 #[.int .i64 z, .int .i64 d, .int .i64 s, .int .i64 l, .int .i64 a] w fun e w' => e = .returned (someG z d s l a).v ∧ Below w.heap.size w w' := by
  obtain ⟨k1, e1, h1⟩ := um_is z 4 (by omega) (by omega)
  obtain ⟨k2, e2, h2⟩ := um_is d 4 (by omega) (by omega)
  obtain ⟨k3, e3, h3⟩ := um_is s 3 (by omega) (by omega)
  obtain ⟨k4, e4, h4⟩ := um_is l 17 (by omega) (by omega)
  obtain ⟨k5, e5, h5⟩ := um_is a 3 (by omega) (by omega)
  unfold someG
  rw [show um z 4 = um z ((4 : Nat) : Int) from rfl, show um d 4 = um d ((4 : Nat) : Int) from rfl, show um s 3 = um s ((3 : Nat) : Int) from rfl, show um l 17 = um l ((17 : Nat) : Int) from rfl, show um a 3 = um a ((3 : Nat) : Int) from rfl, e1, e2, e3, e4, e5]
  replace e1 : wrap64 ((IntKind.u64.wrap z).tmod 4) = (k1 : Int) := e1
  replace e2 : wrap64 ((IntKind.u64.wrap d).tmod 4) = (k2 : Int) := e2
  replace e3 : wrap64 ((IntKind.u64.wrap s).tmod 3) = (k3 : Int) := e3
  replace e4 : wrap64 ((IntKind.u64.wrap l).tmod 17) = (k4 : Int) := e4
  replace e5 : wrap64 ((IntKind.u64.wrap a).tmod 3) = (k5 : Int) := e5
  unfold Geo.v
  dsimp only
  go_enter Tryd.func15, Tryd.ntmps15
  go_wp2_with fail
  exact bodyPost_ret (v := .agg #[.int .i64 (1 + k1), .int .i64 (1 + k2), .int .i64 k3, .int .i64 (14 + k4), .int .i64 (1 + k5)]) (by simp [results, Tryd.results15, go_sem]) rfl ⟨rfl, alloc_below _ _⟩

theorem geo_i8 (n lo hi : Int) (w : World) : Calls Tryd.prog 19 #[.int .i64 n, .int .i64 lo, .int .i64 hi] w fun e w' => e = .returned (.bool (decide (lo ≤ n ∧ n ≤ hi))) ∧ w = w' := by
  by_cases h1 : lo ≤ n
  · by_cases h2 : n ≤ hi
    · have e1 : decide (lo ≤ n ∧ n ≤ hi) = true := by simp [h1, h2]
      rw [e1]
      go_enter Tryd.func19, Tryd.ntmps19
      go_wp2_with fail
      go_ret
      exact ⟨rfl, rfl⟩
    · have e1 : decide (lo ≤ n ∧ n ≤ hi) = false := by simp [h2]
      rw [e1]
      go_enter Tryd.func19, Tryd.ntmps19
      go_wp2_with fail
      go_ret
      exact ⟨rfl, rfl⟩
  · have e1 : decide (lo ≤ n ∧ n ≤ hi) = false := by simp [h1]
    rw [e1]
    go_enter Tryd.func19, Tryd.ntmps19
    go_wp2_with fail
    go_ret
    exact ⟨rfl, rfl⟩

theorem entry8_any {A : Option Addr} {n c : Nat} {l : List UInt8} {w : World} (s : Int) (ha : Bs w A n c l) (hn : n ≤ 60000) :
    Calls Tryd.prog 34 #[.int .i64 s, .slice A n c] w fun e w' => e = .returned (Ent.v ⟨s, crc l, false⟩) ∧ Below w.heap.size w w' := by
  have hb0 := alloc_below w (.cells #[.int .i64 0, .int .i64 0, .bool false] 80)
  have hs := ref_sum (ha.on byteR_fine hb0) (by omega)
  obtain ⟨K, hK⟩ : ∃ K, K = crc l := ⟨_, rfl⟩
  rw [← hK] at hs ⊢
  have HS := hide hs
  clear hs hK
  unfold Ent.v
  dsimp only
  go_enter Tryd.func34, Tryd.ntmps34
  go_wp2_with fail
  refine HS.out.mono ?_
  rintro e w1 ⟨rfl, rfl⟩
  go_wp2_with fail
  exact bodyPost_ret (v := .agg #[.int .i64 s, .int .i64 K, .bool false]) (by simp [results, Tryd.results34, go_sem]) rfl ⟨rfl, alloc_below _ _⟩

set_option maxHeartbeats 2000000 in
theorem rgeo_any (g : Geo) (w : World) :
    Calls Tryd.prog 7 #[g.v] w fun e w' => e = .returned (.bool (decide (GeoOk g))) ∧ Below w.heap.size w w' := by
  have h0 := geo_bits g
  obtain ⟨z, d, s, l, a⟩ := g
  dsimp only at h0
  have i1 := fun w => in_any z 1 4 w
  have i2 := fun w => in_any d 1 4 w
  have i3 := fun w => in_any s 0 2 w
  have i4 := fun w => in_any l 14 30 w
  have i5 := fun w => in_any a 1 3 w
  have hb := alloc_below w (.cells #[.int .i64 z, .int .i64 d, .int .i64 s, .int .i64 l, .int .i64 a] 23)
  unfold Geo.v
  dsimp only
  rw [h0]
  obtain ⟨b1, e1⟩ : ∃ b, b = decide (1 ≤ z ∧ z ≤ 4) := ⟨_, rfl⟩
  obtain ⟨b2, e2⟩ : ∃ b, b = decide (1 ≤ d ∧ d ≤ 4) := ⟨_, rfl⟩
  obtain ⟨b3, e3⟩ : ∃ b, b = decide (0 ≤ s ∧ s ≤ 2) := ⟨_, rfl⟩
  obtain ⟨b4, e4⟩ : ∃ b, b = decide (14 ≤ l ∧ l ≤ 30) := ⟨_, rfl⟩
  obtain ⟨b5, e5⟩ : ∃ b, b = decide (1 ≤ a ∧ a ≤ 3) := ⟨_, rfl⟩
  rw [← e1] at i1 ⊢
  rw [← e2] at i2 ⊢
  rw [← e3] at i3 ⊢
  rw [← e4] at i4 ⊢
  rw [← e5] at i5 ⊢
  have I1 := hide i1
  have I2 := hide i2
  have I3 := hide i3
  have I4 := hide i4
  have I5 := hide i5
  clear h0 e1 e2 e3 e4 e5 i1 i2 i3 i4 i5
  cases b1
  · go_enter Tryd.func7, Tryd.ntmps7
    go_wp2_with fail
    refine (I1.out _).mono ?_
    rintro e w1 ⟨rfl, rfl⟩
    go_wp2_with fail
    go_ret
    exact ⟨rfl, hb⟩
  cases b2
  · go_enter Tryd.func7, Tryd.ntmps7
    go_wp2_with fail
    refine (I1.out _).mono ?_
    rintro e w1 ⟨rfl, rfl⟩
    go_wp2_with fail
    refine (I2.out _).mono ?_
    rintro e w1 ⟨rfl, rfl⟩
    go_wp2_with fail
    go_ret
    exact ⟨rfl, hb⟩
  cases b3
  · go_enter Tryd.func7, Tryd.ntmps7
    go_wp2_with fail
    refine (I1.out _).mono ?_
    rintro e w1 ⟨rfl, rfl⟩
    go_wp2_with fail
    refine (I2.out _).mono ?_
    rintro e w1 ⟨rfl, rfl⟩
    go_wp2_with fail
    refine (I3.out _).mono ?_
    rintro e w1 ⟨rfl, rfl⟩
    go_wp2_with fail
    go_ret
    exact ⟨rfl, hb⟩
  cases b4
  · go_enter Tryd.func7, Tryd.ntmps7
    go_wp2_with fail
    refine (I1.out _).mono ?_
    rintro e w1 ⟨rfl, rfl⟩
    go_wp2_with fail
    refine (I2.out _).mono ?_
    rintro e w1 ⟨rfl, rfl⟩
    go_wp2_with fail
    refine (I3.out _).mono ?_
    rintro e w1 ⟨rfl, rfl⟩
    go_wp2_with fail
    refine (I4.out _).mono ?_
    rintro e w1 ⟨rfl, rfl⟩
    go_wp2_with fail
    go_ret
    exact ⟨rfl, hb⟩
  cases b5
  all_goals
    go_enter Tryd.func7, Tryd.ntmps7
    go_wp2_with fail
    refine (I1.out _).mono ?_
    rintro e w1 ⟨rfl, rfl⟩
    go_wp2_with fail
    refine (I2.out _).mono ?_
    rintro e w1 ⟨rfl, rfl⟩
    go_wp2_with fail
    refine (I3.out _).mono ?_
    rintro e w1 ⟨rfl, rfl⟩
    go_wp2_with fail
    refine (I4.out _).mono ?_
    rintro e w1 ⟨rfl, rfl⟩
    go_wp2_with fail
    refine (I5.out _).mono ?_
    rintro e w1 ⟨rfl, rfl⟩
    go_wp2_with fail
    go_ret
    exact ⟨rfl, hb⟩

end Go.Proofs.YtdcoholjnlndgaaDoor
