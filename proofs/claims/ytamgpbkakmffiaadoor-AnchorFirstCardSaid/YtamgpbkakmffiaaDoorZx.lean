/-
  Plain: rows of bytes turned by each other.
-/
import Derived.Test.YtamgpbkakmffiaaDoorWords
import Derived.Laws.BitsAllLaws
namespace Go.Proofs.YtamgpbkakmffiaaDoor
open Go.RowKit
set_option linter.unusedVariables false

/-- Two rows of bytes, xored as far as both reach. -/
def zx (a b : List UInt8) : List UInt8 := List.zipWith (· ^^^ ·) a b
theorem zx_len (a b : List UInt8) : (zx a b).length = min a.length b.length := List.length_zipWith
theorem xor_u8 (a b : UInt8) : bits .xor .u8 (a.toNat : Int) (b.toNat : Int) = ((a ^^^ b).toNat : Int) := by
  rw [u8_xor_nat _ _ a.toNat_lt b.toNat_lt, UInt8.toNat_xor]
theorem zx_step (xs ys : List UInt8) (k : Nat) (hx : k < xs.length) (hy : k < ys.length) :
    (zx (xs.take k) (ys.take k) ++ xs.drop k).set k (xs[k] ^^^ ys[k]) = zx (xs.take (k + 1)) (ys.take (k + 1)) ++ xs.drop (k + 1) := by
  have hl : (zx (xs.take k) (ys.take k)).length = k := by simp [zx]; omega
  rw [List.set_append_right _ _ (by omega), hl, Nat.sub_self, List.drop_eq_getElem_cons hx, List.set_cons_zero, List.take_succ_eq_append_getElem hx, List.take_succ_eq_append_getElem hy]
  unfold zx
  rw [List.zipWith_append (by simp; omega)]
  simp
theorem zx_at (xs ys : List UInt8) (k : Nat) (hx : k < xs.length) (hy : k < ys.length) : (zx (xs.take k) (ys.take k) ++ xs.drop k)[k]? = some xs[k] := by
  have hl : (zx (xs.take k) (ys.take k)).length = k := by simp [zx]; omega
  rw [List.getElem?_append_right (by omega), hl, Nat.sub_self, List.getElem?_drop, Nat.add_zero, List.getElem?_eq_getElem hx]
theorem all_take_step {α : Type} {L : List α} {p : α → Bool} {k : Nat} {x : α} (hx : L[k]? = some x) (h : (L.take k).all p = true) (hp : p x = true) : (L.take (k + 1)).all p = true := by
  obtain ⟨h1, e1⟩ := List.getElem?_eq_some_iff.1 hx
  rw [List.take_succ_eq_append_getElem h1, e1, List.all_append, h]
  simp [hp]
/-- A row of rows, each as long, xored one behind the other onto a first one. -/
def zxs (o : List UInt8) (L : List (List UInt8)) : List UInt8 := L.foldl zx o
theorem zxs_step {o : List UInt8} {L : List (List UInt8)} {k : Nat} {x : List UInt8} (h : L[k]? = some x) : zx (zxs o (L.take k)) x = zxs o (L.take (k + 1)) := by
  obtain ⟨h1, e1⟩ := List.getElem?_eq_some_iff.1 h
  rw [List.take_succ_eq_append_getElem h1, e1]
  simp [zxs]
theorem zx_comm (a b : List UInt8) : zx a b = zx b a := by
  unfold zx
  rw [List.zipWith_comm]
  congr
  funext x y
  exact UInt8.xor_comm _ _
theorem zx_back (a b : List UInt8) (h : b.length = a.length) : zx (zx a b) b = a := by
  unfold zx
  apply List.ext_getElem
  · simp; omega
  · intro i h1 h2
    simp [UInt8.xor_assoc]
theorem zx_self (a : List UInt8) : zx a a = List.replicate a.length 0 := by
  unfold zx
  apply List.ext_getElem
  · simp
  · intro i h1 h2
    simp
/-- The parity of a row, and the row without one: what is left is that one. -/
theorem zxs_zero (N : Nat) (x : List UInt8) (h : x.length = N) : zx (List.replicate N 0) x = x := by
  unfold zx
  apply List.ext_getElem
  · simp; omega
  · intro i h1 h2
    simp
theorem zx_assoc (a b c : List UInt8) : zx (zx a b) c = zx a (zx b c) := by
  unfold zx
  apply List.ext_getElem
  · simp [Nat.min_assoc]
  · intro i h1 h2
    simp [UInt8.xor_assoc]
theorem zx_right_comm (a b c : List UInt8) : zx (zx a b) c = zx (zx a c) b := by rw [zx_assoc, zx_comm b c, ← zx_assoc]
theorem zxs_swap (o x : List UInt8) (L : List (List UInt8)) : zxs (zx o x) L = zx (zxs o L) x := by
  induction L generalizing o with
  | nil => rfl
  | cons y L ih => simp only [zxs, List.foldl_cons] at ih ⊢; rw [zx_right_comm, ih]
theorem zxs_len (o : List UInt8) (L : List (List UInt8)) (N : Nat) (ho : o.length = N) (hL : ∀ l ∈ L, l.length = N) : (zxs o L).length = N := by
  induction L generalizing o with
  | nil => exact ho
  | cons y L ih =>
    simp only [zxs, List.foldl_cons]
    exact ih (zx o y) (by rw [zx_len, ho, hL y (by simp)]; omega) (fun l hl => hL l (by simp [hl]))
theorem zxs_cons_erase (o : List UInt8) (L : List (List UInt8)) (k : Nat) (hk : k < L.length) : zxs o L = zx (zxs o (L.eraseIdx k)) L[k] := by
  induction L generalizing o k with
  | nil => simp at hk
  | cons y L ih =>
    cases k with
    | zero =>
      show zxs (zx o y) L = zx (zxs o L) y
      exact zxs_swap o y L
    | succ k =>
      show zxs (zx o y) L = _
      rw [ih (zx o y) k (by simpa using hk)]
      rfl
theorem zx_self' (a : List UInt8) (N : Nat) (h : a.length = N) : zx a a = List.replicate N 0 := by rw [zx_self, h]
/-- All rows of length N, from any start: xored twice over the same rows, it is the start. -/
theorem zxs_twice (o : List UInt8) (L : List (List UInt8)) (N : Nat) (ho : o.length = N) (hL : ∀ l ∈ L, l.length = N) : zxs (zxs o L) L = o := by
  induction L generalizing o with
  | nil => rfl
  | cons y L ih =>
    have hy : y.length = N := hL y (by simp)
    have hL' : ∀ l ∈ L, l.length = N := fun l hl => hL l (by simp [hl])
    show zxs (zx (zxs (zx o y) L) y) L = o
    rw [zxs_swap o y L, zx_assoc, zx_self' y N hy]
    have h1 : zx (zxs o L) (List.replicate N 0) = zxs o L := by rw [zx_comm, zxs_zero N _ (zxs_len o L N ho hL')]
    rw [h1, ih o ho hL']
theorem rest_is (L : List (List UInt8)) (N k : Nat) (hL : ∀ l ∈ L, l.length = N) (hk : k < L.length) : zxs (zxs (List.replicate N 0) L) (L.eraseIdx k) = L[k] := by
  have hE : ∀ l ∈ L.eraseIdx k, l.length = N := fun l hl => hL l (List.mem_of_mem_eraseIdx hl)
  rw [zxs_cons_erase _ L k hk, zxs_swap, zxs_twice _ _ N (by simp) hE, zxs_zero N _ (hL _ (List.getElem_mem hk))]
/-- The rows of a list but one. -/
theorem but_step {α : Type} {L : List α} {k miss : Nat} {x : α} (h : L[k]? = some x) (hne : k ≠ miss) : (L.take (k + 1)).eraseIdx miss = (L.take k).eraseIdx miss ++ [x] := by
  obtain ⟨h1, e1⟩ := List.getElem?_eq_some_iff.1 h
  have hl : (L.take k).length = k := by rw [List.length_take]; omega
  rw [List.take_succ_eq_append_getElem h1, e1]
  by_cases hlt : miss < k
  · rw [List.eraseIdx_append_of_lt_length (by omega)]
  · rw [List.eraseIdx_of_length_le (by simp; omega), List.eraseIdx_of_length_le (by omega)]
theorem but_miss {α : Type} {L : List α} {k : Nat} {x : α} (h : L[k]? = some x) : (L.take (k + 1)).eraseIdx k = (L.take k).eraseIdx k := by
  obtain ⟨h1, e1⟩ := List.getElem?_eq_some_iff.1 h
  have hl : (L.take k).length = k := by rw [List.length_take]; omega
  rw [List.take_succ_eq_append_getElem h1, e1, List.eraseIdx_append_of_length_le (by omega), show (L.take k).eraseIdx k = L.take k from List.eraseIdx_of_length_le (by omega), hl]
  simp
theorem zxs_snoc (o : List UInt8) (L : List (List UInt8)) (x : List UInt8) : zxs o (L ++ [x]) = zx (zxs o L) x := by simp [zxs]

end Go.Proofs.YtamgpbkakmffiaaDoor
