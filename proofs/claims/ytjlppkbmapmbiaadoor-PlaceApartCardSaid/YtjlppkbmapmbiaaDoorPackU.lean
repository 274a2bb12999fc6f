/-
  Contracts: pack.Unrow, casematekeep.Ints.
-/
import Derived.Test.YtjlppkbmapmbiaaDoorRowO
namespace Go.Proofs.YtjlppkbmapmbiaaDoor
open Go.RowKit
set_option linter.unusedVariables false
set_option maxRecDepth 100000

/-- The numbers that bytes begin with. -/
def unrowI : List Int → List UInt8 → List Int
  | z :: s, xs => (num (xs.take z.toNat) : Int) :: unrowI s (xs.drop z.toNat)
  | [], _ => []

theorem unrowI_snoc {s : List Int} {xs : List UInt8} {k : Nat} {z : Int} (hs : s[k]? = some z) :
    unrowI (s.take k) xs ++ [(num ((xs.drop (sumN (s.take k))).take z.toNat) : Int)] = unrowI (s.take (k + 1)) xs := by
  induction k generalizing s xs with
  | zero =>
    cases s with
    | nil => simp at hs
    | cons b s =>
      simp at hs
      subst hs
      simp [unrowI, sumN]
  | succ k ih =>
    cases s with
    | nil => simp at hs
    | cons b s =>
      simp only [List.getElem?_cons_succ] at hs
      simp only [List.take_succ_cons, unrowI, sumN, List.cons_append]
      rw [← ih hs, List.drop_drop]

theorem sumN_mono {s : List Int} {k : Nat} : sumN (s.take k) ≤ sumN s := by
  induction s generalizing k with
  | nil => simp
  | cons b s ih =>
    cases k with
    | zero => simp [sumN]
    | succ k =>
      simp only [List.take_succ_cons, sumN]
      have := ih (k := k)
      omega

theorem unrow_row {l s : List Int} (h : l.length = s.length) (hf : FitAll l s) (r : List UInt8) : unrowI s (rowL l s ++ r) = l := by
  induction s generalizing l with
  | nil =>
    cases l with
    | nil => rfl
    | cons a l => simp at h
  | cons b s ih =>
    cases l with
    | nil => simp at h
    | cons a l =>
      have h0 := hf 0 a b rfl rfl
      have ht : FitAll l s := fun i n z h1 h2 => hf (i + 1) n z (by simpa using h1) (by simpa using h2)
      have hlen : (le b.toNat a.toNat).length = b.toNat := le_len _ _
      have e1 : (rowL (a :: l) (b :: s) ++ r).take b.toNat = le b.toNat a.toNat := by
        simp only [rowL, List.append_assoc]
        rw [List.take_append_of_le_length (by omega), List.take_of_length_le (by omega)]
      have e2 : (rowL (a :: l) (b :: s) ++ r).drop b.toNat = rowL l s ++ r := by
        simp only [rowL, List.append_assoc]
        rw [List.drop_append_of_le_length (by omega), List.drop_of_length_le (by omega), List.nil_append]
      have hlt : a.toNat < 256 ^ b.toNat := by
        have h1 := h0.2.1
        have h2 := h0.2.2
        have h3 : ((a.toNat : Nat) : Int) < ((256 ^ b.toNat : Nat) : Int) := by
          rw [Int.natCast_pow]
          have : (a.toNat : Int) = a := by omega
          rw [this]
          exact h2
        exact Int.ofNat_lt.1 h3
      rw [unrowI, e1, e2, ih (by simpa using h) ht, num_le, Nat.mod_eq_of_lt hlt]
      congr 1
      have h1 := h0.2.1
      omega

def UnrowPost (w : World) (xs : List UInt8) (s : List Int) (e : Ending) (w' : World) : Prop :=
  Below w.heap.size w w' ∧
  ((sumN s ≤ xs.length ∧ ∃ V cv R cr, e = .returned (.tuple #[.slice V s.length cv, .slice R (xs.length - sumN s) cr, .int .i64 0]) ∧ Is w' V s.length cv (unrowI s xs) ∧ Bs w' R (xs.length - sumN s) cr (xs.drop (sumN s))) ∨
   (xs.length < sumN s ∧ e = .returned (.tuple #[.slice none 0 0, .slice none 0 0, .int .i64 4])))

end Go.Proofs.YtjlppkbmapmbiaaDoor
