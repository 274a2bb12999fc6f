/-
  Contracts: pack.Row, pack.Unrow, casematekeep.Ints.
  Contract: pack.Row, its bytes owned.
-/
import Derived.Test.YtjlppkbmapmbiaaDoorPackG
namespace Go.Proofs.YtjlppkbmapmbiaaDoor
open Go.RowKit
set_option linter.unusedVariables false
set_option maxRecDepth 100000

theorem int_info : (Tryd.prog.info? 3).map (fun i => (i.zero, i.size, i.bytes)) = some (some (.int .i64 0), 1, 8) := by kernel_rfl

/-- The bytes of numbers, one behind the other. -/
def rowL : List Int → List Int → List UInt8
  | n :: l, s :: t => le s.toNat n.toNat ++ rowL l t
  | _, _ => []
def sumN : List Int → Nat
  | s :: t => s.toNat + sumN t
  | [] => 0
/-- Each number fits its size. -/
def FitAll (l s : List Int) : Prop := ∀ (i : Nat) (n z : Int), l[i]? = some n → s[i]? = some z → FitsP n z

theorem rowL_snoc {l s : List Int} {k : Nat} {n z : Int} (hl : l[k]? = some n) (hs : s[k]? = some z) : rowL (l.take k) (s.take k) ++ le z.toNat n.toNat = rowL (l.take (k + 1)) (s.take (k + 1)) := by
  induction k generalizing l s with
  | zero =>
    cases l with
    | nil => simp at hl
    | cons a l =>
      cases s with
      | nil => simp at hs
      | cons b s =>
        simp at hl hs
        subst hl
        subst hs
        simp [rowL]
  | succ k ih =>
    cases l with
    | nil => simp at hl
    | cons a l =>
      cases s with
      | nil => simp at hs
      | cons b s =>
        simp only [List.getElem?_cons_succ] at hl hs
        simp only [List.take_succ_cons, rowL, List.append_assoc]
        rw [ih hl hs]
theorem sumN_snoc {s : List Int} {k : Nat} {z : Int} (hs : s[k]? = some z) : sumN (s.take (k + 1)) = sumN (s.take k) + z.toNat := by
  induction k generalizing s with
  | zero =>
    cases s with
    | nil => simp at hs
    | cons b s =>
      simp at hs
      subst hs
      simp [sumN]
  | succ k ih =>
    cases s with
    | nil => simp at hs
    | cons b s =>
      simp only [List.getElem?_cons_succ] at hs
      simp only [List.take_succ_cons, sumN]
      rw [ih hs]
      omega
theorem sumN_le {s : List Int} (h : ∀ z ∈ s, z ≤ 4) : sumN s ≤ 4 * s.length := by
  induction s with
  | nil => simp [sumN]
  | cons b s ih =>
    have h1 := h b (by simp)
    have h2 := ih (fun z hz => h z (by simp [hz]))
    simp only [sumN, List.length_cons]
    omega
theorem rowL_len {l s : List Int} (h : l.length = s.length) : (rowL l s).length = sumN s := by
  induction s generalizing l with
  | nil => cases l <;> simp [rowL, sumN]
  | cons b s ih =>
    cases l with
    | nil => simp at h
    | cons a l =>
      simp only [rowL, sumN, List.length_append, le_len]
      rw [ih (by simpa using h)]

def RowPost (w : World) (l s : List Int) (e : Ending) (w' : World) : Prop :=
  Below w.heap.size w w' ∧
  ((FitAll l s ∧ ∃ V cv, e = .returned (.tuple #[.slice V (sumN s) cv, .int .i64 0]) ∧ Bs w' V (sumN s) cv (rowL l s)) ∨
   (¬ FitAll l s ∧ e = .returned (.tuple #[.slice none 0 0, .int .i64 1])))

end Go.Proofs.YtjlppkbmapmbiaaDoor

namespace Go.Proofs.YtjlppkbmapmbiaaDoor
open Go.RowKit
set_option linter.unusedVariables false
set_option maxRecDepth 100000

def RowOwn (w : World) (l s : List Int) (e : Ending) (w' : World) : Prop :=
  Below w.heap.size w w' ∧
  ((FitAll l s ∧ ∃ V cv, e = .returned (.tuple #[.slice V (sumN s) cv, .int .i64 0]) ∧ Ow byteR 1 w' w.heap.size 0 5 (.slice V (sumN s) cv) (sumN s) (rowL l s)) ∨
   (¬ FitAll l s ∧ e = .returned (.tuple #[.slice none 0 0, .int .i64 1])))

end Go.Proofs.YtjlppkbmapmbiaaDoor
