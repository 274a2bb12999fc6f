/-
  Contracts: bytes.Equal, table.Read.
-/
import Derived.Test.YtamgpbkakmffiaaDoorTabB
import Derived.Laws.IdiomStrings
import Derived.Lib.BufferRead
import Derived.Deep.RegionLaw
import Derived.Deep.DeepCutAuto
namespace Go.Proofs.YtamgpbkakmffiaaDoor
open Go.RowKit
set_option linter.unusedVariables false
set_option maxRecDepth 100000

theorem conv_bs {P : Program} {w : World} {A : Option Addr} {n c : Nat} {l : List UInt8} (h : Bs w A n c l) (src dst e : TypeId) (hs : P.underlying src = some (.slice e)) (he : P.underlying e = some (.int .u8)) (hd : P.underlying dst = some .string) :
    (convert src dst (.slice A n c)).run P w = .ok (.string ⟨l.toArray⟩) w := by
  have hl := h.len
  by_cases h0 : n = 0
  · subst h0
    have hl0 : l = [] := List.eq_nil_of_length_eq_zero hl
    subst hl0
    cases A with
    | none => exact Lib.run_convert_nil_bytes w src dst e c hs he hd
    | some a => exact run_convert_bytes_back w src dst e a c [] hs he hd (fun j hj => absurd hj (by simp))
  · obtain ⟨ad, e1, _, hc⟩ := h.at0 (by omega)
    subst e1
    subst hl
    refine run_convert_bytes_back w src dst e ad c l hs he hd (fun j hj => ?_)
    obtain ⟨cs, hr, hat⟩ := hc j l[j] (List.getElem?_eq_getElem hj)
    have hr : cs = [.int .u8 (l[j].toNat : Int)] := hr
    subst hr
    have h1 := hat 0 _ rfl
    rwa [Nat.mul_one, add_zero'] at h1

theorem beq_bytes (xs ys : List UInt8) : (xs == ys) = decide (xs = ys) := by
  by_cases h : xs = ys
  · rw [decide_eq_true h]; simpa using h
  · rw [decide_eq_false h]; simpa using h

set_option maxHeartbeats 400000 in
theorem equal_any {A B : Option Addr} {n c m d : Nat} {xs ys : List UInt8} {w : World} (ha : Bs w A n c xs) (hb : Bs w B m d ys) :
    Calls Tryd.prog 78 #[.slice A n c, .slice B m d] w fun e w' => e = .returned (.bool (decide (xs = ys))) ∧ w = w' := by
  have h1 := conv_bs (P := Tryd.prog) ha 58 9 5 Tryd.underlying58 Tryd.underlying5 Tryd.underlying9
  have h2 := conv_bs (P := Tryd.prog) hb 58 9 5 Tryd.underlying58 Tryd.underlying5 Tryd.underlying9
  have h3 := beq_bytes xs ys
  obtain ⟨D, hD⟩ : ∃ D, D = decide (xs = ys) := ⟨_, rfl⟩
  rw [← hD] at h3 ⊢
  clear hD
  go_enter Tryd.func78, Tryd.ntmps78
  go_wp2_with fail
  go_ret
  exact ⟨rfl, rfl⟩

theorem tabOf_snoc (k : Nat) (l : List UInt8) : tabOf (k + 1) l = tabOf k l ++ [entOf (l.drop (9 * k))] := by
  induction k generalizing l with
  | zero => rfl
  | succ k ih =>
    have h1 : tabOf (k + 1 + 1) l = entOf l :: tabOf (k + 1) (l.drop 9) := rfl
    rw [h1, ih (l.drop 9), List.drop_drop, show 9 + 9 * k = 9 * (k + 1) by omega]
    rfl

end Go.Proofs.YtamgpbkakmffiaaDoor
