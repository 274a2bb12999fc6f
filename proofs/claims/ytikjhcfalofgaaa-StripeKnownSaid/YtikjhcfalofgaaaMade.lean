/-
  Plain: what a cut's head says, for a cut of many names: the words ahead of 'cut' alone are looked at.
-/
import Derived.ProofKit
namespace Go.Proofs.Ytikjhcfalofgaaa
open Go
set_option linter.unusedVariables false

theorem word_ahead (w r : List Char) (h : Char.ofNat 32 ∉ w) : wordsSigns (w ++ Char.ofNat 32 :: r) = w :: wordsSigns r := by
  induction w with
  | nil => rfl
  | cons c w ih =>
    have hc : c ≠ Char.ofNat 32 := fun e => h (by rw [e]; exact List.mem_cons_self ..)
    have ih := ih fun hh => h (List.mem_cons_of_mem _ hh)
    rw [List.cons_append, wordsSigns.eq_3 _ _ (fun e => hc e), ih]

theorem strip_cut (R : List (List Char)) : stripLifts liftWords ("cut".toList :: R) = ([], "cut".toList :: R) := by
  unfold liftWords
  simp only [stripLifts]
  repeat rw [if_neg (by decide +kernel)]
theorem make_cut {P : Program} {R : List (List Char)} (h : behindMainWord (wordsSigns P.initOrder.toList) = "cut".toList :: R) : P.make = some .cut := by
  unfold Program.make
  rw [h]
  dsimp only
  rw [if_neg (by decide +kernel), if_pos (by rw [show ("cut".toList == "cut".toList) = true by decide +kernel]; rfl)]
theorem lift_cut {P : Program} {R : List (List Char)} (h : behindMainWord (wordsSigns P.initOrder.toList) = "cut".toList :: R) : P.liftsFinal = false := by
  unfold Program.liftsFinal Program.headLifts
  rw [h, strip_cut]
  dsimp only
  rw [show (List.head? ("cut".toList :: R) == some "carried".toList) = false by rw [List.head?_cons]; decide +kernel]
  rw [List.head?_cons, if_pos (by decide +kernel)]
  rfl
theorem enter_cut {P : Program} {R : List (List Char)} (h : behindMainWord (wordsSigns P.initOrder.toList) = "cut".toList :: R) (hl : P.laysLater = false) (hr : P.bearsReflect = false) (hd : P.doorFits [] = true) : P.mayEnter = true := by
  unfold Program.mayEnter
  rw [h]
  dsimp only
  rw [strip_cut, hl, hr, hd, List.head?_cons, show (some "cut".toList == some "cut".toList) = true by decide +kernel]
  simp
/-- The head's third word is 'cut'. -/
theorem behind_cut {P : Program} (s b : String) (ho : P.initOrder = ("harness " ++ s ++ " cut ") ++ b) (hs : Char.ofNat 32 ∉ s.toList) (hsum : isSumSigns s.toList = true) : ∃ R, behindMainWord (wordsSigns P.initOrder.toList) = "cut".toList :: R := by
  have e1 : "harness ".toList = "harness".toList ++ Char.ofNat 32 :: [] := by kernel_rfl
  have e2 : " cut ".toList = Char.ofNat 32 :: ("cut".toList ++ Char.ofNat 32 :: []) := by kernel_rfl
  refine ⟨wordsSigns b.toList, ?_⟩
  rw [ho, String.toList_append, String.toList_append, String.toList_append, e1, e2]
  simp only [List.append_assoc, List.cons_append, List.nil_append]
  rw [word_ahead _ _ (by decide +kernel), word_ahead _ _ hs, word_ahead _ _ (by decide +kernel)]
  unfold behindMainWord
  dsimp only
  exact if_pos (by rw [hsum]; decide +kernel)

end Go.Proofs.Ytikjhcfalofgaaa
