/-
  Contracts: the zone's look: known, all cases; zone.Block.
-/
import Derived.Test.YtikjhcfalofgaaaKnown2
namespace Go.Proofs.Ytikjhcfalofgaaa
open Go.RowKit
set_option linter.unusedVariables false
set_option maxRecDepth 100000

theorem known_any {A B : Option Addr} {n c m cb N d : Nat} {L : List Ent} {H : List (List UInt8)} {w : World} (hk : Look w N d (.slice A n c) (.slice B m cb)) (ha : Sl entR 3 w (Old w) A n c L) (hh : Rs w B m cb H) (hd : d ≤ 100)
    (ht : TabOk d L) (hho : HadOk d H) (i : Nat) (hi : i ≤ d) :
    Calls Try.prog 47 #[.pointer (some ⟨N, 0, none⟩), .int .i64 i] w (KnownPost w (knownL L H i)) := by
  have hn : n = d + 1 := by have := ha.len; have := ht.1; omega
  have hm : m = d + 1 := by have := hh.len; have := hho.1; omega
  have hHl : H.length = d + 1 := by have := hho.1; omega
  obtain ⟨e, he⟩ : ∃ e, L[i]? = some e := ⟨_, List.getElem?_eq_getElem (by rw [ha.len]; omega)⟩
  obtain ⟨h, hhi⟩ : ∃ h, H[i]? = some h := ⟨_, List.getElem?_eq_getElem (by omega)⟩
  rw [known_eq he hhi]
  cases hl : e.lost with
  | true =>
    rw [if_pos rfl]
    exact known_lost hk ha i (by omega) he hl
  | false =>
    rw [if_neg (by simp)]
    by_cases hne : h ≠ []
    · rw [if_pos hne]
      refine known_had hk ha hh i (by omega) (by omega) he hl hhi hne ?_
      rcases hho.2 h (List.mem_of_getElem? hhi) with h1 | h1 <;> omega
    · rw [if_neg hne]
      have h0 : h = [] := Decidable.not_not.1 hne
      subst h0
      rw [hHl]
      by_cases hid : i = d
      · refine known_last hk ha hh hn hm hd hho.2 i (by omega) (by omega) hid he hl hhi ?_
        rw [show othN L H i (d + 1) = othN L H i d from othN_skip (.inl hid.symm)]
      · obtain ⟨P, hP⟩ : ∃ P, H[d]? = some P := ⟨_, List.getElem?_eq_getElem (by omega)⟩
        obtain ⟨ed, hed⟩ : ∃ ed, L[d]? = some ed := ⟨_, List.getElem?_eq_getElem (by rw [ha.len]; omega)⟩
        have hel : ed.lost = false := ht.2.2 ed (by rw [show ((d : Int)).toNat = d from rfl]; exact hed)
        refine known_mid hk ha hh hn hm hd hho.2 i (by omega) he hl hhi hP ?_
        rw [show othN L H i (d + 1) = othN L H i d ++ [P] from othN_more (fun h => hid h.symm) hed hel hP]

/-- What zone.Block tells. -/
def BlockQ (g : Geo) (L : List Ent) (H : List (List UInt8)) (at_ : Int) (l : List UInt8) (err : Int) : Prop :=
  (¬ (GeoOk g ∧ TabOk g.data L) ∧ err = 1 ∧ l = []) ∨
   ((GeoOk g ∧ TabOk g.data L) ∧ ¬ HadOk g.data H ∧ err = 2 ∧ l = []) ∨
   ((GeoOk g ∧ TabOk g.data L) ∧ HadOk g.data H ∧ ¬ (-1 ≤ at_ ∧ at_ < g.data) ∧ err = 1 ∧ l = []) ∨
   ((GeoOk g ∧ TabOk g.data L) ∧ HadOk g.data H ∧ (-1 ≤ at_ ∧ at_ < g.data) ∧ l = knownL L H (if at_ = -1 then g.data.toNat else at_.toNat) ∧ err = if l = [] then 13 else 0)
def BlockPost (w : World) (g : Geo) (L : List Ent) (H : List (List UInt8)) (at_ : Int) (e : Ending) (w' : World) : Prop :=
  Below w.heap.size w w' ∧ ∃ V n cv l err, e = .returned (.tuple #[.slice V n cv, .int .i64 err]) ∧ Bs w' V n cv l ∧ BlockQ g L H at_ l err

end Go.Proofs.Ytikjhcfalofgaaa
