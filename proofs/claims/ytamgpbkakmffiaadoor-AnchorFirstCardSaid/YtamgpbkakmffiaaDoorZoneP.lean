/-
  Plain: what is known of a zone.
-/
import Derived.Test.YtamgpbkakmffiaaDoorTabP
import Derived.Test.YtamgpbkakmffiaaDoorZx
namespace Go.Proofs.YtamgpbkakmffiaaDoor
open Go.RowKit
set_option linter.unusedVariables false

/-- What is had of all that are not lost, but of one, up to n. -/
def othN (L : List Ent) (H : List (List UInt8)) (i n : Nat) : List (List UInt8) :=
  (List.range n).filterMap fun j => if j = i ∨ (L[j]?.map (·.lost)).getD false = true then none else H[j]?
theorem othN_succ (L : List Ent) (H : List (List UInt8)) (i n : Nat) : othN L H i (n + 1) = othN L H i n ++ (if n = i ∨ (L[n]?.map (·.lost)).getD false = true then none else H[n]?).toList := by
  rw [othN, List.range_succ, List.filterMap_append]
  congr 1
theorem othN_skip {L : List Ent} {H : List (List UInt8)} {i n : Nat} (h : n = i ∨ (L[n]?.map (·.lost)).getD false = true) : othN L H i (n + 1) = othN L H i n := by
  rw [othN_succ, if_pos h]; simp
theorem othN_more {L : List Ent} {H : List (List UInt8)} {i n : Nat} {e : Ent} {x : List UInt8} (hi : n ≠ i) (he : L[n]? = some e) (hl : e.lost = false) (hx : H[n]? = some x) : othN L H i (n + 1) = othN L H i n ++ [x] := by
  rw [othN_succ, if_neg (by simp [hi, he, hl]), hx]; rfl
/-- One of a zone's; nothing: it is not known. -/
def knownL (L : List Ent) (H : List (List UInt8)) (i : Nat) : List UInt8 :=
  match L[i]?, H[i]? with
  | some e, some h =>
    if e.lost then [] else if h ≠ [] then h else if [] ∈ othN L H i H.length then [] else
      if (crc (zxs (List.replicate 8 0) (othN L H i H.length)) : Int) = e.sum then zxs (List.replicate 8 0) (othN L H i H.length) else []
  | _, _ => []

/-- As many as there are to be, each a block, or nothing. -/
def HadOk (d : Int) (H : List (List UInt8)) : Prop := (H.length : Int) = d + 1 ∧ ∀ h ∈ H, h.length = 0 ∨ h.length = 8
instance (d : Int) (H : List (List UInt8)) : Decidable (HadOk d H) := by unfold HadOk; infer_instance

theorem oth_mem {L : List Ent} {H : List (List UInt8)} {i n : Nat} {x : List UInt8} (h : x ∈ othN L H i n) : x ∈ H := by
  simp only [othN, List.mem_filterMap] at h
  obtain ⟨j, _, hj⟩ := h
  split at hj
  · cases hj
  · exact List.mem_of_getElem? hj
theorem oth_len {L : List Ent} {H : List (List UInt8)} {i n : Nat} : (othN L H i n).length ≤ n := by
  have := List.length_filterMap_le (f := fun j => if j = i ∨ (L[j]?.map (·.lost)).getD false = true then none else H[j]?) (l := List.range n)
  rwa [List.length_range] at this
theorem known_len {d : Int} {L : List Ent} {H : List (List UInt8)} (hH : HadOk d H) (i : Nat) : (knownL L H i).length = 0 ∨ (knownL L H i).length = 8 := by
  unfold knownL
  split
  · rename_i e h he hh
    split
    · exact .inl rfl
    · split
      · exact hH.2 h (List.mem_of_getElem? hh)
      · split
        · exact .inl rfl
        · rename_i hno
          split
          · right
            refine zxs_len _ _ 8 (by simp) fun l hl => ?_
            rcases hH.2 l (oth_mem hl) with h0 | h0
            · exact absurd (List.eq_nil_of_length_eq_zero h0 ▸ hl) hno
            · exact h0
          · exact .inl rfl
  · exact .inl rfl

end Go.Proofs.YtamgpbkakmffiaaDoor
