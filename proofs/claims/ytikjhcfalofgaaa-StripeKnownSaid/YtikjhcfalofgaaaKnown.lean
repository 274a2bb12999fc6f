/-
  Contracts: the zone's look: known.
-/
import Derived.Test.YtikjhcfalofgaaaLook
import Derived.Test.YtikjhcfalofgaaaXor
import Derived.Deep.RegionHeld3
namespace Go.Proofs.Ytikjhcfalofgaaa
open Go.RowKit
set_option linter.unusedVariables false
set_option maxRecDepth 100000

theorem known_eq {L : List Ent} {H : List (List UInt8)} {i : Nat} {e : Ent} {h : List UInt8} (he : L[i]? = some e) (hh : H[i]? = some h) :
    knownL L H i = if e.lost then [] else if h ≠ [] then h else if [] ∈ othN L H i H.length then [] else
      if (crc (zxs (List.replicate 8 0) (othN L H i H.length)) : Int) = e.sum then zxs (List.replicate 8 0) (othN L H i H.length) else [] := by
  unfold knownL
  rw [he, hh]

theorem known_dec {l : List UInt8} (h : l.length = 8) : decide (l ≠ []) = true := decide_eq_true (by rintro rfl; cases h)

/-- What 'known' tells: bytes, or nothing. -/
def KnownPost (w : World) (K : List UInt8) (e : Ending) (w' : World) : Prop :=
  Below w.heap.size w w' ∧ ∃ V n cv, e = .returned (.tuple #[.slice V n cv, .bool (decide (K ≠ []))]) ∧ Sl byteR 1 w' (New w.heap.size w') V n cv K

section
variable {A B : Option Addr} {n c m cb N d : Nat} {L : List Ent} {H : List (List UInt8)} {w : World}

set_option maxHeartbeats 1000000 in
theorem known_lost (hk : Look w N d (.slice A n c) (.slice B m cb)) (ha : Sl entR 3 w (Old w) A n c L) (i : Nat) (hi : i < n) {e : Ent} (he : L[i]? = some e) (hl : e.lost = true) :
    Calls Try.prog 47 #[.pointer (some ⟨N, 0, none⟩), .int .i64 i] w (KnownPost w []) := by
  obtain ⟨hN, kd, kt, kh⟩ := hk
  obtain ⟨ad, x, rfl, hadl, hx, _, _, c0, c1, c2⟩ := at_ent ha hi
  rw [he] at hx
  injection hx with hx
  subst hx
  rw [hl] at c2
  clear he
  unfold KnownPost
  go_enter Try.func47, Try.ntmps47
  go_wp2_with fail
  go_ret2
  exact ⟨Below.refl _ _, none, 0, 0, rfl, Sl.nil_ _⟩

set_option maxHeartbeats 1000000 in
theorem known_had (hk : Look w N d (.slice A n c) (.slice B m cb)) (ha : Sl entR 3 w (Old w) A n c L) (hh : Rs w B m cb H) (i : Nat) (hi : i < n) (him : i < m) {e : Ent} (he : L[i]? = some e) (hl : e.lost = false) {h : List UInt8} (hhi : H[i]? = some h) (hne : h ≠ []) (hlen : h.length ≤ 60000) :
    Calls Try.prog 47 #[.pointer (some ⟨N, 0, none⟩), .int .i64 i] w (KnownPost w h) := by
  obtain ⟨hN, kd, kt, kh⟩ := hk
  obtain ⟨ad, x, rfl, hadl, hx, _, _, c0, c1, c2⟩ := at_ent ha hi
  rw [he] at hx
  injection hx with hx
  subst hx
  rw [hl] at c2
  obtain ⟨bd, l, A1, n1, c1', rfl, hbdl, hl1, hs, hcell⟩ := at_row hh him
  rw [hhi] at hl1
  injection hl1 with hl1
  subst hl1
  have hn1 := hs.len
  have hpos : 0 < n1 := by rw [← hn1]; exact List.length_pos_iff.2 hne
  have hdec : decide (h ≠ []) = true := decide_eq_true hne
  clear he hhi hne
  unfold KnownPost
  rw [hdec]
  clear hdec
  go_enter Try.func47, Try.ntmps47
  go_wp2_with fail
  refine (clone_any _ _ _ h _ hs (by omega)).mono ?_
  rintro e w1 ⟨V1, c1, rfl, ho1, hb1⟩
  go_wp2_with fail
  go_ret2
  exact ⟨hb1, V1, n1, c1, rfl, ho1.new_ byteR_fine (Nat.le_refl _) (Nat.le_refl _)⟩
end

end Go.Proofs.Ytikjhcfalofgaaa
