/-
  Plain: of a zone as it was written.
-/
import Derived.Test.YtdcoholjnlndgaaDoorZRef
namespace Go.Proofs.YtdcoholjnlndgaaDoor
open Go.RowKit
set_option linter.unusedVariables false

def zero8 : List UInt8 := List.replicate 8 0
/-- The parity of blocks, those that are lost left out. -/
def parL (bs : List (List UInt8 × Bool)) : List UInt8 := bs.foldl (fun p x => if x.2 then p else zx p x.1) zero8
/-- Their entries, and the parity's; what is had. -/
def fullT (s : Int) (bs : List (List UInt8 × Bool)) : List Ent := bs.map (fun x => ⟨s, crc x.1, x.2⟩) ++ [⟨s, crc (parL bs), false⟩]
def fullH (bs : List (List UInt8 × Bool)) : List (List UInt8) := bs.map (fun x => if x.2 then [] else x.1) ++ [parL bs]
theorem fullT_len (s : Int) (bs : List (List UInt8 × Bool)) : (fullT s bs).length = bs.length + 1 := by simp [fullT]
theorem fullH_len (bs : List (List UInt8 × Bool)) : (fullH bs).length = bs.length + 1 := by simp [fullH]
theorem fullT_at {s : Int} {bs : List (List UInt8 × Bool)} {i : Nat} {b : List UInt8} {l : Bool} (h : bs[i]? = some (b, l)) : (fullT s bs)[i]? = some ⟨s, crc b, l⟩ := by
  have hi := (List.getElem?_eq_some_iff.1 h).1
  rw [fullT, List.getElem?_append_left (by simpa using hi), List.getElem?_map, h]
  rfl
theorem fullH_at {bs : List (List UInt8 × Bool)} {i : Nat} {b : List UInt8} {l : Bool} (h : bs[i]? = some (b, l)) : (fullH bs)[i]? = some (if l then [] else b) := by
  have hi := (List.getElem?_eq_some_iff.1 h).1
  rw [fullH, List.getElem?_append_left (by simpa using hi), List.getElem?_map, h]
  rfl
theorem fullT_last (s : Int) (bs : List (List UInt8 × Bool)) : (fullT s bs)[bs.length]? = some ⟨s, crc (parL bs), false⟩ := by
  rw [fullT, List.getElem?_append_right (by simp)]; simp
theorem fullH_last (bs : List (List UInt8 × Bool)) : (fullH bs)[bs.length]? = some (parL bs) := by
  rw [fullH, List.getElem?_append_right (by simp)]; simp

theorem parL_len {bs : List (List UInt8 × Bool)} (h : ∀ x ∈ bs, x.1.length = 8) : (parL bs).length = 8 := by
  have key : ∀ (bs : List (List UInt8 × Bool)) (p : List UInt8), p.length = 8 → (∀ x ∈ bs, x.1.length = 8) → (bs.foldl (fun p x => if x.2 then p else zx p x.1) p).length = 8 := by
    intro bs
    induction bs with
    | nil => exact fun p hp _ => hp
    | cons x bs ih =>
      intro p hp hx
      refine ih _ ?_ fun y hy => hx y (List.mem_cons_of_mem _ hy)
      have := hx x (List.mem_cons_self ..)
      dsimp only
      split
      · exact hp
      · rw [zx_len, hp, this]; rfl
  exact key bs zero8 (by simp [zero8]) h
theorem parL_snoc {bs : List (List UInt8 × Bool)} {n : Nat} {b : List UInt8} {l : Bool} (h : bs[n]? = some (b, l)) : parL (bs.take (n + 1)) = if l then parL (bs.take n) else zx (parL (bs.take n)) b := by
  obtain ⟨h1, e⟩ := List.getElem?_eq_some_iff.1 h
  rw [List.take_succ_eq_append_getElem h1, e]
  simp [parL, List.foldl_append]

section
variable {s : Int} {bs : List (List UInt8 × Bool)} {H : List (List UInt8)} {i : Nat}

/-- What is turned together of all but one, up to n. -/
theorem oth_full (hb : ∀ x ∈ bs, x.1.length = 8) (hH : ∀ j, j ≠ i → ((fullT s bs)[j]?.map (·.lost)).getD false = false → H[j]? = (fullH bs)[j]?) (n : Nat) (hn : n ≤ bs.length) :
    (n ≤ i → zxs zero8 (othN (fullT s bs) H i n) = parL (bs.take n)) ∧ (∀ b, i < n → bs[i]? = some (b, false) → zx (zxs zero8 (othN (fullT s bs) H i n)) b = parL (bs.take n)) := by
  induction n with
  | zero => exact ⟨fun _ => rfl, fun b h => absurd h (by omega)⟩
  | succ n ih =>
    obtain ⟨ih1, ih2⟩ := ih (by omega)
    obtain ⟨⟨b, l⟩, hbn⟩ : ∃ x, bs[n]? = some x := ⟨_, List.getElem?_eq_getElem (by omega)⟩
    rw [parL_snoc hbn]
    have hT := fullT_at (s := s) hbn
    cases l with
    | true =>
      rw [othN_skip (.inr (by rw [hT]; rfl)), if_pos rfl]
      refine ⟨fun h => ih1 (by omega), fun c hi hc => ?_⟩
      by_cases hin : i = n
      · subst hin
        rw [hbn] at hc
        cases hc
      · exact ih2 c (by omega) hc
    | false =>
      rw [if_neg (by simp)]
      by_cases hin : n = i
      · subst hin
        rw [othN_skip (.inl rfl)]
        refine ⟨fun h => absurd h (by omega), fun c _ hc => ?_⟩
        rw [hbn] at hc
        injection hc with hc
        injection hc with hc _
        subst hc
        rw [ih1 (Nat.le_refl _)]
      · have hx : H[n]? = some b := by
          rw [hH n hin (by rw [hT]; rfl), fullH_at hbn]
          rfl
        rw [othN_more hin hT rfl hx, zxs_snoc]
        refine ⟨fun h => by rw [ih1 (by omega)], fun c hi hc => ?_⟩
        rw [zx_right_comm, ih2 c (by omega) hc]
theorem zxs8_len {L : List Ent} {n : Nat} (hH : ∀ h ∈ othN L H i n, h.length = 8) : (zxs zero8 (othN L H i n)).length = 8 := zxs_len _ _ 8 (by simp [zero8]) hH

theorem parL_take (bs : List (List UInt8 × Bool)) : parL (bs.take bs.length) = parL bs := by rw [List.take_length]
/-- All others are had: what they come to is the one. -/
theorem oth_all (hb : ∀ x ∈ bs, x.1.length = 8) (hHl : H.length = bs.length + 1) (hH : ∀ j, j ≠ i → ((fullT s bs)[j]?.map (·.lost)).getD false = false → H[j]? = (fullH bs)[j]?) :
    (i = bs.length → zxs zero8 (othN (fullT s bs) H i H.length) = parL bs) ∧ ∀ b, bs[i]? = some (b, false) → zxs zero8 (othN (fullT s bs) H i H.length) = b := by
  obtain ⟨h1, h2⟩ := oth_full hb hH bs.length (Nat.le_refl _)
  rw [hHl]
  refine ⟨fun hi => ?_, fun b hbi => ?_⟩
  · subst hi
    rw [othN_skip (.inl rfl), h1 (Nat.le_refl _), parL_take]
  · have hi := (List.getElem?_eq_some_iff.1 hbi).1
    have hb8 := hb _ (List.mem_of_getElem? hbi)
    have hx : H[bs.length]? = some (parL bs) := by
      rw [hH bs.length (by omega) (by rw [fullT_last]; rfl), fullH_last]
    rw [othN_more (by omega) (fullT_last s bs) rfl hx, zxs_snoc]
    have h3 := h2 b hi hbi
    rw [parL_take] at h3
    have hlen : (zxs zero8 (othN (fullT s bs) H i bs.length)).length = 8 := by
      refine zxs8_len fun h hh => ?_
      simp only [othN, List.mem_filterMap, List.mem_range] at hh
      obtain ⟨j, hj, hh⟩ := hh
      split at hh
      · cases hh
      · rename_i hno
        simp only [not_or] at hno
        obtain ⟨⟨c, l⟩, hcn⟩ : ∃ x, bs[j]? = some x := ⟨_, List.getElem?_eq_getElem (by omega)⟩
        have hT := fullT_at (s := s) hcn
        have hl : l = false := by
          have := hno.2
          rw [hT] at this
          simpa using this
        subst hl
        rw [hH j hno.1 (by rw [hT]; rfl), fullH_at hcn] at hh
        injection hh with hh
        rw [← hh]
        exact hb _ (List.mem_of_getElem? hcn)
    rw [← h3, ← zx_assoc, zx_self, hlen]
    exact zxs_zero 8 b hb8

theorem ne_nil8 {l : List UInt8} (h : l.length = 8) : l ≠ [] := by rintro rfl; simp at h

/-- What is known of one that is had, of one that is not. -/
theorem known_full (hb : ∀ x ∈ bs, x.1.length = 8) (hHl : H.length = bs.length + 1) (hA : ∀ (j : Nat) h, H[j]? = some h → h = [] ∨ (fullH bs)[j]? = some h) {e : Ent} (he : (fullT s bs)[i]? = some e) {a : List UInt8} (ha : (fullH bs)[i]? = some a) :
    (e.lost = true → knownL (fullT s bs) H i = []) ∧ (e.lost = false → a.length = 8 ∧
      (H[i]? = some a → knownL (fullT s bs) H i = a) ∧
      (H[i]? = some [] → (∀ (j : Nat) (e' : Ent), j ≠ i → (fullT s bs)[j]? = some e' → e'.lost = false → H[j]? ≠ some []) → knownL (fullT s bs) H i = a) ∧
      (H[i]? = some [] → (∃ (j : Nat) (e' : Ent), j ≠ i ∧ (fullT s bs)[j]? = some e' ∧ e'.lost = false ∧ H[j]? = some []) → knownL (fullT s bs) H i = [])) := by
  have hil := (List.getElem?_eq_some_iff.1 he).1
  rw [fullT_len] at hil
  obtain ⟨h, hh⟩ : ∃ h, H[i]? = some h := ⟨_, List.getElem?_eq_getElem (by omega)⟩
  have hk : knownL (fullT s bs) H i = if e.lost then [] else if h ≠ [] then h else if [] ∈ othN (fullT s bs) H i H.length then [] else
      if (crc (zxs zero8 (othN (fullT s bs) H i H.length)) : Int) = e.sum then zxs zero8 (othN (fullT s bs) H i H.length) else [] := by
    unfold knownL
    rw [he, hh]
    rfl
  rw [hk]
  refine ⟨fun hl => by rw [if_pos hl], fun hl => ?_⟩
  rw [if_neg (by simp [hl])]
  have hae : (i = bs.length ∧ a = parL bs ∧ e.sum = crc a) ∨ (∃ b, bs[i]? = some (b, false) ∧ a = b ∧ e.sum = crc a) := by
    by_cases hi : i = bs.length
    · subst hi
      rw [fullT_last] at he
      rw [fullH_last] at ha
      injection he with he
      injection ha with ha
      subst he; subst ha
      exact .inl ⟨rfl, rfl, rfl⟩
    · obtain ⟨⟨c, l⟩, hcn⟩ : ∃ x, bs[i]? = some x := ⟨_, List.getElem?_eq_getElem (by omega)⟩
      rw [fullT_at hcn] at he
      rw [fullH_at hcn] at ha
      injection he with he
      injection ha with ha
      subst he
      simp only at hl
      subst hl
      subst ha
      exact .inr ⟨c, hcn, rfl, rfl⟩
  have ha8 : a.length = 8 := by
    rcases hae with ⟨_, rfl, _⟩ | ⟨b, h1, rfl, _⟩
    · exact parL_len hb
    · exact hb _ (List.mem_of_getElem? h1)
  have hsum : e.sum = crc a := by rcases hae with ⟨_, _, h⟩ | ⟨_, _, _, h⟩ <;> exact h
  refine ⟨ha8, fun h1 => ?_, fun h1 h2 => ?_, fun h1 h2 => ?_⟩
  · rw [hh] at h1
    injection h1 with h1
    subst h1
    rw [if_pos (ne_nil8 ha8)]
  · rw [hh] at h1
    injection h1 with h1
    subst h1
    have hH : ∀ j, j ≠ i → ((fullT s bs)[j]?.map (·.lost)).getD false = false → H[j]? = (fullH bs)[j]? := by
      intro j hj hjl
      cases hHj : H[j]? with
      | none =>
        rw [List.getElem?_eq_none_iff] at hHj
        rw [List.getElem?_eq_none (by rw [fullH_len]; omega)]
      | some h =>
        have hjlt := (List.getElem?_eq_some_iff.1 hHj).1
        rcases hA j h hHj with rfl | h3
        · obtain ⟨e', he'⟩ : ∃ e', (fullT s bs)[j]? = some e' := ⟨_, List.getElem?_eq_getElem (by rw [fullT_len]; omega)⟩
          rw [he'] at hjl
          exact absurd hHj (h2 j e' hj he' (by simpa using hjl))
        · exact h3.symm
    have hone : zxs zero8 (othN (fullT s bs) H i H.length) = a := by
      obtain ⟨o1, o2⟩ := oth_all hb hHl hH
      rcases hae with ⟨h3, h4, _⟩ | ⟨b, h3, h4, _⟩
      · rw [o1 h3, h4]
      · rw [o2 b h3, h4]
    have hno : [] ∉ othN (fullT s bs) H i H.length := by
      intro hin
      simp only [othN, List.mem_filterMap, List.mem_range] at hin
      obtain ⟨j, hj, hin⟩ := hin
      split at hin
      · cases hin
      · rename_i hno
        simp only [not_or] at hno
        obtain ⟨e', he'⟩ : ∃ e', (fullT s bs)[j]? = some e' := ⟨_, List.getElem?_eq_getElem (by rw [fullT_len]; omega)⟩
        exact h2 j e' hno.1 he' (by have := hno.2; rw [he'] at this; simpa using this) hin
    rw [if_neg (by simp), if_neg hno, hone, if_pos hsum.symm]
  · rw [hh] at h1
    injection h1 with h1
    subst h1
    obtain ⟨j, e', hj, he', hl', hHj⟩ := h2
    have hin : [] ∈ othN (fullT s bs) H i H.length := by
      simp only [othN, List.mem_filterMap, List.mem_range]
      exact ⟨j, (List.getElem?_eq_some_iff.1 hHj).1, by rw [if_neg (by simp [hj, he', hl']), hHj]⟩
    rw [if_neg (by simp), if_pos hin]
end

end Go.Proofs.YtdcoholjnlndgaaDoor
