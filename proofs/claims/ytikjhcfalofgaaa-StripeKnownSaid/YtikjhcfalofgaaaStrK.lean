/-
  Plain: what is written into a zone is known, one of it not had.
-/
import Derived.Test.YtikjhcfalofgaaaStrT
namespace Go.Proofs.Ytikjhcfalofgaaa
open Go.RowKit
set_option linter.unusedVariables false

/-- What is had is what was, or nothing. -/
def MaskOk (X H : List (List UInt8)) : Prop := H.length = X.length ∧ ∀ (j : Nat) h, H[j]? = some h → h = [] ∨ X[j]? = some h
theorem mask_none {X H : List (List UInt8)} (h : MaskOk X H) (k : Nat) : MaskOk X (H.set k []) := by
  refine ⟨by rw [List.length_set]; exact h.1, fun j x hj => ?_⟩
  rw [List.getElem?_set] at hj
  split at hj
  · split at hj
    · injection hj with hj
      exact .inl hj.symm
    · cases hj
  · exact h.2 j x hj

/-- What is known leans on what is lost and on the sum alone. -/
theorem oth_congr {L L' : List Ent} {H : List (List UInt8)} {i n : Nat} (h : ∀ j : Nat, L[j]?.map (·.lost) = L'[j]?.map (·.lost)) : othN L H i n = othN L' H i n := by
  unfold othN
  congr 1
  funext j
  rw [h j]
theorem known_congr {L L' : List Ent} {H : List (List UInt8)} {i : Nat} {e e' : Ent} {x : List UInt8} (h : ∀ j : Nat, L[j]?.map (·.lost) = L'[j]?.map (·.lost)) (he : L[i]? = some e) (he' : L'[i]? = some e') (hx : H[i]? = some x) (hs : e.lost = false → e.sum = e'.sum) : knownL L H i = knownL L' H i := by
  have hl : e.lost = e'.lost := by
    have := h i
    rw [he, he'] at this
    simpa using this
  rw [known_eq he hx, known_eq he' hx, oth_congr h, ← hl]
  cases hel : e.lost with
  | true => rfl
  | false => rw [hs hel]

section
variable {L : List Ent} {H : List (List UInt8)} {ats : List Int} {bl : List (List UInt8)} {s : Int} {d : Nat}
/-- The zone that stands then, told as Full tells it. -/
def wantB (L : List Ent) (H : List (List UInt8)) (ats : List Int) (bl : List (List UInt8)) (d : Nat) : List (List UInt8 × Bool) :=
  (List.range d).map fun i => (if nowB L H ats bl i = [] then zero8 else nowB L H ats bl i, decide (nowB L H ats bl i = []))
def wantL (L : List Ent) (H : List (List UInt8)) (ats : List Int) (bl : List (List UInt8)) (d : Nat) : List (List UInt8) :=
  (List.range d).map (nowB L H ats bl) ++ [parN L H ats bl d]
theorem wantB_len : (wantB L H ats bl d).length = d := by simp [wantB]
theorem wantB_at {i : Nat} (hi : i < d) : (wantB L H ats bl d)[i]? = some (if nowB L H ats bl i = [] then zero8 else nowB L H ats bl i, decide (nowB L H ats bl i = [])) := by
  unfold wantB
  rw [List.getElem?_map, List.getElem?_range hi]
  rfl
theorem wantB_8 (hH : HadOk (d : Int) H) (h8 : ∀ x ∈ bl, x.length = 8) : ∀ x ∈ wantB L H ats bl d, x.1.length = 8 := by
  intro x hx
  obtain ⟨i, _, rfl⟩ := List.mem_map.1 hx
  dsimp only
  split
  · simp [zero8]
  · rename_i h
    rcases now_len (L := L) (ats := ats) hH h8 i with h1 | h1
    · exact absurd (List.eq_nil_of_length_eq_zero h1) h
    · exact h1
theorem wantB_par : parL (wantB L H ats bl d) = parN L H ats bl d := by
  unfold parN
  induction d with
  | zero => rfl
  | succ k ih =>
    have e : wantB L H ats bl (k + 1) = wantB L H ats bl k ++ [(if nowB L H ats bl k = [] then zero8 else nowB L H ats bl k, decide (nowB L H ats bl k = []))] := range_snoc _ _
    rw [e, stay_succ]
    unfold parL at ih ⊢
    rw [List.foldl_append, ih]
    unfold zxs
    rw [List.foldl_append]
    by_cases h : nowB L H ats bl k = [] <;> simp [h]
theorem want_full : fullH (wantB L H ats bl d) = wantL L H ats bl d := by
  unfold fullH wantL
  rw [wantB_par]
  congr 1
  unfold wantB
  rw [List.map_map]
  refine List.map_congr_left fun i _ => ?_
  by_cases h : nowB L H ats bl i = [] <;> simp [h]
theorem wantL_len : (wantL L H ats bl d).length = d + 1 := by simp [wantL]

/-- Had rows sum up to what the table tells. -/
def Coh (L : List Ent) (H : List (List UInt8)) : Prop := ∀ (i : Nat) e h, L[i]? = some e → H[i]? = some h → e.lost = false → h ≠ [] → (crc h : Int) = e.sum
theorem coh_full {s : Int} {bs : List (List UInt8 × Bool)} (hb : ∀ x ∈ bs, x.1.length = 8) (hm : MaskOk (fullH bs) H) : Coh (fullT s bs) H := by
  intro i e h he hh hl hn
  rcases hm.2 i h hh with h1 | h1
  · exact absurd h1 hn
  · have hil := (List.getElem?_eq_some_iff.1 he).1
    rw [fullT_len] at hil
    by_cases hi : i < bs.length
    · obtain ⟨⟨b, l⟩, hx⟩ : ∃ x, bs[i]? = some x := ⟨_, List.getElem?_eq_getElem hi⟩
      rw [fullT_at hx] at he
      rw [fullH_at hx] at h1
      injection he with he
      injection h1 with h1
      subst he
      dsimp only at hl h1
      subst hl
      simp at h1
      rw [h1]
    · obtain rfl : i = bs.length := by omega
      rw [fullT_last] at he
      rw [fullH_last] at h1
      injection he with he
      injection h1 with h1
      rw [← he, ← h1]
/-- The new entry: its lost flag, and its sum where it is not lost. -/
theorem new_is (hH : HadOk (d : Int) H) (hT : TabOk (d : Int) L) (hC : Coh L H) (h8 : ∀ x ∈ bl, x.length = 8) {i : Nat} (hi : i < d) : (newE L H ats bl s i).lost = decide (nowB L H ats bl i = []) ∧ (nowB L H ats bl i ≠ [] → (newE L H ats bl s i).sum = (crc (nowB L H ats bl i) : Int)) := by
  cases hb : blkOf ats bl i with
  | some b =>
    obtain ⟨h1, h2⟩ := now_in (L := L) (H := H) (s := s) hb
    rw [h1, h2]
    have hn : b ≠ [] := by
      obtain ⟨k, _, h3⟩ := blkOf_is hb
      exact ne_nil8 (h8 b (List.mem_of_getElem? h3))
    exact ⟨by simp [hn], fun _ => rfl⟩
  | none =>
    obtain ⟨h1, h2⟩ := now_out (L := L) (H := H) (s := s) hb
    have hLl := hT.1
    have hHl := hH.1
    have he : L[i]? = some (entN L i) := by unfold entN; rw [List.getElem?_eq_getElem (by omega)]; rfl
    have hh : H[i]? = some (H[i]'(by omega)) := List.getElem?_eq_getElem _
    rw [h1, h2]
    rcases known_cases hH he hh with ⟨k1, _⟩ | ⟨k1, k2, k3, k4⟩ | ⟨k1, k2, _, _, k5⟩
    · rw [if_pos k1]
      exact ⟨by simp [k1], fun h => absurd k1 h⟩
    · rw [if_neg k1]
      refine ⟨by simp [k1, k2], fun _ => ?_⟩
      rw [k4]
      exact (hC i _ _ he hh k2 k3).symm
    · rw [if_neg k1]
      exact ⟨by simp [k1, k2], fun _ => k5.symm⟩
/-- With one of it not had all of it is known. -/
theorem want_known (hH : HadOk (d : Int) H) (hT : TabOk (d : Int) L) (hC : Coh L H) (h8 : ∀ x ∈ bl, x.length = 8) (miss : Nat) {i : Nat} (hi : i < d + 1) : some (knownL (wrT L H ats bl s d) ((wantL L H ats bl d).set miss []) i) = (wantL L H ats bl d)[i]? := by
  have hw8 := wantB_8 (L := L) (ats := ats) hH h8
  rw [← want_full, ← known_one (s := s) hw8 wantB_len miss hi]
  congr 1
  have hall : ∀ j, j < d + 1 → ∃ e e', (wrT L H ats bl s d)[j]? = some e ∧ (fullT s (wantB L H ats bl d))[j]? = some e' ∧ e.lost = e'.lost ∧ (e.lost = false → e.sum = e'.sum) := fun j hj => by
    by_cases hjd : j < d
    · obtain ⟨h1, h2⟩ := new_is (ats := ats) (s := s) hH hT hC h8 hjd
      refine ⟨_, _, wrT_at hjd, fullT_at (wantB_at hjd), h1, fun hl => ?_⟩
      rw [h1] at hl
      have hn : nowB L H ats bl j ≠ [] := of_decide_eq_false hl
      rw [h2 hn]
      simp [hn]
    · obtain rfl : j = d := by omega
      refine ⟨_, _, wrT_last, ?_, rfl, fun _ => rfl⟩
      have := fullT_last s (wantB L H ats bl j)
      rw [wantB_len, wantB_par] at this
      exact this
  obtain ⟨e, e', he, he', hl, hs⟩ := hall i hi
  have hxl : i < ((fullH (wantB L H ats bl d)).set miss []).length := by rw [List.length_set, fullH_len, wantB_len]; exact hi
  refine known_congr (fun j => ?_) he he' (List.getElem?_eq_getElem hxl) hs
  by_cases hj : j < d + 1
  · obtain ⟨a, a', h1, h2, h3, _⟩ := hall j hj
    rw [h1, h2]
    simp [h3]
  · rw [List.getElem?_eq_none (by rw [wrT_len]; omega), List.getElem?_eq_none (by rw [fullT_len, wantB_len]; omega)]
end

/-- What was met of the block i among those written, up to the j-th. -/
def HitK (L : List Ent) (H : List (List UInt8)) (ats : List Int) (bl : List (List UInt8)) (i j : Nat) (l : List UInt8) : Prop :=
  ((i : Int) ∉ ats.take j ∧ l = knownL L H i) ∨ ∃ t, t < j ∧ ats[t]? = some (i : Int) ∧ bl[t]? = some l
section
variable {L : List Ent} {H : List (List UInt8)} {ats : List Int} {bl : List (List UInt8)} {l b : List UInt8} {a : Int} {d i j : Nat}
theorem hitk_zero : HitK L H ats bl i 0 (knownL L H i) := .inl ⟨by simp, rfl⟩
theorem hitk_here (ha : ats[j]? = some a) (hb : bl[j]? = some b) (h : a = (i : Int)) : HitK L H ats bl i (j + 1) b := .inr ⟨j, by omega, by rw [ha, h], hb⟩
theorem hitk_on (hq : HitK L H ats bl i j l) (ha : ats[j]? = some a) (h : a ≠ (i : Int)) : HitK L H ats bl i (j + 1) l := by
  rcases hq with ⟨h1, h2⟩ | ⟨t, h2, h3, h4⟩
  · refine .inl ⟨fun hm => ?_, h2⟩
    obtain ⟨h5, e5⟩ := List.getElem?_eq_some_iff.1 ha
    rw [List.take_succ_eq_append_getElem h5, e5] at hm
    rcases List.mem_append.1 hm with h6 | h6
    · exact h1 h6
    · simp at h6
      exact h h6.symm
  · exact .inr ⟨t, by omega, h3, h4⟩
theorem hitk_end (hA : AtsOk (d : Int) ats) (hq : HitK L H ats bl i ats.length l) : nowB L H ats bl i = l := by
  rcases hq with ⟨h1, h2⟩ | ⟨t, h2, h3, h4⟩
  · rw [List.take_length] at h1
    rw [(now_out (L := L) (H := H) (s := 0) (blkOf_none bl h1)).1, h2]
  · exact (now_in (L := L) (H := H) (s := 0) (blkOf_at hA h3 h4)).1
end

end Go.Proofs.Ytikjhcfalofgaaa
