/-
  Plain: what the laws of a zone ask.
-/
import Derived.Test.YtikjhcfalofgaaaZFullP
namespace Go.Proofs.Ytikjhcfalofgaaa
open Go.RowKit
set_option linter.unusedVariables false

section
variable {s : Int} {bs : List (List UInt8 × Bool)} {H : List (List UInt8)} {i d : Nat}
theorem tab_full (hs : NumOk s) (hd : bs.length = d) : TabOk (d : Int) (fullT s bs) := by
  subst hd
  refine ⟨by rw [fullT_len]; omega, fun e he => ?_, fun e he => ?_⟩
  · have hc : ∀ l, NumOk (crc l : Int) := fun l => by have := crc_lt l; exact ⟨by omega, by omega⟩
    simp only [fullT, List.mem_append, List.mem_map, List.mem_singleton] at he
    rcases he with ⟨x, _, rfl⟩ | rfl
    · exact ⟨hs, hc _⟩
    · exact ⟨hs, hc _⟩
  · rw [Int.toNat_natCast, fullT_last] at he
    injection he with he
    subst he
    rfl
theorem fullH_mem (hb : ∀ x ∈ bs, x.1.length = 8) {h : List UInt8} (hh : h ∈ fullH bs) : h.length = 0 ∨ h.length = 8 := by
  simp only [fullH, List.mem_append, List.mem_map, List.mem_singleton] at hh
  rcases hh with ⟨x, hx, rfl⟩ | rfl
  · cases x.2
    · exact .inr (hb x hx)
    · exact .inl rfl
  · exact .inr (parL_len hb)
theorem had_full (hb : ∀ x ∈ bs, x.1.length = 8) (hd : bs.length = d) (hHl : H.length = d + 1) (hA : ∀ (j : Nat) h, H[j]? = some h → h = [] ∨ (fullH bs)[j]? = some h) : HadOk (d : Int) H := by
  refine ⟨by rw [hHl]; omega, fun h hh => ?_⟩
  obtain ⟨j, hj⟩ := List.mem_iff_getElem?.1 hh
  rcases hA j h hj with rfl | h2
  · exact .inl rfl
  · exact fullH_mem hb (List.mem_of_getElem? h2)
theorem full_at (hd : bs.length = d) (hi : i < d + 1) : ∃ e a, (fullT s bs)[i]? = some e ∧ (fullH bs)[i]? = some a ∧ (e.lost = true → a = []) := by
  by_cases h : i = d
  · subst h
    subst hd
    exact ⟨_, _, fullT_last s bs, fullH_last bs, fun h => by cases h⟩
  · obtain ⟨⟨b, l⟩, hx⟩ : ∃ x, bs[i]? = some x := ⟨_, List.getElem?_eq_getElem (by omega)⟩
    exact ⟨_, _, fullT_at hx, fullH_at hx, fun h => by simp only at h; rw [h]; rfl⟩

/-- With one of them not had all are known that are not lost. -/
theorem known_one (hb : ∀ x ∈ bs, x.1.length = 8) (hd : bs.length = d) (miss : Nat) (hi : i < d + 1) : some (knownL (fullT s bs) ((fullH bs).set miss []) i) = (fullH bs)[i]? := by
  obtain ⟨e, a, he, ha, hl⟩ := full_at (s := s) hd hi
  have hHl : ((fullH bs).set miss []).length = bs.length + 1 := by rw [List.length_set, fullH_len]
  have hset : ∀ (j : Nat) h, ((fullH bs).set miss [])[j]? = some h → h = [] ∨ (fullH bs)[j]? = some h := fun j h hj => by
    by_cases hm : miss = j
    · subst hm
      rw [List.getElem?_set_self'] at hj
      cases h1 : (fullH bs)[miss]? with
      | none => rw [h1] at hj; cases hj
      | some y => rw [h1] at hj; simp at hj; exact .inl hj
    · rw [List.getElem?_set_ne hm] at hj
      exact .inr hj
  obtain ⟨k1, k2⟩ := known_full (H := (fullH bs).set miss []) hb hHl hset he ha
  rw [ha]
  cases hel : e.lost with
  | true => rw [k1 hel, hl hel]
  | false =>
    obtain ⟨a8, k3, k4, _⟩ := k2 hel
    by_cases hm : miss = i
    · subst hm
      have hx : ((fullH bs).set miss [])[miss]? = some [] := by rw [List.getElem?_set_self (by rw [fullH_len]; omega)]
      rw [k4 hx fun j e' hj he' hl' hn => ?_]
      rw [List.getElem?_set_ne (fun e => hj e.symm)] at hn
      have hj1 := (List.getElem?_eq_some_iff.1 he').1
      rw [fullT_len] at hj1
      obtain ⟨e2, a2, h1, h2, _⟩ := full_at (s := s) (i := j) hd (by omega)
      rw [he'] at h1
      injection h1 with h1
      subst h1
      rw [hn] at h2
      injection h2 with h2
      subst h2
      obtain ⟨_, q2⟩ := known_full (H := fullH bs) hb (fullH_len bs) (fun j h hh => .inr hh) he' hn
      obtain ⟨q8, _⟩ := q2 hl'
      cases q8
    · rw [k3 (by rw [List.getElem?_set_ne hm]; exact ha)]
/-- What is known and what is lost. -/
theorem full_lost (hb : ∀ x ∈ bs, x.1.length = 8) {e : Ent} {a : List UInt8} (he : (fullT s bs)[i]? = some e) (ha : (fullH bs)[i]? = some a) : (a ≠ []) ↔ e.lost = false := by
  obtain ⟨k1, k2⟩ := known_full (H := fullH bs) hb (fullH_len bs) (fun j h hh => .inr hh) he ha
  have hil := (List.getElem?_eq_some_iff.1 he).1
  rw [fullT_len] at hil
  obtain ⟨e2, a2, h1, h2, hl⟩ := full_at (s := s) (i := i) rfl hil
  rw [he] at h1
  rw [ha] at h2
  injection h1 with h1
  injection h2 with h2
  subst h1
  subst h2
  cases hel : e.lost with
  | true => simp [hl hel]
  | false => simp [ne_nil8 (k2 hel).1]
end

/-- What is known, in its cases. -/
theorem known_cases {d : Int} {L : List Ent} {H : List (List UInt8)} {i : Nat} (hH : HadOk d H) {e : Ent} {h : List UInt8} (he : L[i]? = some e) (hh : H[i]? = some h) :
    (knownL L H i = [] ∧ (e.lost = true ∨ h = [])) ∨ (knownL L H i ≠ [] ∧ e.lost = false ∧ h ≠ [] ∧ knownL L H i = h) ∨ (knownL L H i ≠ [] ∧ e.lost = false ∧ h = [] ∧ (knownL L H i).length = 8 ∧ (crc (knownL L H i) : Int) = e.sum) := by
  have hk := known_eq he hh
  cases hel : e.lost with
  | true =>
    rw [hel, if_pos rfl] at hk
    exact .inl ⟨hk, .inl rfl⟩
  | false =>
    rw [hel, if_neg (by simp)] at hk
    by_cases h0 : h = []
    · by_cases hn : knownL L H i = []
      · exact .inl ⟨hn, .inr h0⟩
      · refine .inr (.inr ⟨hn, rfl, h0, ?_, ?_⟩)
        · rcases known_len (L := L) hH i with h1 | h1
          · exact absurd (List.eq_nil_of_length_eq_zero h1) hn
          · exact h1
        · rw [if_neg (by simpa using h0)] at hk
          split at hk
          · exact absurd hk hn
          · split at hk
            · rename_i h3
              rw [hk]
              exact h3
            · exact absurd hk hn
    · rw [if_pos h0] at hk
      exact .inr (.inl ⟨by rw [hk]; exact h0, rfl, h0, hk⟩)

/-- What is had of a block that is lost is not looked at. -/
theorem oth_lost {L : List Ent} {H : List (List UInt8)} {at_ : Nat} {e : Ent} (he : L[at_]? = some e) (hl : e.lost = true) (b : List UInt8) (i n : Nat) : othN L (H.set at_ b) i n = othN L H i n := by
  unfold othN
  congr 1
  funext j
  split
  · rfl
  · rename_i hno
    simp only [not_or] at hno
    rw [List.getElem?_set_ne]
    rintro rfl
    exact hno.2 (by rw [he]; simpa using hl)
theorem known_lostset {L : List Ent} {H : List (List UInt8)} {at_ : Nat} {e : Ent} (he : L[at_]? = some e) (hl : e.lost = true) (b : List UInt8) (i : Nat) : knownL L (H.set at_ b) i = if i = at_ then [] else knownL L H i := by
  by_cases hi : i = at_
  · subst hi
    rw [if_pos rfl]
    unfold knownL
    split
    · rename_i e' h he' hh
      rw [he] at he'
      injection he' with he'
      subst he'
      rw [if_pos hl]
    · rfl
  · rw [if_neg hi]
    unfold knownL
    rw [List.getElem?_set_ne (fun e => hi e.symm), oth_lost he hl, List.length_set]

/-- Some of them not had, and how many. -/
def missB (M : List Bool) (X : List (List UInt8)) (j : Nat) : Bool := (M[j]?).getD false && decide (X[j]? ≠ some [])
def maskH (M : List Bool) (X : List (List UInt8)) : Nat → List (List UInt8)
  | 0 => X
  | k + 1 => if missB M X k then (maskH M X k).set k [] else maskH M X k
def maskN (M : List Bool) (X : List (List UInt8)) (k : Nat) : Nat := ((List.range k).filter (missB M X)).length
theorem maskN_succ (M : List Bool) (X : List (List UInt8)) (k : Nat) : maskN M X (k + 1) = if missB M X k then maskN M X k + 1 else maskN M X k := by
  unfold maskN
  rw [List.range_succ, List.filter_append]
  cases h : missB M X k <;> simp [h]
theorem mask_len (M : List Bool) (X : List (List UInt8)) (k : Nat) : (maskH M X k).length = X.length := by
  induction k with
  | zero => rfl
  | succ k ih =>
    unfold maskH
    split
    · rw [List.length_set, ih]
    · exact ih
theorem mask_at (M : List Bool) (X : List (List UInt8)) (k : Nat) {j : Nat} (hj : j < X.length) : (maskH M X k)[j]? = if j < k ∧ missB M X j = true then some [] else X[j]? := by
  induction k with
  | zero => simp [maskH]
  | succ k ih =>
    unfold maskH
    by_cases hjk : j = k
    · subst hjk
      cases hm : missB M X j with
      | true => simp [mask_len, hj]
      | false =>
        rw [if_neg (by simp), ih]
        simp
    · have e : (j < k + 1 ∧ missB M X j = true) ↔ (j < k ∧ missB M X j = true) := ⟨fun h => ⟨by have := h.1; omega, h.2⟩, fun h => ⟨by have := h.1; omega, h.2⟩⟩
      split
      · rw [List.getElem?_set_ne (fun e => hjk e.symm), ih]
        simp only [e]
      · rw [ih]
        simp only [e]
theorem two_of {F : List Nat} (hn : F.Nodup) {i : Nat} (hi : i ∈ F) : F.length < 2 ↔ ∀ j ∈ F, j = i := by
  match F, hn, hi with
  | [a], _, hi => simp at hi; simp [hi]
  | a :: b :: r, hn, hi =>
    refine ⟨fun h => by simp at h; omega, fun h => ?_⟩
    have h1 := h a (by simp)
    have h2 := h b (by simp)
    have h3 := (List.nodup_cons.1 hn).1
    rw [h1, h2] at h3
    exact absurd (by simp) h3
/-- What is known of it then. -/
theorem known_two {s : Int} {bs : List (List UInt8 × Bool)} {d i k : Nat} {M : List Bool} (hb : ∀ x ∈ bs, x.1.length = 8) (hd : bs.length = d) (hk : k ≤ d + 1) (hi : i < d + 1) {e : Ent} {a : List UInt8} (he : (fullT s bs)[i]? = some e) (ha : (fullH bs)[i]? = some a) :
    (e.lost = true → a = [] ∧ knownL (fullT s bs) (maskH M (fullH bs) k) i = []) ∧ (e.lost = false → a ≠ [] ∧
      (((maskH M (fullH bs) k)[i]? = some a ∧ knownL (fullT s bs) (maskH M (fullH bs) k) i = a) ∨
       ((maskH M (fullH bs) k)[i]? = some [] ∧ maskN M (fullH bs) k < 2 ∧ knownL (fullT s bs) (maskH M (fullH bs) k) i = a) ∨
       ((maskH M (fullH bs) k)[i]? = some [] ∧ ¬ maskN M (fullH bs) k < 2 ∧ knownL (fullT s bs) (maskH M (fullH bs) k) i = []))) := by
  have hHl : (maskH M (fullH bs) k).length = bs.length + 1 := by rw [mask_len, fullH_len]
  have hA : ∀ (j : Nat) h, (maskH M (fullH bs) k)[j]? = some h → h = [] ∨ (fullH bs)[j]? = some h := fun j h hj => by
    have hjl := (List.getElem?_eq_some_iff.1 hj).1
    rw [mask_len] at hjl
    rw [mask_at _ _ _ hjl] at hj
    split at hj
    · injection hj with hj
      exact .inl hj.symm
    · exact .inr hj
  have hil : i < (fullH bs).length := by rw [fullH_len]; omega
  obtain ⟨k1, k2⟩ := known_full (H := maskH M (fullH bs) k) hb hHl hA he ha
  have hl := full_lost hb he ha
  refine ⟨fun h => ⟨?_, k1 h⟩, fun h => ?_⟩
  · exact Classical.byContradiction fun hn => by rw [hl.1 hn] at h; cases h
  · obtain ⟨a8, k3, k4, k5⟩ := k2 h
    refine ⟨ne_nil8 a8, ?_⟩
    by_cases hm : i < k ∧ missB M (fullH bs) i = true
    · have hx : (maskH M (fullH bs) k)[i]? = some [] := by rw [mask_at _ _ _ hil, if_pos hm]
      have hmem : ∀ j, j ∈ (List.range k).filter (missB M (fullH bs)) ↔ j < k ∧ missB M (fullH bs) j = true := fun j => by simp
      have htwo := two_of (List.Pairwise.filter (missB M (fullH bs)) List.nodup_range) ((hmem i).2 hm)
      by_cases hn : maskN M (fullH bs) k < 2
      · refine .inr (.inl ⟨hx, hn, k4 hx fun j e' hj he' hl' hj0 => ?_⟩)
        have hjl := (List.getElem?_eq_some_iff.1 he').1
        rw [fullT_len] at hjl
        have hjH : j < (fullH bs).length := by rw [fullH_len]; omega
        rw [mask_at _ _ _ hjH] at hj0
        by_cases hjm : j < k ∧ missB M (fullH bs) j = true
        · exact hj (htwo.1 hn j ((hmem j).2 hjm))
        · rw [if_neg hjm] at hj0
          exact (full_lost hb he' hj0).2 hl' rfl
      · refine .inr (.inr ⟨hx, hn, k5 hx ?_⟩)
        have hno : ¬ ∀ j ∈ (List.range k).filter (missB M (fullH bs)), j = i := fun h2 => hn (htwo.2 h2)
        obtain ⟨j, hj⟩ := Classical.not_forall.1 hno
        obtain ⟨hjm, hji⟩ := Classical.not_imp.1 hj
        have hjm := (hmem j).1 hjm
        have hjx : (fullH bs)[j]? ≠ some [] := by
          have := hjm.2
          unfold missB at this
          simp at this
          exact this.2
        have hjM : M[j]? = some true := by
          have := hjm.2
          unfold missB at this
          simp at this
          cases hM : M[j]? with
          | none => rw [hM] at this; simp at this
          | some b => rw [hM] at this; simp at this; rw [this.1]
        by_cases hjl : j < (fullH bs).length
        · obtain ⟨e', a', he', ha', _⟩ := full_at (s := s) (i := j) (bs := bs) rfl (by rw [fullH_len] at hjl; exact hjl)
          refine ⟨j, e', hji, he', (full_lost hb he' ha').1 (by rintro rfl; exact hjx ha'), ?_⟩
          rw [mask_at _ _ _ hjl, if_pos hjm]
        · exact absurd (by rw [fullH_len]; have := hjm.1; omega) hjl
    · have hx : (maskH M (fullH bs) k)[i]? = some a := by rw [mask_at _ _ _ hil, if_neg hm]; exact ha
      exact .inl ⟨hx, k3 hx⟩

end Go.Proofs.Ytikjhcfalofgaaa
