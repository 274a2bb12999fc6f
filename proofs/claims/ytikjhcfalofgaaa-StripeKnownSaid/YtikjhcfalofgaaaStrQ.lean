/-
  Plain: a zone of which nothing is lost, written into block for block.
-/
import Derived.Test.YtikjhcfalofgaaaLawS1
namespace Go.Proofs.Ytikjhcfalofgaaa
open Go.RowKit
set_option linter.unusedVariables false

/-- What the blocks are behind a write; the parity of blocks; the rows, the parity last. -/
def updF (Bd : Nat → List UInt8) (ats : List Int) (bl : List (List UInt8)) (i : Nat) : List UInt8 := (blkOf ats bl i).getD (Bd i)
def parF (d : Nat) (Bd : Nat → List UInt8) : List UInt8 := zxs zero8 ((List.range d).map Bd)
def rowF (d : Nat) (Bd : Nat → List UInt8) (j : Nat) : List UInt8 := if j < d then Bd j else parF d Bd
structure ZInv (d : Nat) (L : List Ent) (H : List (List UInt8)) (Bd : Nat → List UInt8) : Prop where
  ll : L.length = d + 1
  hl : H.length = d + 1
  b8 : ∀ i, (Bd i).length = 8
  tab : ∀ j, j < d + 1 → ∃ s, NumOk s ∧ L[j]? = some ⟨s, crc (rowF d Bd j), false⟩
  had : ∀ j, j < d + 1 → H[j]? = some (rowF d Bd j)

theorem parF_succ (k : Nat) (Bd : Nat → List UInt8) : parF (k + 1) Bd = zx (parF k Bd) (Bd k) := by
  unfold parF zxs
  rw [range_snoc, List.foldl_append]
  rfl
theorem par_blk (d : Nat) (B : List (List UInt8)) : parL (fullB d B []) = parF d (blkAt B) := by
  induction d with
  | zero => rfl
  | succ k ih => rw [parB_succ, lostAt_out (by simp), if_neg (by simp), ih, parF_succ]
theorem parF_len {Bd : Nat → List UInt8} (h : ∀ i, (Bd i).length = 8) (d : Nat) : (parF d Bd).length = 8 :=
  zxs_len _ _ 8 (by simp [zero8]) (fun x hx => by
    obtain ⟨i, _, rfl⟩ := List.mem_map.1 hx
    exact h i)
theorem rowF_len {Bd : Nat → List UInt8} (h : ∀ i, (Bd i).length = 8) (d j : Nat) : (rowF d Bd j).length = 8 := by
  unfold rowF
  split
  · exact h j
  · exact parF_len h d
theorem zinv_start {s : Int} (hs : NumOk s) (d : Nat) (B : List (List UInt8)) : ZInv d (fullT s (fullB d B [])) (fullH (fullB d B [])) (blkAt B) := by
  have hl : ∀ i, lostAt [] i = false := fun i => lostAt_out (by simp)
  refine ⟨by rw [fullT_len, fullB_len], by rw [fullH_len, fullB_len], blkAt_len B, fun j hj => ⟨s, hs, ?_⟩, fun j hj => ?_⟩
  · rw [fullT_is, par_blk]
    unfold rowF
    by_cases h : j < d
    · rw [List.getElem?_append_left (by simpa using h), List.getElem?_map, List.getElem?_range h, if_pos h]
      simp [entAt, hl]
    · obtain rfl : j = d := by omega
      rw [List.getElem?_append_right (by simp), if_neg h]
      simp
  · rw [fullH_is, par_blk]
    unfold rowF
    by_cases h : j < d
    · rw [List.getElem?_append_left (by simpa using h), List.getElem?_map, List.getElem?_range h, if_pos h]
      simp [rowAt, hl]
    · obtain rfl : j = d := by omega
      rw [List.getElem?_append_right (by simp), if_neg h]
      simp
theorem crc_num (l : List UInt8) : NumOk (crc l : Int) := by have := crc_lt l; exact ⟨by omega, by omega⟩

section
variable {d j : Nat} {L : List Ent} {H : List (List UInt8)} {Bd : Nat → List UInt8} {ats : List Int} {bl : List (List UInt8)} {s : Int}
theorem ZInv.tabok (h : ZInv d L H Bd) : TabOk (d : Int) L := by
  refine ⟨by rw [h.ll]; omega, fun e he => ?_, fun e he => ?_⟩
  · obtain ⟨j, hj⟩ := List.mem_iff_getElem?.1 he
    have hjl := (List.getElem?_eq_some_iff.1 hj).1
    obtain ⟨s, hs, h1⟩ := h.tab j (by have := h.ll; omega)
    rw [hj] at h1
    injection h1 with h1
    subst h1
    exact ⟨hs, crc_num _⟩
  · rw [Int.toNat_natCast] at he
    obtain ⟨s, hs, h1⟩ := h.tab d (by omega)
    rw [he] at h1
    injection h1 with h1
    subst h1
    rfl
theorem ZInv.hadok (h : ZInv d L H Bd) : HadOk (d : Int) H := by
  refine ⟨by rw [h.hl]; omega, fun x hx => ?_⟩
  obtain ⟨j, hj⟩ := List.mem_iff_getElem?.1 hx
  have hjl := (List.getElem?_eq_some_iff.1 hj).1
  have h1 := h.had j (by have := h.hl; omega)
  rw [hj] at h1
  injection h1 with h1
  subst h1
  exact .inr (rowF_len h.b8 d j)
theorem ZInv.known (h : ZInv d L H Bd) (hj : j < d + 1) : knownL L H j = rowF d Bd j := by
  obtain ⟨s, hs, h1⟩ := h.tab j hj
  rw [known_eq h1 (h.had j hj), if_neg (by simp), if_pos (ne_nil8 (rowF_len h.b8 d j))]
theorem upd_len (hb : ∀ i, (Bd i).length = 8) (h8 : ∀ x ∈ bl, x.length = 8) (i : Nat) : (updF Bd ats bl i).length = 8 := by
  unfold updF
  cases h : blkOf ats bl i with
  | none => exact hb i
  | some b =>
    obtain ⟨k, _, h2⟩ := blkOf_is h
    exact h8 b (List.mem_of_getElem? h2)
theorem ZInv.now (h : ZInv d L H Bd) (hj : j < d) : nowB L H ats bl j = updF Bd ats bl j := by
  unfold nowB updF
  cases h2 : blkOf ats bl j with
  | none => simp only [Option.getD_none]; rw [h.known (by omega)]; unfold rowF; rw [if_pos hj]
  | some b => rfl
theorem ZInv.par (h : ZInv d L H Bd) (h8 : ∀ x ∈ bl, x.length = 8) : parN L H ats bl d = parF d (updF Bd ats bl) := by
  unfold parN parF stayL
  have e : (List.range d).map (nowB L H ats bl) = (List.range d).map (updF Bd ats bl) := List.map_congr_left fun i hi => h.now (List.mem_range.1 hi)
  rw [e, List.filter_eq_self.2]
  intro x hx
  obtain ⟨i, _, rfl⟩ := List.mem_map.1 hx
  simpa using ne_nil8 (upd_len h.b8 h8 i)
theorem ZInv.wr (h : ZInv d L H Bd) (h8 : ∀ x ∈ bl, x.length = 8) (hs : NumOk s) (hj : j < d + 1) : ∃ s', NumOk s' ∧ (wrT L H ats bl s d)[j]? = some ⟨s', crc (rowF d (updF Bd ats bl) j), false⟩ := by
  unfold rowF
  by_cases hjd : j < d
  · rw [wrT_at hjd, if_pos hjd]
    unfold newE updF
    cases h2 : blkOf ats bl j with
    | some b => exact ⟨s, hs, rfl⟩
    | none =>
      have hk := h.known hj
      obtain ⟨s', hs', h1⟩ := h.tab j hj
      have he : entN L j = ⟨s', crc (rowF d Bd j), false⟩ := by unfold entN; rw [h1]; rfl
      simp only [Option.getD_none]
      rw [hk, if_neg (ne_nil8 (rowF_len h.b8 d j)), he]
      refine ⟨s', hs', ?_⟩
      unfold rowF
      rw [if_pos hjd]
  · obtain rfl : j = d := by omega
    rw [wrT_last, if_neg hjd, h.par h8]
    exact ⟨s, hs, rfl⟩
theorem ZInv.step {k : Nat} {b : List UInt8} (h : ZInv d L H Bd) (hb : b.length = 8) (hk : k < d) (hs : NumOk s) : ZInv d (wrT L H [(k : Int)] [b] s d) ((H.set k b).set d (parN L H [(k : Int)] [b] d)) (updF Bd [(k : Int)] [b]) := by
  have h8 : ∀ x ∈ [b], x.length = 8 := fun x hx => by simp at hx; rw [hx]; exact hb
  refine ⟨wrT_len, by rw [List.length_set, List.length_set, h.hl], upd_len h.b8 h8, fun j hj => h.wr h8 hs hj, fun j hj => ?_⟩
  rw [h.par h8]
  unfold rowF
  have hH := h.hl
  by_cases hjd : j < d
  · rw [if_pos hjd, List.getElem?_set_ne (by omega)]
    unfold updF blkOf
    by_cases hjk : j = k
    · subst hjk
      rw [List.getElem?_set_self (by omega), if_pos rfl]
      rfl
    · rw [List.getElem?_set_ne (by omega), if_neg (by omega), h.had j hj]
      unfold rowF blkOf
      rw [if_pos hjd]
      rfl
  · obtain rfl : j = d := by omega
    rw [if_neg hjd, List.getElem?_set_self (by rw [List.length_set]; omega)]
theorem blkOf_ne {us : List Int} {bs : List (List UInt8)} {a : Int} {b : List UInt8} (hl : us.length = bs.length) (h : a ≠ (j : Int)) : blkOf (us ++ [a]) (bs ++ [b]) j = blkOf us bs j := by
  induction us generalizing bs with
  | nil =>
    cases bs with
    | nil => simp [blkOf, h]
    | cons c bs => simp at hl
  | cons x us ih =>
    cases bs with
    | nil => simp at hl
    | cons c bs =>
      rw [List.cons_append, List.cons_append, blkOf, blkOf, ih (by simpa using hl)]
theorem upd_snoc (hA : AtsOk (d : Int) ats) (hl : bl.length = ats.length) {i : Nat} {a : Int} {b : List UInt8} (ha : ats[i]? = some a) (hb : bl[i]? = some b) : updF (updF Bd (ats.take i) (bl.take i)) [a] [b] = updF Bd (ats.take (i + 1)) (bl.take (i + 1)) := by
  funext j
  obtain ⟨h1, e1⟩ := List.getElem?_eq_some_iff.1 ha
  obtain ⟨h2, e2⟩ := List.getElem?_eq_some_iff.1 hb
  by_cases hj : a = (j : Int)
  · have h3 : blkOf (ats.take (i + 1)) (bl.take (i + 1)) j = some b := by
      refine blkOf_some (k := i) (by rw [List.getElem?_take, if_pos (by omega), ha, hj]) (fun hm => ?_) (by rw [List.getElem?_take, if_pos (by omega), hb])
      rw [List.take_take, Nat.min_eq_left (by omega)] at hm
      obtain ⟨t, ht⟩ := List.mem_iff_getElem?.1 hm
      rw [List.getElem?_take] at ht
      split at ht
      · have := ats_inj hA ht (by rw [ha, hj])
        omega
      · cases ht
    unfold updF
    rw [h3]
    simp [blkOf, hj]
  · have h3 : blkOf (ats.take (i + 1)) (bl.take (i + 1)) j = blkOf (ats.take i) (bl.take i) j := by
      rw [List.take_succ_eq_append_getElem h1, List.take_succ_eq_append_getElem h2, e1, blkOf_ne (by simp; omega) hj]
    unfold updF
    rw [h3]
    simp [blkOf, hj]
theorem ats_one (hA : AtsOk (d : Int) ats) {i : Nat} {a : Int} (ha : ats[i]? = some a) : AtsOk (d : Int) [a] ∧ ∃ k : Nat, a = (k : Int) ∧ k < d := by
  have h := (hA.2 i (List.getElem?_eq_some_iff.1 ha).1).1
  rw [atN_at ha] at h
  refine ⟨⟨by simp, fun k hk => ?_⟩, a.toNat, by omega, by omega⟩
  obtain rfl : k = 0 := by simpa using hk
  exact ⟨h, .inl rfl⟩
end

end Go.Proofs.Ytikjhcfalofgaaa
