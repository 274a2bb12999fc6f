/-
  Contracts: label.Runes, Cut, right, Check.
-/
import Derived.Test.YtdcoholjnlndgaaDoorLabP
import Derived.Test.YtdcoholjnlndgaaDoorKeep
import Derived.Test.YtdcoholjnlndgaaDoorLay
import Derived.Deep.DeepCutAuto
import Derived.Laws.RangeAny
import Derived.Lib.OthersKept
namespace Go.Proofs.YtdcoholjnlndgaaDoor
open Go.RowKit Go.Lib
set_option linter.unusedVariables false
set_option maxRecDepth 100000

theorem iter_below (w : World) (s : ByteArray) (p : Nat) : Below w.heap.size w (w.iter s p) := (Below.refl _ _).alloc (Nat.le_refl _) _

/-- One rune more. -/
theorem rune_step {s : ByteArray} {k : Nat} (h : posN (sL s) k < s.size) : k < (decs (sL s)).length ∧ (decs (sL s))[k]? = some (Utf8.decode s (posN (sL s) k)) ∧ posN (sL s) (k + 1) = posN (sL s) k + (Utf8.decode s (posN (sL s) k)).2 := by
  have h1 := posN_step (l := sL s) (k := k) (by rw [sL_len]; exact h)
  rwa [decodeL_drop] at h1
theorem rune_end {s : ByteArray} {k : Nat} (h : ¬ posN (sL s) k < s.size) : posN (sL s) k = s.size ∧ (decs (sL s)).length ≤ k := by
  have h1 := posN_end (l := sL s) (k := k) (by rw [sL_len]; exact h)
  rwa [sL_len] at h1
theorem rune_pos {s : ByteArray} (k : Nat) : posN (sL s) k ≤ s.size := by
  have := posN_le (sL s) k
  rwa [sL_len] at this

set_option maxHeartbeats 1000000 in
theorem runes_any (s : ByteArray) (hs : s.size ≤ 65536) (w : World) :
    Calls Tryd.prog 51 #[.string s] w fun e w' => e = .returned (.int .i64 (decs (sL s)).length) ∧ Below w.heap.size w w' := by
  have hcl := runes_le (sL s)
  rw [sL_len] at hcl
  obtain ⟨C, hC⟩ : ∃ C, C = (decs (sL s)).length := ⟨_, rfl⟩
  rw [← hC] at hcl ⊢
  have HC := hide hC
  clear hC
  go_enter Tryd.func51, Tryd.ntmps51
  go_wp2_with fail
  go_loopw [3] (fun v wr => ∃ k p : Nat, k ≤ C ∧ v = .int .i64 k ∧ Hid (p = posN (sL s) k) ∧ wr = w.iter s p) (fun _ wr => s.size - wr.iterPos w.heap.size)
  case atStart => exact ⟨0, 0, Nat.zero_le _, rfl, (posN_zero _).symm, rfl⟩
  case round =>
    obtain ⟨k, p, hk, rfl, hp, rfl⟩ := hrel
    by_cases hlt : p < s.size
    · have hst := rune_step (s := s) (k := k) (by rw [← hp.out]; exact hlt)
      rw [← hp.out, ← HC.out] at hst
      obtain ⟨hk2, hx, hpp⟩ := hst
      have hnx : ∀ ty, (Instr.next (.pointer (some ⟨w.heap.size, 0, none⟩)) true ty).run Tryd.prog (w.iter s p) = _ := fun ty => run_next_any w s p ty hlt
      rw [← hpp] at hnx
      have hwd : p < posN (sL s) (k + 1) := by
        have := decodeL_width ((sL s).drop p)
        rw [decodeL_drop] at this
        omega
      obtain ⟨p', hp'⟩ : ∃ p', p' = posN (sL s) (k + 1) := ⟨_, rfl⟩
      rw [← hp'] at hnx hwd
      have HP := hide hp'
      clear hpp hp' hx
      go_wp2_with fail
      go_roundw
      case rel => exact ⟨k + 1, p', by omega, by go_num, HP, rfl⟩
      case measure => simp; omega
    · have hen := rune_end (s := s) (k := k) (by rw [← hp.out]; exact hlt)
      rw [← HC.out] at hen
      obtain rfl : k = C := by omega
      have hnx : ∀ ty, (Instr.next (.pointer (some ⟨w.heap.size, 0, none⟩)) true ty).run Tryd.prog (w.iter s p) = _ := fun ty => run_next_end w s p ty hlt
      clear hen
      go_wp2_with fail
      go_ret
      exact ⟨rfl, iter_below _ _ _⟩

theorem sL_extract (s : ByteArray) (a b : Nat) (h : b ≤ s.size) : s.extract a b = mkS (((sL s).drop a).take (b - a)) := by
  rw [← mk_sL (s.extract a b)]
  congr 1
  have h1 : (s.extract a b).data = s.data.extract a b := ByteArray.data_extract
  unfold sL
  rw [h1, Array.toList_extract]

/-- The tables that utf8.ValidString reads. -/
def Tabs (w : World) : Prop := Lib.Utf8Tabs (Tryd.laysValid_ren.g 3) (Tryd.laysValid_ren.g 4) w
theorem Tabs.below {w w' : World} (h : Tabs w) (hb : Below w.heap.size w w') : Tabs w' := Utf8Tabs_below h hb
theorem valids_any (s : ByteArray) (w : World) (hs : s.size ≤ 65536) (hT : Tabs w) :
    Calls Tryd.prog 59 #[.string s] w fun e w' => e = .returned (.bool (validD (sL s))) ∧ Below w.heap.size w w' :=
  Any.utf8_ValidString Tryd.laysValid s w (by omega) hT

/-- All runes so far may stand. -/
def Fit (x : Nat × Nat) : Prop := 32 ≤ x.1 ∧ x.1 ≠ 127
theorem good_iff (l : List UInt8) : (∀ x ∈ decs l, Good x) ↔ (∀ x ∈ decs l, Fit x) ∧ validD l = true := by
  rw [valid_decs]
  constructor
  · exact fun h => ⟨fun x hx => (h x hx).2, fun x hx => (h x hx).1⟩
  · exact fun h x hx => ⟨h.2 x hx, h.1 x hx⟩

set_option maxHeartbeats 2000000 in
theorem lright_any (s : ByteArray) (hs : s.size ≤ 65536) (w : World) (hT : Tabs w) :
    Calls Tryd.prog 50 #[.string s] w fun e w' => e = .returned (.bool (decide (∀ x ∈ decs (sL s), Good x))) ∧ Below w.heap.size w w' := by
  have hcl := runes_le (sL s)
  rw [sL_len] at hcl
  obtain ⟨D, hD⟩ : ∃ D, D = decide (∀ x ∈ decs (sL s), Good x) := ⟨_, rfl⟩
  rw [← hD]
  have HD := hide hD
  clear hD
  go_enter Tryd.func50, Tryd.ntmps50
  go_wp2_with fail
  go_loopw [] (fun wr => ∃ k p : Nat, Hid (p = posN (sL s) k) ∧ Hid (∀ x ∈ (decs (sL s)).take k, Fit x) ∧ wr = w.iter s p) (fun wr => s.size - wr.iterPos w.heap.size)
  case atStart => exact ⟨0, 0, (posN_zero _).symm, by intro x hx; simp at hx, rfl⟩
  case round =>
    obtain ⟨k, p, hp, hfit, rfl⟩ := hrel
    by_cases hlt : p < s.size
    · have hst := rune_step (s := s) (k := k) (by rw [← hp.out]; exact hlt)
      rw [← hp.out] at hst
      obtain ⟨hk2, hx, hpp⟩ := hst
      have hnx : ∀ ty, (Instr.next (.pointer (some ⟨w.heap.size, 0, none⟩)) true ty).run Tryd.prog (w.iter s p) = _ := fun ty => run_next_any w s p ty hlt
      rw [← hpp] at hnx
      have hwd : p < posN (sL s) (k + 1) := by
        have := decodeL_width ((sL s).drop p)
        rw [decodeL_drop] at this
        omega
      have hle := decode_le s p
      obtain ⟨p', hp'⟩ : ∃ p', p' = posN (sL s) (k + 1) := ⟨_, rfl⟩
      obtain ⟨⟨r, v⟩, hr⟩ : ∃ d, d = Utf8.decode s p := ⟨_, rfl⟩
      rw [← hr] at hnx hle hx
      rw [← hp'] at hnx hwd
      dsimp only at hnx hle
      have HP := hide hp'
      have HX := hide hx
      clear hpp hp' hx hr
      by_cases hf : Fit (r, v)
      · obtain ⟨hf1, hf2⟩ := hf
        dsimp only at hf1 hf2
        have e1 : ((r : Int) == 127) = false := by simp; omega
        have hn : ∀ x ∈ (decs (sL s)).take (k + 1), Fit x := by
          obtain ⟨h1, h2⟩ := List.getElem?_eq_some_iff.1 HX.out
          rw [List.take_succ_eq_append_getElem h1, h2]
          intro x hx
          rcases List.mem_append.1 hx with hx | hx
          · exact hfit.out x hx
          · simp at hx; subst hx; exact ⟨hf1, hf2⟩
        have HN := hide hn
        clear hn hf2
        go_wp2_with fail
        go_roundw
        case rel => exact ⟨k + 1, p', HP, HN, rfl⟩
        case measure => simp; omega
      · have hDF : D = false := by
          rw [HD.out]
          exact decide_eq_false fun h => hf ((good_iff _).1 h |>.1 _ (List.mem_of_getElem? HX.out))
        subst hDF
        by_cases h32 : r < 32
        · have hi : (r : Int) < 32 := by omega
          clear hf
          go_wp2_with fail
          go_ret
          exact ⟨rfl, iter_below _ _ _⟩
        · obtain rfl : r = 127 := by
            rcases Nat.lt_or_ge r 32 with h | h
            · exact absurd h h32
            · by_cases h7 : r = 127
              · exact h7
              · exact absurd ⟨h, h7⟩ hf
          clear hf
          go_wp2_with fail
          go_ret
          exact ⟨rfl, iter_below _ _ _⟩
    · have hen := rune_end (s := s) (k := k) (by rw [← hp.out]; exact hlt)
      have hnx : ∀ ty, (Instr.next (.pointer (some ⟨w.heap.size, 0, none⟩)) true ty).run Tryd.prog (w.iter s p) = _ := fun ty => run_next_end w s p ty hlt
      have hall : ∀ x ∈ decs (sL s), Fit x := by
        have h := hfit.out
        rwa [List.take_of_length_le hen.2] at h
      have hDV : validD (sL s) = D := by
        rw [HD.out]
        have := good_iff (sL s)
        cases hv : validD (sL s)
        · exact (decide_eq_false fun h => by have h1 := (this.1 h).2; rw [hv] at h1; cases h1).symm
        · exact (decide_eq_true (this.2 ⟨hall, hv⟩)).symm
      have hva := valids_any s (w.iter s p) hs (hT.below (iter_below _ _ _))
      rw [hDV] at hva
      have HVA := hide hva
      clear hen hall hDV hva
      go_wp2_with fail
      refine HVA.out.mono ?_
      rintro e w1 ⟨rfl, hb1⟩
      go_wp2_with fail
      go_ret
      exact ⟨rfl, th (iter_below _ _ _) hb1⟩

theorem lcheck_any (s : ByteArray) (hs : s.size ≤ 65536) (w : World) (hT : Tabs w) :
    Calls Tryd.prog 37 #[.string s] w fun e w' => e = .returned (.int .i64 (labE (sL s))) ∧ Below w.heap.size w w' := by
  have hr := lright_any s hs w hT
  by_cases hg : ∀ x ∈ decs (sL s), Good x
  · have hru := fun w => runes_any s hs w
    rw [decide_eq_true hg] at hr
    have hl : labE (sL s) = if 6 < (decs (sL s)).length then 2 else 0 := by unfold labE; rw [if_pos hg]
    obtain ⟨C, hC⟩ : ∃ C, C = (decs (sL s)).length := ⟨_, rfl⟩
    rw [← hC] at hru hl
    have hcl := runes_le (sL s)
    rw [← hC, sL_len] at hcl
    have HR := hide hr
    have HRU := hide hru
    clear hr hru hC hg
    by_cases h6 : 6 < C
    · rw [if_pos h6] at hl
      rw [hl]
      clear hl
      go_enter Tryd.func37, Tryd.ntmps37
      go_wp2_with fail
      refine HR.out.mono ?_
      rintro e w1 ⟨rfl, hb1⟩
      go_wp2_with fail
      refine (HRU.out _).mono ?_
      rintro e w2 ⟨rfl, hb2⟩
      go_wp2_with fail
      go_ret
      exact ⟨rfl, th hb1 hb2⟩
    · rw [if_neg h6] at hl
      rw [hl]
      clear hl
      go_enter Tryd.func37, Tryd.ntmps37
      go_wp2_with fail
      refine HR.out.mono ?_
      rintro e w1 ⟨rfl, hb1⟩
      go_wp2_with fail
      refine (HRU.out _).mono ?_
      rintro e w2 ⟨rfl, hb2⟩
      go_wp2_with fail
      go_ret
      exact ⟨rfl, th hb1 hb2⟩
  · rw [decide_eq_false hg] at hr
    have hl : labE (sL s) = 3 := by unfold labE; rw [if_neg hg]
    rw [hl]
    have HR := hide hr
    clear hl hr hg
    go_enter Tryd.func37, Tryd.ntmps37
    go_wp2_with fail
    refine HR.out.mono ?_
    rintro e w1 ⟨rfl, hb1⟩
    go_wp2_with fail
    go_ret
    exact ⟨rfl, hb1⟩

end Go.Proofs.YtdcoholjnlndgaaDoor
