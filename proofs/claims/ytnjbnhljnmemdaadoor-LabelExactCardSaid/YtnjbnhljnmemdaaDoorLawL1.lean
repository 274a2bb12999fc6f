/-
  The walks of the laws casematelaw01: wakes, LabelBytes.
-/
import Derived.Test.YtnjbnhljnmemdaaDoorLabC
namespace Go.Proofs.YtnjbnhljnmemdaaDoor
open Go.RowKit Go.Lib
set_option linter.unusedVariables false
set_option maxRecDepth 100000

/-- The runes, by steps that are counted. -/
def decsF : Nat → List UInt8 → List (Nat × Nat)
  | 0, _ => []
  | n + 1, l => if l = [] then [] else decodeL l :: decsF n (l.drop (decodeL l).2)
theorem decsF_eq : ∀ (n : Nat) (l : List UInt8), l.length ≤ n → decsF n l = decs l
  | 0, l, h => by rw [List.eq_nil_of_length_eq_zero (Nat.le_zero.1 h), decs_nil]; rfl
  | n + 1, l, h => by
    unfold decsF
    by_cases hne : l = []
    · rw [if_pos hne, hne, decs_nil]
    · have hw := decodeL_width l
      have hl := List.length_pos_iff.2 hne
      rw [if_neg hne, decs_cons hne, decsF_eq n _ (by rw [List.length_drop]; omega)]
def wkN : List UInt8 := [110, 195, 169]
theorem wkN_decs : decs wkN = [(110, 1), (233, 2)] := by rw [← decsF_eq 3 wkN (by decide)]; decide +kernel
theorem wkN_lab : labE wkN = 0 := by
  rw [labE_ok, wkN_decs]
  exact ⟨by decide, by decide⟩
theorem wkA_lab : labE [97, 10] = 3 := by
  have h : decs [97, 10] = [(97, 1), (10, 1)] := by rw [← decsF_eq 2 _ (by decide)]; decide +kernel
  unfold labE
  rw [h, if_neg (by decide)]
theorem wkN_cut : cutL wkN 1 = [110] := by
  have h : posN wkN 1 = 1 := by rw [posN_sum, wkN_decs]; rfl
  show wkN.take (posN wkN 1) = _
  rw [h]
  rfl
theorem wkN_read : readLab [3, 110, 195, 169, 7] = some wkN := by
  show (if ([110, 195, 169, 7] : List UInt8).length < (3 : UInt8).toNat then (none : Option (List UInt8)) else if labE wkN = 0 then some wkN else none) = _
  rw [if_neg (by decide), if_pos wkN_lab]

set_option maxHeartbeats 2000000 in
theorem wakes01 (w : World) (hT : Tabs w) : Calls Tryd.prog 21 #[] w fun e w' => e = .returned (.bool true) ∧ Below w.heap.size w w' := by
  obtain ⟨j0, hj0, hy0, hy1, hy2⟩ := info_parts u8_info
  have hB : ∀ w, Tabs w → Calls Tryd.prog 10 #[.string ⟨#[110, 195, 169]⟩] w fun e w' => Below w.heap.size w w' ∧ ∃ V c, e = .returned (.tuple #[.slice V 4 c, .int .i64 0]) ∧ Ow byteR 1 w' w.heap.size 0 5 (.slice V 4 c) 4 [3, 110, 195, 169] := fun w hT => by
    refine (lbytes_any (mkS wkN) (by decide) w hT).mono ?_
    rintro e w' ⟨hb, V, n, c, b, er, rfl, ho, hq⟩
    unfold LBytes at hq
    rw [sL_mk] at hq
    rcases hq with ⟨_, rfl, rfl⟩ | ⟨h, _⟩
    · obtain rfl : n = 4 := ho.len.symm
      exact ⟨hb, V, c, rfl, ho⟩
    · exact absurd wkN_lab h
  have hR : ∀ w V c, Tabs w → Bs w V 5 c [3, 110, 195, 169, 7] → Calls Tryd.prog 11 #[.slice V 5 c] w fun e w' => e = .returned (.tuple #[.string ⟨#[110, 195, 169]⟩, .int .i64 4, .int .i64 0]) ∧ Below w.heap.size w w' := fun w V c hT hV => by
    refine (lread_any V 5 c _ w hV (by omega) hT).mono ?_
    rintro e w' ⟨hb, t, k, er, rfl, hq⟩
    unfold LRead at hq
    rcases hq with ⟨l, h, rfl, rfl, rfl⟩ | ⟨h, _⟩
    · rw [wkN_read] at h
      injection h with h
      subst h
      exact ⟨rfl, hb⟩
    · rw [wkN_read] at h
      cases h
  have hru : ∀ w, Calls Tryd.prog 17 #[.string ⟨#[110, 195, 169]⟩] w fun e w' => e = .returned (.int .i64 2) ∧ Below w.heap.size w w' := fun w => by
    have h := runes_any (mkS wkN) (by decide) w
    rw [sL_mk, wkN_decs] at h
    exact h
  have hck : ∀ w, Tabs w → Calls Tryd.prog 14 #[.string ⟨#[97, 10]⟩] w fun e w' => e = .returned (.int .i64 3) ∧ Below w.heap.size w w' := fun w hT => by
    have h := lcheck_any (mkS [97, 10]) (by decide) w hT
    rw [sL_mk, wkA_lab] at h
    exact h
  have hcu : ∀ w, Calls Tryd.prog 19 #[.string ⟨#[110, 195, 169]⟩, .int .i64 1] w fun e w' => e = .returned (.string ⟨#[110]⟩) ∧ Below w.heap.size w w' := fun w => by
    have h := cut_any (mkS wkN) (by decide) 1 ⟨by omega, by omega⟩ w
    rw [sL_mk, wkN_cut] at h
    exact h
  have HB := hide hB
  have HR := hide hR
  have HRU := hide hru
  have HCK := hide hck
  have HCU := hide hcu
  clear hB hR hru hck hcu
  go_enter Tryd.func21, Tryd.ntmps21
  go_wp2_with fail
  refine (HB.out _ hT).mono ?_
  rintro e w1 ⟨hb1, V1, c1, rfl, ho1⟩
  have hE2 := alloc_below w1 (.cells #[.int .u8 7] 5)
  have ho2 := ho1.below byteR_fine hE2
  have hlit : Bs (w1.alloc (.cells #[.int .u8 7] 5)) (some ⟨w1.heap.size, 0, none⟩) 1 1 [7] := (lit_own (w := w1) (e := 5) (b := 7) rfl 0).read byteR_fine
  have hs2 := Nat.le_trans hb1.size hE2.size
  go_wp2_with (at_builtin; refine wpList_append_ow _ rfl (.tmp 11) (.tmp 12) _ rfl byteR_fine w.heap.size 0 5 j0 _ 1 Tryd.underlying22 hj0 hy0 hy1 hy2 rfl (by omega) (.slice V1 4 c1) 4 _ rfl ho2 _ _ 1 1 _ rfl hlit (fun _ _ _ h => h) (by simp only [maxLen]; omega) (by omega) hs2 ?_; intro V3 w3 ho3 hg3 hat3; obtain ⟨A3, c3, rfl⟩ := ho3.form; have hb3 := below_grown (base := w.heap.size) hg3 ho2.lt hs2)
  have hbw3 : Below w.heap.size w w3 := (th hb1 hE2).trans hb3
  have hT3 := hT.below hbw3
  refine (HR.out w3 A3 c3 hT3 (ho3.read byteR_fine)).mono ?_
  rintro e w4 ⟨rfl, hb4⟩
  go_wp2_with fail
  refine (HRU.out _).mono ?_
  rintro e w5 ⟨rfl, hb5⟩
  have hT5 := hT.below (th hbw3 (th hb4 hb5))
  go_wp2_with fail
  refine (HCK.out _ hT5).mono ?_
  rintro e w6 ⟨rfl, hb6⟩
  go_wp2_with fail
  refine (HCU.out _).mono ?_
  rintro e w7 ⟨rfl, hb7⟩
  go_wp2_with fail
  go_ret
  exact ⟨rfl, th hbw3 (th hb4 (th hb5 (th hb6 hb7)))⟩

set_option maxHeartbeats 2000000 in
theorem law_labelBytes {w : World} (hT : Tabs w) (s : ByteArray) (hs : s.size ≤ maxLen) :
    Calls Tryd.prog 8 #[.string s] w fun e w' => e = .returned (.bool true) ∧ Below w.heap.size w w' := by
  by_cases h300 : s.size ≤ 300
  · have hlb := lbytes_any s (by omega) w hT
    unfold LBytesPost at hlb
    have hck := fun w hT => lcheck_any s (by omega) w hT
    obtain ⟨E, hE⟩ : ∃ E, E = labE (sL s) := ⟨_, rfl⟩
    rw [← hE] at hck
    have eE : (E != E) = false := by simp
    have HLB := hide hlb
    have HCK := hide hck
    have HE := hide hE
    clear hlb hck hE
    have hi0 : ¬ (300 : Int) < (s.size : Int) := by omega
    go_enter Tryd.func8, Tryd.ntmps8
    go_wp2_with fail
    refine HLB.out.mono ?_
    rintro e w1 ⟨hb1, V1, n1, c1, b1, e1, rfl, ho1, hq⟩
    unfold LBytes at hq
    rw [← HE.out] at hq
    have hT1 := hT.below hb1
    rcases hq with ⟨h0, he1, rfl⟩ | ⟨h0, he1, rfl⟩
    · obtain rfl := he1.symm
      have h24 : s.size ≤ 24 := by
        have := lab_len (l := sL s) (by rw [← HE.out]; exact h0)
        rwa [sL_len] at this
      have hr1 := ho1.read byteR_fine
      have hn1 : n1 = 1 + s.size := by
        have := hr1.len
        rw [labB, List.length_cons, sL_len] at this
        omega
      subst hn1
      obtain ⟨ad, x, rfl, hadl, hx, hc0⟩ := at_byte hr1 (show 0 < 1 + s.size by omega)
      rw [add_zero'] at hc0
      have hx1 : (x.toNat : Int) = (s.size : Int) := by
        have h1 : UInt8.ofNat (sL s).length = x := by simpa [labB] using hx
        rw [← h1, sL_len, UInt8.toNat_ofNat']
        omega
      rw [hx1] at hc0
      have hcap := hr1.cap
      have hE0 := HE.out
      rw [h0] at hE0
      clear hx hx1 hE0
      have h1 : ∀ W, Below w1.heap.size w1 W → ∃ A' c', (convert 22 9 (.slice A' s.size c')).run Tryd.prog W = .ok (.string s) W ∧ ((c1 = 1 ∧ s.size = 0 ∧ A' = some ad ∧ c' = 0) ∨ (c1 ≠ 1 ∧ A' = some ⟨ad.block, ad.off + 1, none⟩ ∧ c' = c1 - 1)) := fun W hW => by
        have hrW := hr1.on byteR_fine hW
        by_cases hc1 : c1 = 1
        · have hs0 : s.size = 0 := by omega
          have hse : s = mkS [] := by
            have h0 : sL s = [] := List.eq_nil_of_length_eq_zero (by rw [sL_len]; exact hs0)
            rw [← mk_sL s, h0]
          have h := conv_bs1 (P := Tryd.prog) (w := W) (c := 0) (Sl.empty_ (some ad) _) 22 9 5 Tryd.underlying22 Tryd.underlying5 Tryd.underlying9
          rw [← hse] at h
          rw [hs0]
          exact ⟨_, _, h, .inl ⟨hc1, rfl, rfl, rfl⟩⟩
        · have h2 := rest1 (i := 1) hrW (by omega) hc1
          rw [labB, List.drop_succ_cons, List.drop_zero, Nat.add_sub_cancel_left] at h2
          have h := conv_bs1 (P := Tryd.prog) h2 22 9 5 Tryd.underlying22 Tryd.underlying5 Tryd.underlying9
          rw [mk_sL] at h
          exact ⟨_, _, h, .inr ⟨hc1, rfl, rfl⟩⟩
      have H1 := hide h1
      have q1 : ((1 : Int) + (s.size : Int) == (s.size : Int) + 1) = true := by simp; omega
      have q2 : ((1 : Int) + (s.size : Int)) - 1 = (s.size : Int) := by omega
      have q3 : (E != 0) = false := by simpa using h0
      clear h1 h0
      go_wp2_with fail
      refine (HCK.out _ hT1).mono ?_
      rintro e w2 ⟨rfl, hb2⟩
      have hc2 := (hb2.cell hadl).trans hc0
      obtain ⟨A', c', hcv, hsl⟩ := H1.out w2 hb2
      rcases hsl with ⟨rfl, hs0, rfl, rfl⟩ | ⟨hc1, rfl, rfl⟩
      · rw [hs0] at hcv
        go_wp2_with fail
        refine (wakes01 _ (hT1.below hb2)).mono ?_
        rintro e w3 ⟨rfl, hb3⟩
        go_wp2_with fail
        go_ret
        exact ⟨rfl, th hb1 (th hb2 hb3)⟩
      · go_wp2_with fail
        refine (wakes01 _ (hT1.below hb2)).mono ?_
        rintro e w3 ⟨rfl, hb3⟩
        go_wp2_with fail
        go_ret
        exact ⟨rfl, th hb1 (th hb2 hb3)⟩
    · obtain rfl := he1.symm
      obtain rfl : n1 = 0 := by simpa using ho1.len.symm
      have hne : (E != 0) = true := by simpa using h0
      clear h0
      go_wp2_with fail
      refine (HCK.out _ hT1).mono ?_
      rintro e w2 ⟨rfl, hb2⟩
      go_wp2_with fail
      refine (wakes01 _ (hT1.below hb2)).mono ?_
      rintro e w3 ⟨rfl, hb3⟩
      go_wp2_with fail
      go_ret
      exact ⟨rfl, th hb1 (th hb2 hb3)⟩
  · have hi0 : (300 : Int) < (s.size : Int) := by omega
    go_enter Tryd.func8, Tryd.ntmps8
    go_wp2_with fail
    go_ret
    exact ⟨rfl, Below.refl _ _⟩

end Go.Proofs.YtnjbnhljnmemdaaDoor
