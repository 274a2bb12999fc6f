/-
  Contract: casemateref01.rune1, four bytes; no head; whatever string.
-/
import Derived.Test.YtnjbnhljnmemdaaDoorLabS3
namespace Go.Proofs.YtnjbnhljnmemdaaDoor
open Go.RowKit Go.Lib
set_option linter.unusedVariables false
set_option maxRecDepth 100000

set_option maxHeartbeats 1000000 in
theorem rune1_4 (s : ByteArray) (hs : s.size ≤ 65536) (h0 : 0 < s.size) (hlt : 240 ≤ bt (sL s) 0 ∧ bt (sL s) 0 < 248) (w : World) :
    Calls Tryd.prog 22 #[.string s] w fun e w' => e = .returned (.tuple #[.int .i64 (ref1 (sL s)).1, .int .i64 (ref1 (sL s)).2]) ∧ Below w.heap.size w w' := by
  obtain ⟨Z, hZ⟩ : ∃ Z, Z = ref1 (sL s) := ⟨_, rfl⟩
  rw [← hZ]
  have hb := bt_at s 0 h0
  obtain ⟨b0, hb0⟩ : ∃ b0, b0 = bt (sL s) 0 := ⟨_, rfl⟩
  rw [← hb0] at hb hlt
  have HZ := hide hZ
  have HB0 := hide hb0
  clear hZ hb0
  have hi : ¬ (b0 : Int) < 128 := by omega
  have hi1 : (192 : Int) ≤ (b0 : Int) := by omega
  have hi3 : ¬ (b0 : Int) < 224 := by omega
  have hj1 : (224 : Int) ≤ (b0 : Int) := by omega
  have hj2 : ¬ (b0 : Int) < 240 := by omega
  have hj3 : (240 : Int) ≤ (b0 : Int) := by omega
  have hj4 : (b0 : Int) < 248 := by omega
  have hi2 : (0 : Int) < (s.size : Int) := by omega
  by_cases hn : s.size < 4
  · have hi5 : (s.size : Int) < 4 := by omega
    go_enter Tryd.func22, Tryd.ntmps22
    go_wp2_with fail
    go_ret2
    obtain rfl : Z = (0, 0) := by
      rw [HZ.out]
      unfold ref1 refN
      have := HB0.out
      unfold bt at this
      rw [if_neg (by omega), if_neg (by omega), if_neg (by omega), if_pos (by omega), if_neg (fun h => by have := h.1; rw [sL_len] at this; omega)]
    exact ⟨rfl, Below.refl _ _⟩
  · have hi5 : ¬ (s.size : Int) < 4 := by omega
    go_enter Tryd.func22, Tryd.ntmps22
    go_wp2_with fail
    go_loop [6, 8] (fun v i => ∃ k : Nat, 1 ≤ k ∧ k ≤ 4 ∧ i = .int .i64 k ∧ v = .int .i64 (rN (sL s) 240 (k - 1) : Nat) ∧ rN (sL s) 240 (k - 1) < 64 ^ k ∧ Hid (∀ j, 1 ≤ j → j < k → Cont (bt (sL s) j))) (fun _ i => 4 - (RowKit.intOf i).toNat)
    case atStart => exact ⟨1, by omega, by omega, rfl, by rw [show rN (sL s) 240 (1 - 1) = b0 - 240 by rw [HB0.out]; rfl]; first | rfl | go_num | (congr 1; omega), by rw [show rN (sL s) 240 (1 - 1) = b0 - 240 by rw [HB0.out]; rfl]; omega, hide (fun j h1 h2 => by omega)⟩
    case round =>
      obtain ⟨k, hk1, hk, rfl, rfl, hr, hc⟩ := hrel
      obtain ⟨r, hr'⟩ : ∃ r, r = rN (sL s) 240 (k - 1) := ⟨_, rfl⟩
      rw [← hr'] at hr ⊢
      have HR := hide hr'
      have hp : 64 ^ k ≤ 64 ^ 4 := Nat.pow_le_pow_right (by omega) (by omega)
      have hr2 : r < 16777216 := Nat.lt_of_lt_of_le hr hp
      have HP := hide hr
      clear hp hr
      clear hr'
      by_cases hlt2 : k < 4
      · have hbk := bt_at s k (by omega)
        obtain ⟨bk, hbk'⟩ : ∃ bk, bk = bt (sL s) k := ⟨_, rfl⟩
        have h256 : bk < 256 := by rw [hbk']; exact bt_lt _ _
        rw [← hbk'] at hbk
        have HBK := hide hbk'
        clear hbk'
        have hkn : (k : Int) < (s.size : Int) := by omega
        by_cases hC : 128 ≤ bk ∧ bk < 192
        · have hi6 : ¬ (bk : Int) < 128 := by omega
          have hi7 : ¬ (192 : Int) ≤ (bk : Int) := by omega
          have hnx : rN (sL s) 240 k = 64 * r + (bk - 128) := by
            rw [HR.out, HBK.out]
            obtain ⟨m, rfl⟩ : ∃ m, k = m + 1 := ⟨k - 1, by omega⟩
            rfl
          have HNX := hide hnx
          clear hnx
          go_wp2_with fail
          go_round
          case rel => exact ⟨k + 1, by omega, by omega, by go_num, by rw [Nat.add_sub_cancel, HNX.out]; first | rfl | go_num | (congr 1; omega), by rw [Nat.add_sub_cancel, HNX.out, Nat.pow_succ]; have := HP.out; omega, hide (cont_next hc.out HBK.out hC)⟩
          case measure => (first | omega | (simp [RowKit.intOf]; omega) | (unfold RowKit.intOf; simp; omega) | go_num)
        · have hnc : ¬ Cont bk := hC
          have hz : Z = (0, 0) := by
            have h1 := HB0.out
            have h2 := HBK.out
            unfold bt at h1 h2
            rw [HZ.out]
            unfold ref1 refN
            rw [if_neg (by omega), if_neg (by omega), if_neg (by omega), if_pos (by omega), if_neg (fun h => by rcases (show k = 1 ∨ k = 2 ∨ k = 3 by omega) with hk1 | hk1 | hk1 <;> subst hk1; exact hnc (by rw [h2]; exact h.2.1); exact hnc (by rw [h2]; exact h.2.2.1); exact hnc (by rw [h2]; exact h.2.2.2))]
          subst hz
          rcases Nat.lt_or_ge bk 128 with hl | hl
          · have hi6 : (bk : Int) < 128 := by omega
            go_wp2_with fail
            go_ret2
            exact ⟨rfl, Below.refl _ _⟩
          · have hi6 : ¬ (bk : Int) < 128 := by omega
            have hi7 : (192 : Int) ≤ (bk : Int) := by omega
            go_wp2_with fail
            go_ret2
            exact ⟨rfl, Below.refl _ _⟩
      · obtain rfl : k = 4 := by omega
        have hz : Z = fitR 4 65536 r := by
          have h1 := HB0.out
          have hc1 := hc.out 1 (by omega) (by omega)
          have hc2 := hc.out 2 (by omega) (by omega)
          have hc3 := hc.out 3 (by omega) (by omega)
          have h3 : r = 64 * (64 * (64 * (b0 - 240) + (bt (sL s) 1 - 128)) + (bt (sL s) 2 - 128)) + (bt (sL s) 3 - 128) := by rw [HR.out, h1]; rfl
          unfold bt at h1 hc1 hc2 hc3 h3
          rw [HZ.out]
          unfold ref1 refN
          rw [if_neg (by omega), if_neg (by omega), if_neg (by omega), if_pos (by omega), if_pos ⟨by rw [sL_len]; omega, hc1, hc2, hc3⟩, h3, h1]
        unfold fitR at hz
        by_cases q1 : r < 65536
        · rw [if_pos (.inl q1)] at hz
          subst hz
          have hi6 : (r : Int) < 65536 := by omega
          go_wp2_with fail
          go_ret2
          exact ⟨rfl, Below.refl _ _⟩
        · have hi6 : ¬ (r : Int) < 65536 := by omega
          by_cases q2 : 1114111 < r
          · rw [if_pos (.inr (.inl q2))] at hz
            subst hz
            have hi7 : (1114111 : Int) < (r : Int) := by omega
            go_wp2_with fail
            go_ret2
            exact ⟨rfl, Below.refl _ _⟩
          · have hi7 : ¬ (1114111 : Int) < (r : Int) := by omega
            by_cases q3 : 55296 ≤ r
            · have hi8 : (55296 : Int) ≤ (r : Int) := by omega
              by_cases q4 : r < 57344
              · rw [if_pos (.inr (.inr ⟨q3, q4⟩))] at hz
                subst hz
                have hi9 : (r : Int) < 57344 := by omega
                go_wp2_with fail
                go_ret2
                exact ⟨rfl, Below.refl _ _⟩
              · rw [if_neg (by omega)] at hz
                subst hz
                have hi9 : ¬ (r : Int) < 57344 := by omega
                go_wp2_with fail
                go_ret2
                exact ⟨rfl, Below.refl _ _⟩
            · rw [if_neg (by omega)] at hz
              subst hz
              have hi8 : ¬ (55296 : Int) ≤ (r : Int) := by omega
              go_wp2_with fail
              go_ret2
              exact ⟨rfl, Below.refl _ _⟩

set_option maxHeartbeats 1000000 in
theorem rune1_high (s : ByteArray) (hs : s.size ≤ 65536) (h0 : 0 < s.size) (b0 : Nat) (hb : ((s[0]'h0).toNat : Int) = (b0 : Int)) (h256 : b0 < 256) (hlt : 248 ≤ b0) (w : World) :
    Calls Tryd.prog 22 #[.string s] w fun e w' => e = .returned (.tuple #[.int .i64 0, .int .i64 0]) ∧ Below w.heap.size w w' := by
  have hi : ¬ (b0 : Int) < 128 := by omega
  have hi1 : (192 : Int) ≤ (b0 : Int) := by omega
  have hi2 : ¬ (b0 : Int) < 224 := by omega
  have hi3 : (224 : Int) ≤ (b0 : Int) := by omega
  have hi4 : ¬ (b0 : Int) < 240 := by omega
  have hi5 : (240 : Int) ≤ (b0 : Int) := by omega
  have hi6 : ¬ (b0 : Int) < 248 := by omega
  have hi7 : (0 : Int) < (s.size : Int) := by omega
  go_enter Tryd.func22, Tryd.ntmps22
  go_wp2_with fail
  go_ret2
  exact ⟨rfl, Below.refl _ _⟩

/-- What rune1 tells of whatever string. -/
theorem rune1_any (s : ByteArray) (hs : s.size ≤ 65536) (h0 : 0 < s.size) (w : World) :
    Calls Tryd.prog 22 #[.string s] w fun e w' => e = .returned (.tuple #[.int .i64 (told (decodeL (sL s))).1, .int .i64 (told (decodeL (sL s))).2]) ∧ Below w.heap.size w w' := by
  rw [← ref1_told]
  have hb := bt_at s 0 h0
  have h256 := bt_lt (sL s) 0
  by_cases c1 : bt (sL s) 0 < 128
  · have h := rune1_ascii s hs h0 _ hb c1 w
    have e : ref1 (sL s) = (1, bt (sL s) 0) := by unfold ref1 refN bt; unfold bt at c1; rw [if_pos c1]
    rw [e]
    exact h
  by_cases c2 : bt (sL s) 0 < 192
  · have h := rune1_none s hs h0 _ hb h256 ⟨by omega, c2⟩ w
    have e : ref1 (sL s) = (0, 0) := by unfold ref1 refN; unfold bt at c1 c2; rw [if_neg c1, if_neg (by omega), if_neg (by omega), if_neg (by omega)]
    rw [e]
    exact h
  by_cases c3 : bt (sL s) 0 < 224
  · exact rune1_2 s hs h0 ⟨by omega, c3⟩ w
  by_cases c4 : bt (sL s) 0 < 240
  · exact rune1_3 s hs h0 ⟨by omega, c4⟩ w
  by_cases c5 : bt (sL s) 0 < 248
  · exact rune1_4 s hs h0 ⟨by omega, c5⟩ w
  · have h := rune1_high s hs h0 _ hb h256 (by omega) w
    have e : ref1 (sL s) = (0, 0) := by unfold ref1 refN; unfold bt at c1 c2 c3 c4 c5; rw [if_neg c1, if_neg (by omega), if_neg (by omega), if_neg (by omega)]
    rw [e]
    exact h

/-- At a place in a string. -/
theorem rune1_at (s : ByteArray) (hs : s.size ≤ 65536) (p : Nat) (h : p < s.size) (w : World) :
    Calls Tryd.prog 22 #[.string (s.extract p s.size)] w fun e w' => e = .returned (.tuple #[.int .i64 (told (decodeL ((sL s).drop p))).1, .int .i64 (told (decodeL ((sL s).drop p))).2]) ∧ Below w.heap.size w w' := by
  have he := sL_extract s p s.size (Nat.le_refl _)
  have hl : (sL s).drop p = ((sL s).drop p).take (s.size - p) := by rw [List.take_of_length_le (by rw [List.length_drop, sL_len]; omega)]
  rw [← hl] at he
  have hz : (s.extract p s.size).size = s.size - p := by rw [he, ← sL_len, sL_mk, List.length_drop, sL_len]
  have hr := rune1_any (s.extract p s.size) (by omega) (by omega) w
  rwa [show sL (s.extract p s.size) = (sL s).drop p by rw [he]; rfl] at hr

end Go.Proofs.YtnjbnhljnmemdaaDoor
