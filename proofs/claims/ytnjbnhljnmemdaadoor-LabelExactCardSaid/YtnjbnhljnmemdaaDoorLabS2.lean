/-
  Contract: casemateref01.rune1 (under way).
-/
import Derived.Test.YtnjbnhljnmemdaaDoorLabQ
import Derived.Test.YtnjbnhljnmemdaaDoorLab
import Derived.Lib.TrimUEq
namespace Go.Proofs.YtnjbnhljnmemdaaDoor
open Go.RowKit Go.Lib
set_option linter.unusedVariables false
set_option maxRecDepth 100000

def ref1 (l : List UInt8) : Nat × Nat := refN l.length (l.getD 0 0).toNat (l.getD 1 0).toNat (l.getD 2 0).toNat (l.getD 3 0).toNat
theorem ref1_told (l : List UInt8) : ref1 l = told (decodeL l) := by
  unfold ref1
  rw [refN_told _ _ _ _ _ (UInt8.toNat_lt _), decodeL_N]

set_option maxHeartbeats 1000000 in
theorem rune1_ascii (s : ByteArray) (hs : s.size ≤ 65536) (h0 : 0 < s.size) (b0 : Nat) (hb : ((s[0]'h0).toNat : Int) = (b0 : Int)) (hlt : b0 < 128) (w : World) :
    Calls Tryd.prog 22 #[.string s] w fun e w' => e = .returned (.tuple #[.int .i64 1, .int .i64 b0]) ∧ Below w.heap.size w w' := by
  have hi : (b0 : Int) < 128 := by omega
  have hi2 : (0 : Int) < (s.size : Int) := by omega
  go_enter Tryd.func22, Tryd.ntmps22
  go_wp2_with fail
  go_ret2
  exact ⟨rfl, Below.refl _ _⟩


/-- No beginning of a rune. -/
def NoHead (b0 : Nat) : Prop := (128 ≤ b0 ∧ b0 < 192) ∨ 248 ≤ b0

set_option maxHeartbeats 1000000 in
theorem rune1_none (s : ByteArray) (hs : s.size ≤ 65536) (h0 : 0 < s.size) (b0 : Nat) (hb : ((s[0]'h0).toNat : Int) = (b0 : Int)) (h256 : b0 < 256) (hlt : 128 ≤ b0 ∧ b0 < 192) (w : World) :
    Calls Tryd.prog 22 #[.string s] w fun e w' => e = .returned (.tuple #[.int .i64 0, .int .i64 0]) ∧ Below w.heap.size w w' := by
  have hi : ¬ (b0 : Int) < 128 := by omega
  have hi1 : ¬ (192 : Int) ≤ (b0 : Int) := by omega
  have hi3 : ¬ (224 : Int) ≤ (b0 : Int) := by omega
  have hi4 : ¬ (240 : Int) ≤ (b0 : Int) := by omega
  have hi2 : (0 : Int) < (s.size : Int) := by omega
  go_enter Tryd.func22, Tryd.ntmps22
  go_wp2_with fail
  go_ret2
  exact ⟨rfl, Below.refl _ _⟩

/-- The byte at a place. -/
def bt (l : List UInt8) (k : Nat) : Nat := (l.getD k 0).toNat
def rN (l : List UInt8) (off : Nat) : Nat → Nat
  | 0 => bt l 0 - off
  | k + 1 => 64 * rN l off k + (bt l (k + 1) - 128)
theorem bt_lt (l : List UInt8) (k : Nat) : bt l k < 256 := UInt8.toNat_lt _
theorem bt_at (s : ByteArray) (k : Nat) (h : k < s.size) : ((s[k]'h).toNat : Int) = (bt (sL s) k : Int) := by
  unfold bt sL
  have h1 : k < s.data.toList.length := by rw [Array.length_toList]; exact h
  rw [List.getD_eq_getElem?_getD, List.getElem?_eq_getElem h1, Option.getD_some]
  rfl

theorem cont_next {l : List UInt8} {k bk : Nat} (hc : ∀ j, 1 ≤ j → j < k → Cont (bt l j)) (hb : bk = bt l k) (hC : 128 ≤ bk ∧ bk < 192) : ∀ j, 1 ≤ j → j < k + 1 → Cont (bt l j) := by
  intro j h1 h2
  rcases Nat.lt_or_ge j k with h | h
  · exact hc j h1 h
  · obtain rfl : j = k := by omega
    rw [← hb]
    exact hC

set_option maxHeartbeats 1000000 in
theorem rune1_2 (s : ByteArray) (hs : s.size ≤ 65536) (h0 : 0 < s.size) (hlt : 192 ≤ bt (sL s) 0 ∧ bt (sL s) 0 < 224) (w : World) :
    Calls Tryd.prog 22 #[.string s] w fun e w' => e = .returned (.tuple #[.int .i64 (ref1 (sL s)).1, .int .i64 (ref1 (sL s)).2]) ∧ Below w.heap.size w w' := by
  obtain ⟨Z, hZ⟩ : ∃ Z, Z = ref1 (sL s) := ⟨_, rfl⟩
  rw [← hZ]
  have hb := bt_at s 0 h0
  obtain ⟨b0, hb0⟩ : ∃ b0, b0 = bt (sL s) 0 := ⟨_, rfl⟩
  rw [← hb0] at hb hlt
  have HZ := hide hZ
  have HB0 := hide hb0
  clear hZ hb0
  have hi : ¬ (b0 : Int) < 128 := by omega
  have hi1 : (192 : Int) ≤ (b0 : Int) := by omega
  have hi3 : (b0 : Int) < 224 := by omega
  have hi2 : (0 : Int) < (s.size : Int) := by omega
  by_cases hn : s.size < 2
  · have hi5 : (s.size : Int) < 2 := by omega
    go_enter Tryd.func22, Tryd.ntmps22
    go_wp2_with fail
    go_ret2
    obtain rfl : Z = (0, 0) := by
      rw [HZ.out]
      unfold ref1 refN
      have := HB0.out
      unfold bt at this
      rw [if_neg (by omega), if_pos (by omega), if_neg (fun h => by have := h.1; rw [sL_len] at this; omega)]
    exact ⟨rfl, Below.refl _ _⟩
  · have hi5 : ¬ (s.size : Int) < 2 := by omega
    go_enter Tryd.func22, Tryd.ntmps22
    go_wp2_with fail
    go_loop [6, 8] (fun v i => ∃ k : Nat, 1 ≤ k ∧ k ≤ 2 ∧ i = .int .i64 k ∧ v = .int .i64 (rN (sL s) 192 (k - 1) : Nat) ∧ rN (sL s) 192 (k - 1) < 64 ^ k ∧ Hid (∀ j, 1 ≤ j → j < k → Cont (bt (sL s) j))) (fun _ i => 2 - (RowKit.intOf i).toNat)
    case atStart => exact ⟨1, by omega, by omega, rfl, by rw [show rN (sL s) 192 (1 - 1) = b0 - 192 by rw [HB0.out]; rfl]; first | rfl | go_num | (congr 1; omega), by rw [show rN (sL s) 192 (1 - 1) = b0 - 192 by rw [HB0.out]; rfl]; omega, hide (fun j h1 h2 => by omega)⟩
    case round =>
      obtain ⟨k, hk1, hk, rfl, rfl, hr, hc⟩ := hrel
      obtain ⟨r, hr'⟩ : ∃ r, r = rN (sL s) 192 (k - 1) := ⟨_, rfl⟩
      rw [← hr'] at hr ⊢
      have HR := hide hr'
      have hp : 64 ^ k ≤ 64 ^ 4 := Nat.pow_le_pow_right (by omega) (by omega)
      have hr2 : r < 16777216 := Nat.lt_of_lt_of_le hr hp
      have HP := hide hr
      clear hp hr
      clear hr'
      by_cases hlt2 : k < 2
      · have hbk := bt_at s k (by omega)
        obtain ⟨bk, hbk'⟩ : ∃ bk, bk = bt (sL s) k := ⟨_, rfl⟩
        have h256 : bk < 256 := by rw [hbk']; exact bt_lt _ _
        rw [← hbk'] at hbk
        have HBK := hide hbk'
        clear hbk'
        have hkn : (k : Int) < (s.size : Int) := by omega
        by_cases hC : 128 ≤ bk ∧ bk < 192
        · have hi6 : ¬ (bk : Int) < 128 := by omega
          have hi7 : ¬ (192 : Int) ≤ (bk : Int) := by omega
          have hnx : rN (sL s) 192 k = 64 * r + (bk - 128) := by
            rw [HR.out, HBK.out]
            obtain ⟨m, rfl⟩ : ∃ m, k = m + 1 := ⟨k - 1, by omega⟩
            rfl
          have HNX := hide hnx
          clear hnx
          go_wp2_with fail
          go_round
          case rel => exact ⟨k + 1, by omega, by omega, by go_num, by rw [Nat.add_sub_cancel, HNX.out]; first | rfl | go_num | (congr 1; omega), by rw [Nat.add_sub_cancel, HNX.out, Nat.pow_succ]; have := HP.out; omega, hide (cont_next hc.out HBK.out hC)⟩
          case measure => (first | omega | (simp [RowKit.intOf]; omega) | (unfold RowKit.intOf; simp; omega) | go_num)
        · have hnc : ¬ Cont bk := hC
          obtain rfl : k = 1 := by omega
          have hz : Z = (0, 0) := by
            have h1 := HB0.out
            have h2 := HBK.out
            unfold bt at h1 h2
            rw [HZ.out]
            unfold ref1 refN
            rw [if_neg (by omega), if_pos (by omega), if_neg (fun h => hnc (by rw [h2]; exact h.2))]
          subst hz
          rcases Nat.lt_or_ge bk 128 with hl | hl
          · have hi6 : (bk : Int) < 128 := by omega
            go_wp2_with fail
            go_ret2
            exact ⟨rfl, Below.refl _ _⟩
          · have hi6 : ¬ (bk : Int) < 128 := by omega
            have hi7 : (192 : Int) ≤ (bk : Int) := by omega
            go_wp2_with fail
            go_ret2
            exact ⟨rfl, Below.refl _ _⟩
      · obtain rfl : k = 2 := by omega
        have hz : Z = fitR 2 128 r := by
          have h1 := HB0.out
          have hc1 := hc.out 1 (by omega) (by omega)
          have h3 : r = 64 * (b0 - 192) + (bt (sL s) 1 - 128) := by rw [HR.out, h1]; rfl
          unfold bt at h1 hc1 h3
          rw [HZ.out]
          unfold ref1 refN
          rw [if_neg (by omega), if_pos (by omega), if_pos ⟨by rw [sL_len]; omega, hc1⟩, h3, h1]
        unfold fitR at hz
        by_cases q1 : r < 128
        · rw [if_pos (.inl q1)] at hz
          subst hz
          have hi6 : (r : Int) < 128 := by omega
          go_wp2_with fail
          go_ret2
          exact ⟨rfl, Below.refl _ _⟩
        · have hi6 : ¬ (r : Int) < 128 := by omega
          by_cases q2 : 1114111 < r
          · rw [if_pos (.inr (.inl q2))] at hz
            subst hz
            have hi7 : (1114111 : Int) < (r : Int) := by omega
            go_wp2_with fail
            go_ret2
            exact ⟨rfl, Below.refl _ _⟩
          · have hi7 : ¬ (1114111 : Int) < (r : Int) := by omega
            by_cases q3 : 55296 ≤ r
            · have hi8 : (55296 : Int) ≤ (r : Int) := by omega
              by_cases q4 : r < 57344
              · rw [if_pos (.inr (.inr ⟨q3, q4⟩))] at hz
                subst hz
                have hi9 : (r : Int) < 57344 := by omega
                go_wp2_with fail
                go_ret2
                exact ⟨rfl, Below.refl _ _⟩
              · rw [if_neg (by omega)] at hz
                subst hz
                have hi9 : ¬ (r : Int) < 57344 := by omega
                go_wp2_with fail
                go_ret2
                exact ⟨rfl, Below.refl _ _⟩
            · rw [if_neg (by omega)] at hz
              subst hz
              have hi8 : ¬ (55296 : Int) ≤ (r : Int) := by omega
              go_wp2_with fail
              go_ret2
              exact ⟨rfl, Below.refl _ _⟩


end Go.Proofs.YtnjbnhljnmemdaaDoor
