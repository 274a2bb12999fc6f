/-
  What casemateref01.rune1 tells of four bytes, in plain numbers.
  Contract: casemateref01.rune1 (under way).
  Contract: casemateref01.rune1, three bytes.
  Contract: casemateref01.rune1, four bytes; no head; whatever string.
  Contracts: casemateref01.Label, Runes, Cut, LabelBytes, ReadLabel.
-/
import Derived.Test.YtdcoholjnlndgaaDoorLabP
import Derived.Test.YtdcoholjnlndgaaDoorLab
import Derived.Lib.TrimUEq
import Derived.Test.YtdcoholjnlndgaaDoorLabC
namespace Go.Proofs.YtdcoholjnlndgaaDoor
open Go.RowKit Go.Lib
set_option linter.unusedVariables false

def Cont (b : Nat) : Prop := 128 ≤ b ∧ b < 192
instance (b : Nat) : Decidable (Cont b) := by unfold Cont; infer_instance
def fitR (size least r : Nat) : Nat × Nat := if r < least ∨ 1114111 < r ∨ (55296 ≤ r ∧ r < 57344) then (0, 0) else (size, r)
def refN (n b0 b1 b2 b3 : Nat) : Nat × Nat :=
  if b0 < 128 then (1, b0)
  else if 192 ≤ b0 ∧ b0 < 224 then (if 1 < n ∧ Cont b1 then fitR 2 128 (64 * (b0 - 192) + (b1 - 128)) else (0, 0))
  else if 224 ≤ b0 ∧ b0 < 240 then (if 2 < n ∧ Cont b1 ∧ Cont b2 then fitR 3 2048 (64 * (64 * (b0 - 224) + (b1 - 128)) + (b2 - 128)) else (0, 0))
  else if 240 ≤ b0 ∧ b0 < 248 then (if 3 < n ∧ Cont b1 ∧ Cont b2 ∧ Cont b3 then fitR 4 65536 (64 * (64 * (64 * (b0 - 240) + (b1 - 128)) + (b2 - 128)) + (b3 - 128)) else (0, 0))
  else (0, 0)
instance (x : Nat × Nat) : Decidable (Bad x) := by unfold Bad; infer_instance
def told (x : Nat × Nat) : Nat × Nat := if Bad x then (0, 0) else (x.2, x.1)
theorem told_bad : told (65533, 1) = (0, 0) := by decide
theorem told_two {r k : Nat} (h : 1 < k) : told (r, k) = (k, r) := by
  unfold told
  rw [if_neg]
  intro h2
  have : k = 1 := h2.2
  omega
theorem cont_is {b : Nat} : (b / 64 = 2) = Cont b := by
  unfold Cont
  exact propext ⟨fun h => ⟨by omega, by omega⟩, fun h => by omega⟩

set_option maxHeartbeats 1000000 in
theorem refN_told (n b0 b1 b2 b3 : Nat) (h0 : b0 < 256) : refN n b0 b1 b2 b3 = told (decodeN n b0 b1 b2 b3) := by
  have e2 : (b0 / 32 = 6) = (192 ≤ b0 ∧ b0 < 224) := propext ⟨fun h => ⟨by omega, by omega⟩, fun h => by omega⟩
  have e3 : (b0 / 16 = 14) = (224 ≤ b0 ∧ b0 < 240) := propext ⟨fun h => ⟨by omega, by omega⟩, fun h => by omega⟩
  have e4 : (b0 / 8 = 30) = (240 ≤ b0 ∧ b0 < 248) := propext ⟨fun h => ⟨by omega, by omega⟩, fun h => by omega⟩
  unfold refN decodeN
  simp only [cont_is, e2, e3, e4]
  by_cases c1 : b0 < 128
  · rw [if_pos c1, if_pos c1]
    unfold told
    rw [if_neg (fun h => by have : b0 = 65533 := h.1; omega)]
  rw [if_neg c1, if_neg c1]
  by_cases c2 : 192 ≤ b0 ∧ b0 < 224
  · rw [if_pos c2]
    by_cases g : 1 < n ∧ Cont b1
    · rw [if_pos g, if_pos ⟨c2, g⟩]
      obtain ⟨g0, g1, g2⟩ := g
      have hr : b0 % 32 * 64 + b1 % 64 = 64 * (b0 - 192) + (b1 - 128) := by omega
      rw [hr]
      unfold fitR
      split
      · rw [if_neg (by omega), told_bad]
      · rw [if_pos (by omega), told_two (by omega)]
    · rw [if_neg g, if_neg (fun h => g h.2), if_neg (fun h => by have := h.1; omega), if_neg (fun h => by have := h.1; omega), told_bad]
  rw [if_neg c2, if_neg (show ¬ ((192 ≤ b0 ∧ b0 < 224) ∧ 1 < n ∧ Cont b1) from fun h => c2 h.1)]
  by_cases c3 : 224 ≤ b0 ∧ b0 < 240
  · rw [if_pos c3]
    by_cases g : 2 < n ∧ Cont b1 ∧ Cont b2
    · obtain ⟨g0, ⟨g1, g2⟩, g3, g4⟩ := g
      rw [if_pos ⟨g0, ⟨g1, g2⟩, g3, g4⟩, if_pos ⟨c3, ⟨by omega, g1, g2⟩, ⟨g0, g3, g4⟩⟩]
      have hr : b0 % 16 * 4096 + b1 % 64 * 64 + b2 % 64 = 64 * (64 * (b0 - 224) + (b1 - 128)) + (b2 - 128) := by omega
      rw [hr]
      unfold fitR
      split
      · rw [if_neg (by omega), told_bad]
      · rw [if_pos (by omega), told_two (by omega)]
    · rw [if_neg g, if_neg (fun h => g ⟨h.2.2.1, h.2.1.2, h.2.2.2⟩), if_neg (fun h => by have := h.1; omega), told_bad]
  rw [if_neg c3, if_neg (show ¬ ((224 ≤ b0 ∧ b0 < 240) ∧ (1 < n ∧ Cont b1) ∧ 2 < n ∧ Cont b2) from fun h => c3 h.1)]
  by_cases c4 : 240 ≤ b0 ∧ b0 < 248
  · rw [if_pos c4]
    by_cases g : 3 < n ∧ Cont b1 ∧ Cont b2 ∧ Cont b3
    · obtain ⟨g0, ⟨g1, g2⟩, ⟨g3, g4⟩, g5, g6⟩ := g
      rw [if_pos ⟨g0, ⟨g1, g2⟩, ⟨g3, g4⟩, g5, g6⟩, if_pos ⟨c4, ⟨by omega, g1, g2⟩, ⟨by omega, g3, g4⟩, ⟨g0, g5, g6⟩⟩]
      have hr : b0 % 8 * 262144 + b1 % 64 * 4096 + b2 % 64 * 64 + b3 % 64 = 64 * (64 * (64 * (b0 - 240) + (b1 - 128)) + (b2 - 128)) + (b3 - 128) := by omega
      rw [hr]
      unfold fitR
      split
      · rw [if_neg (by omega), told_bad]
      · rw [if_pos (by omega), told_two (by omega)]
    · rw [if_neg g, if_neg (fun h => g ⟨h.2.2.2.1, h.2.1.2, h.2.2.1.2, h.2.2.2.2⟩), told_bad]
  rw [if_neg c4, if_neg (show ¬ ((240 ≤ b0 ∧ b0 < 248) ∧ (1 < n ∧ Cont b1) ∧ (2 < n ∧ Cont b2) ∧ 3 < n ∧ Cont b3) from fun h => c4 h.1), told_bad]

end Go.Proofs.YtdcoholjnlndgaaDoor

namespace Go.Proofs.YtdcoholjnlndgaaDoor
open Go.RowKit Go.Lib
set_option linter.unusedVariables false
set_option maxRecDepth 100000

def ref1 (l : List UInt8) : Nat × Nat := refN l.length (l.getD 0 0).toNat (l.getD 1 0).toNat (l.getD 2 0).toNat (l.getD 3 0).toNat
theorem ref1_told (l : List UInt8) : ref1 l = told (decodeL l) := by
  unfold ref1
  rw [refN_told _ _ _ _ _ (UInt8.toNat_lt _), decodeL_N]

set_option maxHeartbeats 1000000 in
theorem rune1_ascii (s : ByteArray) (hs : s.size ≤ 65536) (h0 : 0 < s.size) (b0 : Nat) (hb : ((s[0]'h0).toNat : Int) = (b0 : Int)) (hlt : b0 < 128) (w : World) :
    Calls Tryd.prog 32 #[.string s] w fun e w' => e = .returned (.tuple #[.int .i64 1, .int .i64 b0]) ∧ Below w.heap.size w w' := by
  have hi : (b0 : Int) < 128 := by omega
  have hi2 : (0 : Int) < (s.size : Int) := by omega
  go_enter Tryd.func32, Tryd.ntmps32
  go_wp2_with fail
  go_ret2
  exact ⟨rfl, Below.refl _ _⟩


/-- No beginning of a rune. -/
def NoHead (b0 : Nat) : Prop := (128 ≤ b0 ∧ b0 < 192) ∨ 248 ≤ b0

set_option maxHeartbeats 1000000 in
theorem rune1_none (s : ByteArray) (hs : s.size ≤ 65536) (h0 : 0 < s.size) (b0 : Nat) (hb : ((s[0]'h0).toNat : Int) = (b0 : Int)) (h256 : b0 < 256) (hlt : 128 ≤ b0 ∧ b0 < 192) (w : World) :
    Calls Tryd.prog 32 #[.string s] w fun e w' => e = .returned (.tuple #[.int .i64 0, .int .i64 0]) ∧ Below w.heap.size w w' := by
  have hi : ¬ (b0 : Int) < 128 := by omega
  have hi1 : ¬ (192 : Int) ≤ (b0 : Int) := by omega
  have hi3 : ¬ (224 : Int) ≤ (b0 : Int) := by omega
  have hi4 : ¬ (240 : Int) ≤ (b0 : Int) := by omega
  have hi2 : (0 : Int) < (s.size : Int) := by omega
  go_enter Tryd.func32, Tryd.ntmps32
  go_wp2_with fail
  go_ret2
  exact ⟨rfl, Below.refl _ _⟩

/-- The byte at a place. -/
def bt (l : List UInt8) (k : Nat) : Nat := (l.getD k 0).toNat
def rN (l : List UInt8) (off : Nat) : Nat → Nat
  | 0 => bt l 0 - off
  | k + 1 => 64 * rN l off k + (bt l (k + 1) - 128)
theorem bt_lt (l : List UInt8) (k : Nat) : bt l k < 256 := UInt8.toNat_lt _
theorem bt_at (s : ByteArray) (k : Nat) (h : k < s.size) : ((s[k]'h).toNat : Int) = (bt (sL s) k : Int) := by
  unfold bt sL
  have h1 : k < s.data.toList.length := by rw [Array.length_toList]; exact h
  rw [List.getD_eq_getElem?_getD, List.getElem?_eq_getElem h1, Option.getD_some]
  rfl

theorem cont_next {l : List UInt8} {k bk : Nat} (hc : ∀ j, 1 ≤ j → j < k → Cont (bt l j)) (hb : bk = bt l k) (hC : 128 ≤ bk ∧ bk < 192) : ∀ j, 1 ≤ j → j < k + 1 → Cont (bt l j) := by
  intro j h1 h2
  rcases Nat.lt_or_ge j k with h | h
  · exact hc j h1 h
  · obtain rfl : j = k := by omega
    rw [← hb]
    exact hC

set_option maxHeartbeats 1000000 in
theorem rune1_2 (s : ByteArray) (hs : s.size ≤ 65536) (h0 : 0 < s.size) (hlt : 192 ≤ bt (sL s) 0 ∧ bt (sL s) 0 < 224) (w : World) :
    Calls Tryd.prog 32 #[.string s] w fun e w' => e = .returned (.tuple #[.int .i64 (ref1 (sL s)).1, .int .i64 (ref1 (sL s)).2]) ∧ Below w.heap.size w w' := by
  obtain ⟨Z, hZ⟩ : ∃ Z, Z = ref1 (sL s) := ⟨_, rfl⟩
  rw [← hZ]
  have hb := bt_at s 0 h0
  obtain ⟨b0, hb0⟩ : ∃ b0, b0 = bt (sL s) 0 := ⟨_, rfl⟩
  rw [← hb0] at hb hlt
  have HZ := hide hZ
  have HB0 := hide hb0
  clear hZ hb0
  have hi : ¬ (b0 : Int) < 128 := by omega
  have hi1 : (192 : Int) ≤ (b0 : Int) := by omega
  have hi3 : (b0 : Int) < 224 := by omega
  have hi2 : (0 : Int) < (s.size : Int) := by omega
  by_cases hn : s.size < 2
  · have hi5 : (s.size : Int) < 2 := by omega
    go_enter Tryd.func32, Tryd.ntmps32
    go_wp2_with fail
    go_ret2
    obtain rfl : Z = (0, 0) := by
      rw [HZ.out]
      unfold ref1 refN
      have := HB0.out
      unfold bt at this
      rw [if_neg (by omega), if_pos (by omega), if_neg (fun h => by have := h.1; rw [sL_len] at this; omega)]
    exact ⟨rfl, Below.refl _ _⟩
  · have hi5 : ¬ (s.size : Int) < 2 := by omega
    go_enter Tryd.func32, Tryd.ntmps32
    go_wp2_with fail
    go_loop [6, 8] (fun v i => ∃ k : Nat, 1 ≤ k ∧ k ≤ 2 ∧ i = .int .i64 k ∧ v = .int .i64 (rN (sL s) 192 (k - 1) : Nat) ∧ rN (sL s) 192 (k - 1) < 64 ^ k ∧ Hid (∀ j, 1 ≤ j → j < k → Cont (bt (sL s) j))) (fun _ i => 2 - (RowKit.intOf i).toNat)
    case atStart => exact ⟨1, by omega, by omega, rfl, by rw [show rN (sL s) 192 (1 - 1) = b0 - 192 by rw [HB0.out]; rfl]; first | rfl | go_num | (congr 1; omega), by rw [show rN (sL s) 192 (1 - 1) = b0 - 192 by rw [HB0.out]; rfl]; omega, hide (fun j h1 h2 => by omega)⟩
    case round =>
      obtain ⟨k, hk1, hk, rfl, rfl, hr, hc⟩ := hrel
      obtain ⟨r, hr'⟩ : ∃ r, r = rN (sL s) 192 (k - 1) := ⟨_, rfl⟩
      rw [← hr'] at hr ⊢
      have HR := hide hr'
      have hp : 64 ^ k ≤ 64 ^ 4 := Nat.pow_le_pow_right (by omega) (by omega)
      have hr2 : r < 16777216 := Nat.lt_of_lt_of_le hr hp
      have HP := hide hr
      clear hp hr
      clear hr'
      by_cases hlt2 : k < 2
      · have hbk := bt_at s k (by omega)
        obtain ⟨bk, hbk'⟩ : ∃ bk, bk = bt (sL s) k := ⟨_, rfl⟩
        have h256 : bk < 256 := by rw [hbk']; exact bt_lt _ _
        rw [← hbk'] at hbk
        have HBK := hide hbk'
        clear hbk'
        have hkn : (k : Int) < (s.size : Int) := by omega
        by_cases hC : 128 ≤ bk ∧ bk < 192
        · have hi6 : ¬ (bk : Int) < 128 := by omega
          have hi7 : ¬ (192 : Int) ≤ (bk : Int) := by omega
          have hnx : rN (sL s) 192 k = 64 * r + (bk - 128) := by
            rw [HR.out, HBK.out]
            obtain ⟨m, rfl⟩ : ∃ m, k = m + 1 := ⟨k - 1, by omega⟩
            rfl
          have HNX := hide hnx
          clear hnx
          go_wp2_with fail
          go_round
          case rel => exact ⟨k + 1, by omega, by omega, by go_num, by rw [Nat.add_sub_cancel, HNX.out]; first | rfl | go_num | (congr 1; omega), by rw [Nat.add_sub_cancel, HNX.out, Nat.pow_succ]; have := HP.out; omega, hide (cont_next hc.out HBK.out hC)⟩
          case measure => (first | omega | (simp [RowKit.intOf]; omega) | (unfold RowKit.intOf; simp; omega) | go_num)
        · have hnc : ¬ Cont bk := hC
          obtain rfl : k = 1 := by omega
          have hz : Z = (0, 0) := by
            have h1 := HB0.out
            have h2 := HBK.out
            unfold bt at h1 h2
            rw [HZ.out]
            unfold ref1 refN
            rw [if_neg (by omega), if_pos (by omega), if_neg (fun h => hnc (by rw [h2]; exact h.2))]
          subst hz
          rcases Nat.lt_or_ge bk 128 with hl | hl
          · have hi6 : (bk : Int) < 128 := by omega
            go_wp2_with fail
            go_ret2
            exact ⟨rfl, Below.refl _ _⟩
          · have hi6 : ¬ (bk : Int) < 128 := by omega
            have hi7 : (192 : Int) ≤ (bk : Int) := by omega
            go_wp2_with fail
            go_ret2
            exact ⟨rfl, Below.refl _ _⟩
      · obtain rfl : k = 2 := by omega
        have hz : Z = fitR 2 128 r := by
          have h1 := HB0.out
          have hc1 := hc.out 1 (by omega) (by omega)
          have h3 : r = 64 * (b0 - 192) + (bt (sL s) 1 - 128) := by rw [HR.out, h1]; rfl
          unfold bt at h1 hc1 h3
          rw [HZ.out]
          unfold ref1 refN
          rw [if_neg (by omega), if_pos (by omega), if_pos ⟨by rw [sL_len]; omega, hc1⟩, h3, h1]
        unfold fitR at hz
        by_cases q1 : r < 128
        · rw [if_pos (.inl q1)] at hz
          subst hz
          have hi6 : (r : Int) < 128 := by omega
          go_wp2_with fail
          go_ret2
          exact ⟨rfl, Below.refl _ _⟩
        · have hi6 : ¬ (r : Int) < 128 := by omega
          by_cases q2 : 1114111 < r
          · rw [if_pos (.inr (.inl q2))] at hz
            subst hz
            have hi7 : (1114111 : Int) < (r : Int) := by omega
            go_wp2_with fail
            go_ret2
            exact ⟨rfl, Below.refl _ _⟩
          · have hi7 : ¬ (1114111 : Int) < (r : Int) := by omega
            by_cases q3 : 55296 ≤ r
            · have hi8 : (55296 : Int) ≤ (r : Int) := by omega
              by_cases q4 : r < 57344
              · rw [if_pos (.inr (.inr ⟨q3, q4⟩))] at hz
                subst hz
                have hi9 : (r : Int) < 57344 := by omega
                go_wp2_with fail
                go_ret2
                exact ⟨rfl, Below.refl _ _⟩
              · rw [if_neg (by omega)] at hz
                subst hz
                have hi9 : ¬ (r : Int) < 57344 := by omega
                go_wp2_with fail
                go_ret2
                exact ⟨rfl, Below.refl _ _⟩
            · rw [if_neg (by omega)] at hz
              subst hz
              have hi8 : ¬ (55296 : Int) ≤ (r : Int) := by omega
              go_wp2_with fail
              go_ret2
              exact ⟨rfl, Below.refl _ _⟩


end Go.Proofs.YtdcoholjnlndgaaDoor

namespace Go.Proofs.YtdcoholjnlndgaaDoor
open Go.RowKit Go.Lib
set_option linter.unusedVariables false
set_option maxRecDepth 100000

set_option maxHeartbeats 1000000 in
theorem rune1_3 (s : ByteArray) (hs : s.size ≤ 65536) (h0 : 0 < s.size) (hlt : 224 ≤ bt (sL s) 0 ∧ bt (sL s) 0 < 240) (w : World) :
    Calls Tryd.prog 32 #[.string s] w fun e w' => e = .returned (.tuple #[.int .i64 (ref1 (sL s)).1, .int .i64 (ref1 (sL s)).2]) ∧ Below w.heap.size w w' := by
  obtain ⟨Z, hZ⟩ : ∃ Z, Z = ref1 (sL s) := ⟨_, rfl⟩
  rw [← hZ]
  have hb := bt_at s 0 h0
  obtain ⟨b0, hb0⟩ : ∃ b0, b0 = bt (sL s) 0 := ⟨_, rfl⟩
  rw [← hb0] at hb hlt
  have HZ := hide hZ
  have HB0 := hide hb0
  clear hZ hb0
  have hi : ¬ (b0 : Int) < 128 := by omega
  have hi1 : (192 : Int) ≤ (b0 : Int) := by omega
  have hi3 : ¬ (b0 : Int) < 224 := by omega
  have hj1 : (224 : Int) ≤ (b0 : Int) := by omega
  have hj2 : (b0 : Int) < 240 := by omega
  have hi2 : (0 : Int) < (s.size : Int) := by omega
  by_cases hn : s.size < 3
  · have hi5 : (s.size : Int) < 3 := by omega
    go_enter Tryd.func32, Tryd.ntmps32
    go_wp2_with fail
    go_ret2
    obtain rfl : Z = (0, 0) := by
      rw [HZ.out]
      unfold ref1 refN
      have := HB0.out
      unfold bt at this
      rw [if_neg (by omega), if_neg (by omega), if_pos (by omega), if_neg (fun h => by have := h.1; rw [sL_len] at this; omega)]
    exact ⟨rfl, Below.refl _ _⟩
  · have hi5 : ¬ (s.size : Int) < 3 := by omega
    go_enter Tryd.func32, Tryd.ntmps32
    go_wp2_with fail
    go_loop [6, 8] (fun v i => ∃ k : Nat, 1 ≤ k ∧ k ≤ 3 ∧ i = .int .i64 k ∧ v = .int .i64 (rN (sL s) 224 (k - 1) : Nat) ∧ rN (sL s) 224 (k - 1) < 64 ^ k ∧ Hid (∀ j, 1 ≤ j → j < k → Cont (bt (sL s) j))) (fun _ i => 3 - (RowKit.intOf i).toNat)
    case atStart => exact ⟨1, by omega, by omega, rfl, by rw [show rN (sL s) 224 (1 - 1) = b0 - 224 by rw [HB0.out]; rfl]; first | rfl | go_num | (congr 1; omega), by rw [show rN (sL s) 224 (1 - 1) = b0 - 224 by rw [HB0.out]; rfl]; omega, hide (fun j h1 h2 => by omega)⟩
    case round =>
      obtain ⟨k, hk1, hk, rfl, rfl, hr, hc⟩ := hrel
      obtain ⟨r, hr'⟩ : ∃ r, r = rN (sL s) 224 (k - 1) := ⟨_, rfl⟩
      rw [← hr'] at hr ⊢
      have HR := hide hr'
      have hp : 64 ^ k ≤ 64 ^ 4 := Nat.pow_le_pow_right (by omega) (by omega)
      have hr2 : r < 16777216 := Nat.lt_of_lt_of_le hr hp
      have HP := hide hr
      clear hp hr
      clear hr'
      by_cases hlt2 : k < 3
      · have hbk := bt_at s k (by omega)
        obtain ⟨bk, hbk'⟩ : ∃ bk, bk = bt (sL s) k := ⟨_, rfl⟩
        have h256 : bk < 256 := by rw [hbk']; exact bt_lt _ _
        rw [← hbk'] at hbk
        have HBK := hide hbk'
        clear hbk'
        have hkn : (k : Int) < (s.size : Int) := by omega
        by_cases hC : 128 ≤ bk ∧ bk < 192
        · have hi6 : ¬ (bk : Int) < 128 := by omega
          have hi7 : ¬ (192 : Int) ≤ (bk : Int) := by omega
          have hnx : rN (sL s) 224 k = 64 * r + (bk - 128) := by
            rw [HR.out, HBK.out]
            obtain ⟨m, rfl⟩ : ∃ m, k = m + 1 := ⟨k - 1, by omega⟩
            rfl
          have HNX := hide hnx
          clear hnx
          go_wp2_with fail
          go_round
          case rel => exact ⟨k + 1, by omega, by omega, by go_num, by rw [Nat.add_sub_cancel, HNX.out]; first | rfl | go_num | (congr 1; omega), by rw [Nat.add_sub_cancel, HNX.out, Nat.pow_succ]; have := HP.out; omega, hide (cont_next hc.out HBK.out hC)⟩
          case measure => (first | omega | (simp [RowKit.intOf]; omega) | (unfold RowKit.intOf; simp; omega) | go_num)
        · have hnc : ¬ Cont bk := hC
          have hz : Z = (0, 0) := by
            have h1 := HB0.out
            have h2 := HBK.out
            unfold bt at h1 h2
            rw [HZ.out]
            unfold ref1 refN
            rw [if_neg (by omega), if_neg (by omega), if_pos (by omega), if_neg (fun h => by rcases (show k = 1 ∨ k = 2 by omega) with hk1 | hk1 <;> subst hk1; exact hnc (by rw [h2]; exact h.2.1); exact hnc (by rw [h2]; exact h.2.2))]
          subst hz
          rcases Nat.lt_or_ge bk 128 with hl | hl
          · have hi6 : (bk : Int) < 128 := by omega
            go_wp2_with fail
            go_ret2
            exact ⟨rfl, Below.refl _ _⟩
          · have hi6 : ¬ (bk : Int) < 128 := by omega
            have hi7 : (192 : Int) ≤ (bk : Int) := by omega
            go_wp2_with fail
            go_ret2
            exact ⟨rfl, Below.refl _ _⟩
      · obtain rfl : k = 3 := by omega
        have hz : Z = fitR 3 2048 r := by
          have h1 := HB0.out
          have hc1 := hc.out 1 (by omega) (by omega)
          have hc2 := hc.out 2 (by omega) (by omega)
          have h3 : r = 64 * (64 * (b0 - 224) + (bt (sL s) 1 - 128)) + (bt (sL s) 2 - 128) := by rw [HR.out, h1]; rfl
          unfold bt at h1 hc1 hc2 h3
          rw [HZ.out]
          unfold ref1 refN
          rw [if_neg (by omega), if_neg (by omega), if_pos (by omega), if_pos ⟨by rw [sL_len]; omega, hc1, hc2⟩, h3, h1]
        unfold fitR at hz
        by_cases q1 : r < 2048
        · rw [if_pos (.inl q1)] at hz
          subst hz
          have hi6 : (r : Int) < 2048 := by omega
          go_wp2_with fail
          go_ret2
          exact ⟨rfl, Below.refl _ _⟩
        · have hi6 : ¬ (r : Int) < 2048 := by omega
          by_cases q2 : 1114111 < r
          · rw [if_pos (.inr (.inl q2))] at hz
            subst hz
            have hi7 : (1114111 : Int) < (r : Int) := by omega
            go_wp2_with fail
            go_ret2
            exact ⟨rfl, Below.refl _ _⟩
          · have hi7 : ¬ (1114111 : Int) < (r : Int) := by omega
            by_cases q3 : 55296 ≤ r
            · have hi8 : (55296 : Int) ≤ (r : Int) := by omega
              by_cases q4 : r < 57344
              · rw [if_pos (.inr (.inr ⟨q3, q4⟩))] at hz
                subst hz
                have hi9 : (r : Int) < 57344 := by omega
                go_wp2_with fail
                go_ret2
                exact ⟨rfl, Below.refl _ _⟩
              · rw [if_neg (by omega)] at hz
                subst hz
                have hi9 : ¬ (r : Int) < 57344 := by omega
                go_wp2_with fail
                go_ret2
                exact ⟨rfl, Below.refl _ _⟩
            · rw [if_neg (by omega)] at hz
              subst hz
              have hi8 : ¬ (55296 : Int) ≤ (r : Int) := by omega
              go_wp2_with fail
              go_ret2
              exact ⟨rfl, Below.refl _ _⟩


end Go.Proofs.YtdcoholjnlndgaaDoor

namespace Go.Proofs.YtdcoholjnlndgaaDoor
open Go.RowKit Go.Lib
set_option linter.unusedVariables false
set_option maxRecDepth 100000

set_option maxHeartbeats 1000000 in
theorem rune1_4 (s : ByteArray) (hs : s.size ≤ 65536) (h0 : 0 < s.size) (hlt : 240 ≤ bt (sL s) 0 ∧ bt (sL s) 0 < 248) (w : World) :
    Calls Tryd.prog 32 #[.string s] w fun e w' => e = .returned (.tuple #[.int .i64 (ref1 (sL s)).1, .int .i64 (ref1 (sL s)).2]) ∧ Below w.heap.size w w' := by
  obtain ⟨Z, hZ⟩ : ∃ Z, Z = ref1 (sL s) := ⟨_, rfl⟩
  rw [← hZ]
  have hb := bt_at s 0 h0
  obtain ⟨b0, hb0⟩ : ∃ b0, b0 = bt (sL s) 0 := ⟨_, rfl⟩
  rw [← hb0] at hb hlt
  have HZ := hide hZ
  have HB0 := hide hb0
  clear hZ hb0
  have hi : ¬ (b0 : Int) < 128 := by omega
  have hi1 : (192 : Int) ≤ (b0 : Int) := by omega
  have hi3 : ¬ (b0 : Int) < 224 := by omega
  have hj1 : (224 : Int) ≤ (b0 : Int) := by omega
  have hj2 : ¬ (b0 : Int) < 240 := by omega
  have hj3 : (240 : Int) ≤ (b0 : Int) := by omega
  have hj4 : (b0 : Int) < 248 := by omega
  have hi2 : (0 : Int) < (s.size : Int) := by omega
  by_cases hn : s.size < 4
  · have hi5 : (s.size : Int) < 4 := by omega
    go_enter Tryd.func32, Tryd.ntmps32
    go_wp2_with fail
    go_ret2
    obtain rfl : Z = (0, 0) := by
      rw [HZ.out]
      unfold ref1 refN
      have := HB0.out
      unfold bt at this
      rw [if_neg (by omega), if_neg (by omega), if_neg (by omega), if_pos (by omega), if_neg (fun h => by have := h.1; rw [sL_len] at this; omega)]
    exact ⟨rfl, Below.refl _ _⟩
  · have hi5 : ¬ (s.size : Int) < 4 := by omega
    go_enter Tryd.func32, Tryd.ntmps32
    go_wp2_with fail
    go_loop [6, 8] (fun v i => ∃ k : Nat, 1 ≤ k ∧ k ≤ 4 ∧ i = .int .i64 k ∧ v = .int .i64 (rN (sL s) 240 (k - 1) : Nat) ∧ rN (sL s) 240 (k - 1) < 64 ^ k ∧ Hid (∀ j, 1 ≤ j → j < k → Cont (bt (sL s) j))) (fun _ i => 4 - (RowKit.intOf i).toNat)
    case atStart => exact ⟨1, by omega, by omega, rfl, by rw [show rN (sL s) 240 (1 - 1) = b0 - 240 by rw [HB0.out]; rfl]; first | rfl | go_num | (congr 1; omega), by rw [show rN (sL s) 240 (1 - 1) = b0 - 240 by rw [HB0.out]; rfl]; omega, hide (fun j h1 h2 => by omega)⟩
    case round =>
      obtain ⟨k, hk1, hk, rfl, rfl, hr, hc⟩ := hrel
      obtain ⟨r, hr'⟩ : ∃ r, r = rN (sL s) 240 (k - 1) := ⟨_, rfl⟩
      rw [← hr'] at hr ⊢
      have HR := hide hr'
      have hp : 64 ^ k ≤ 64 ^ 4 := Nat.pow_le_pow_right (by omega) (by omega)
      have hr2 : r < 16777216 := Nat.lt_of_lt_of_le hr hp
      have HP := hide hr
      clear hp hr
      clear hr'
      by_cases hlt2 : k < 4
      · have hbk := bt_at s k (by omega)
        obtain ⟨bk, hbk'⟩ : ∃ bk, bk = bt (sL s) k := ⟨_, rfl⟩
        have h256 : bk < 256 := by rw [hbk']; exact bt_lt _ _
        rw [← hbk'] at hbk
        have HBK := hide hbk'
        clear hbk'
        have hkn : (k : Int) < (s.size : Int) := by omega
        by_cases hC : 128 ≤ bk ∧ bk < 192
        · have hi6 : ¬ (bk : Int) < 128 := by omega
          have hi7 : ¬ (192 : Int) ≤ (bk : Int) := by omega
          have hnx : rN (sL s) 240 k = 64 * r + (bk - 128) := by
            rw [HR.out, HBK.out]
            obtain ⟨m, rfl⟩ : ∃ m, k = m + 1 := ⟨k - 1, by omega⟩
            rfl
          have HNX := hide hnx
          clear hnx
          go_wp2_with fail
          go_round
          case rel => exact ⟨k + 1, by omega, by omega, by go_num, by rw [Nat.add_sub_cancel, HNX.out]; first | rfl | go_num | (congr 1; omega), by rw [Nat.add_sub_cancel, HNX.out, Nat.pow_succ]; have := HP.out; omega, hide (cont_next hc.out HBK.out hC)⟩
          case measure => (first | omega | (simp [RowKit.intOf]; omega) | (unfold RowKit.intOf; simp; omega) | go_num)
        · have hnc : ¬ Cont bk := hC
          have hz : Z = (0, 0) := by
            have h1 := HB0.out
            have h2 := HBK.out
            unfold bt at h1 h2
            rw [HZ.out]
            unfold ref1 refN
            rw [if_neg (by omega), if_neg (by omega), if_neg (by omega), if_pos (by omega), if_neg (fun h => by rcases (show k = 1 ∨ k = 2 ∨ k = 3 by omega) with hk1 | hk1 | hk1 <;> subst hk1; exact hnc (by rw [h2]; exact h.2.1); exact hnc (by rw [h2]; exact h.2.2.1); exact hnc (by rw [h2]; exact h.2.2.2))]
          subst hz
          rcases Nat.lt_or_ge bk 128 with hl | hl
          · have hi6 : (bk : Int) < 128 := by omega
            go_wp2_with fail
            go_ret2
            exact ⟨rfl, Below.refl _ _⟩
          · have hi6 : ¬ (bk : Int) < 128 := by omega
            have hi7 : (192 : Int) ≤ (bk : Int) := by omega
            go_wp2_with fail
            go_ret2
            exact ⟨rfl, Below.refl _ _⟩
      · obtain rfl : k = 4 := by omega
        have hz : Z = fitR 4 65536 r := by
          have h1 := HB0.out
          have hc1 := hc.out 1 (by omega) (by omega)
          have hc2 := hc.out 2 (by omega) (by omega)
          have hc3 := hc.out 3 (by omega) (by omega)
          have h3 : r = 64 * (64 * (64 * (b0 - 240) + (bt (sL s) 1 - 128)) + (bt (sL s) 2 - 128)) + (bt (sL s) 3 - 128) := by rw [HR.out, h1]; rfl
          unfold bt at h1 hc1 hc2 hc3 h3
          rw [HZ.out]
          unfold ref1 refN
          rw [if_neg (by omega), if_neg (by omega), if_neg (by omega), if_pos (by omega), if_pos ⟨by rw [sL_len]; omega, hc1, hc2, hc3⟩, h3, h1]
        unfold fitR at hz
        by_cases q1 : r < 65536
        · rw [if_pos (.inl q1)] at hz
          subst hz
          have hi6 : (r : Int) < 65536 := by omega
          go_wp2_with fail
          go_ret2
          exact ⟨rfl, Below.refl _ _⟩
        · have hi6 : ¬ (r : Int) < 65536 := by omega
          by_cases q2 : 1114111 < r
          · rw [if_pos (.inr (.inl q2))] at hz
            subst hz
            have hi7 : (1114111 : Int) < (r : Int) := by omega
            go_wp2_with fail
            go_ret2
            exact ⟨rfl, Below.refl _ _⟩
          · have hi7 : ¬ (1114111 : Int) < (r : Int) := by omega
            by_cases q3 : 55296 ≤ r
            · have hi8 : (55296 : Int) ≤ (r : Int) := by omega
              by_cases q4 : r < 57344
              · rw [if_pos (.inr (.inr ⟨q3, q4⟩))] at hz
                subst hz
                have hi9 : (r : Int) < 57344 := by omega
                go_wp2_with fail
                go_ret2
                exact ⟨rfl, Below.refl _ _⟩
              · rw [if_neg (by omega)] at hz
                subst hz
                have hi9 : ¬ (r : Int) < 57344 := by omega
                go_wp2_with fail
                go_ret2
                exact ⟨rfl, Below.refl _ _⟩
            · rw [if_neg (by omega)] at hz
              subst hz
              have hi8 : ¬ (55296 : Int) ≤ (r : Int) := by omega
              go_wp2_with fail
              go_ret2
              exact ⟨rfl, Below.refl _ _⟩

set_option maxHeartbeats 1000000 in
theorem rune1_high (s : ByteArray) (hs : s.size ≤ 65536) (h0 : 0 < s.size) (b0 : Nat) (hb : ((s[0]'h0).toNat : Int) = (b0 : Int)) (h256 : b0 < 256) (hlt : 248 ≤ b0) (w : World) :
    Calls Tryd.prog 32 #[.string s] w fun e w' => e = .returned (.tuple #[.int .i64 0, .int .i64 0]) ∧ Below w.heap.size w w' := by
  have hi : ¬ (b0 : Int) < 128 := by omega
  have hi1 : (192 : Int) ≤ (b0 : Int) := by omega
  have hi2 : ¬ (b0 : Int) < 224 := by omega
  have hi3 : (224 : Int) ≤ (b0 : Int) := by omega
  have hi4 : ¬ (b0 : Int) < 240 := by omega
  have hi5 : (240 : Int) ≤ (b0 : Int) := by omega
  have hi6 : ¬ (b0 : Int) < 248 := by omega
  have hi7 : (0 : Int) < (s.size : Int) := by omega
  go_enter Tryd.func32, Tryd.ntmps32
  go_wp2_with fail
  go_ret2
  exact ⟨rfl, Below.refl _ _⟩

/-- What rune1 tells of whatever string. -/
theorem rune1_any (s : ByteArray) (hs : s.size ≤ 65536) (h0 : 0 < s.size) (w : World) :
    Calls Tryd.prog 32 #[.string s] w fun e w' => e = .returned (.tuple #[.int .i64 (told (decodeL (sL s))).1, .int .i64 (told (decodeL (sL s))).2]) ∧ Below w.heap.size w w' := by
  rw [← ref1_told]
  have hb := bt_at s 0 h0
  have h256 := bt_lt (sL s) 0
  by_cases c1 : bt (sL s) 0 < 128
  · have h := rune1_ascii s hs h0 _ hb c1 w
    have e : ref1 (sL s) = (1, bt (sL s) 0) := by unfold ref1 refN bt; unfold bt at c1; rw [if_pos c1]
    rw [e]
    exact h
  by_cases c2 : bt (sL s) 0 < 192
  · have h := rune1_none s hs h0 _ hb h256 ⟨by omega, c2⟩ w
    have e : ref1 (sL s) = (0, 0) := by unfold ref1 refN; unfold bt at c1 c2; rw [if_neg c1, if_neg (by omega), if_neg (by omega), if_neg (by omega)]
    rw [e]
    exact h
  by_cases c3 : bt (sL s) 0 < 224
  · exact rune1_2 s hs h0 ⟨by omega, c3⟩ w
  by_cases c4 : bt (sL s) 0 < 240
  · exact rune1_3 s hs h0 ⟨by omega, c4⟩ w
  by_cases c5 : bt (sL s) 0 < 248
  · exact rune1_4 s hs h0 ⟨by omega, c5⟩ w
  · have h := rune1_high s hs h0 _ hb h256 (by omega) w
    have e : ref1 (sL s) = (0, 0) := by unfold ref1 refN; unfold bt at c1 c2 c3 c4 c5; rw [if_neg c1, if_neg (by omega), if_neg (by omega), if_neg (by omega)]
    rw [e]
    exact h

/-- At a place in a string. -/
theorem rune1_at (s : ByteArray) (hs : s.size ≤ 65536) (p : Nat) (h : p < s.size) (w : World) :
    Calls Tryd.prog 32 #[.string (s.extract p s.size)] w fun e w' => e = .returned (.tuple #[.int .i64 (told (decodeL ((sL s).drop p))).1, .int .i64 (told (decodeL ((sL s).drop p))).2]) ∧ Below w.heap.size w w' := by
  have he := sL_extract s p s.size (Nat.le_refl _)
  have hl : (sL s).drop p = ((sL s).drop p).take (s.size - p) := by rw [List.take_of_length_le (by rw [List.length_drop, sL_len]; omega)]
  rw [← hl] at he
  have hz : (s.extract p s.size).size = s.size - p := by rw [he, ← sL_len, sL_mk, List.length_drop, sL_len]
  have hr := rune1_any (s.extract p s.size) (by omega) (by omega) w
  rwa [show sL (s.extract p s.size) = (sL s).drop p by rw [he]; rfl] at hr

end Go.Proofs.YtdcoholjnlndgaaDoor

namespace Go.Proofs.YtdcoholjnlndgaaDoor
open Go.RowKit Go.Lib
set_option linter.unusedVariables false
set_option maxRecDepth 100000

theorem rune1_good {s : ByteArray} (hs : s.size ≤ 65536) {p r v : Nat} (h : p < s.size) (hd : Utf8.decode s p = (r, v)) (hv : ¬ Bad (r, v)) (w : World) :
    Calls Tryd.prog 32 #[.string (s.extract p s.size)] w fun e w' => e = .returned (.tuple #[.int .i64 v, .int .i64 r]) ∧ Below w.heap.size w w' := by
  have h1 := rune1_at s hs p h w
  have e : told (decodeL ((sL s).drop p)) = (v, r) := by rw [decodeL_drop, hd]; unfold told; rw [if_neg hv]
  rwa [e] at h1
theorem rune1_bad {s : ByteArray} (hs : s.size ≤ 65536) {p r v : Nat} (h : p < s.size) (hd : Utf8.decode s p = (r, v)) (hv : Bad (r, v)) (w : World) :
    Calls Tryd.prog 32 #[.string (s.extract p s.size)] w fun e w' => e = .returned (.tuple #[.int .i64 0, .int .i64 0]) ∧ Below w.heap.size w w' := by
  have h1 := rune1_at s hs p h w
  have e : told (decodeL ((sL s).drop p)) = (0, 0) := by rw [decodeL_drop, hd]; unfold told; rw [if_pos hv]
  rwa [e] at h1

set_option maxHeartbeats 2000000 in
theorem rlabel_any (s : ByteArray) (hs : s.size ≤ 65536) (w : World) :
    Calls Tryd.prog 20 #[.string s] w fun e w' => e = .returned (.int .i64 (labE (sL s))) ∧ Below w.heap.size w w' := by
  have hcl := runes_le (sL s)
  rw [sL_len] at hcl
  obtain ⟨C, hC⟩ : ∃ C, C = (decs (sL s)).length := ⟨_, rfl⟩
  obtain ⟨E, hE⟩ : ∃ E, E = labE (sL s) := ⟨_, rfl⟩
  rw [← hC] at hcl
  rw [← hE]
  have HC := hide hC
  have HE := hide hE
  clear hC hE
  go_enter Tryd.func20, Tryd.ntmps20
  go_wp2_with fail
  go_loopw [3, 4] (fun n i wr => ∃ k p : Nat, k ≤ C ∧ n = .int .i64 k ∧ i = .int .i64 p ∧ p ≤ s.size ∧ Hid (p = posN (sL s) k) ∧ Hid (∀ x ∈ (decs (sL s)).take k, Good x) ∧ Below w.heap.size w wr) (fun _ i _ => s.size - (RowKit.intOf i).toNat)
  case atStart => exact ⟨0, 0, Nat.zero_le _, rfl, rfl, Nat.zero_le _, (posN_zero _).symm, by intro x hx; simp at hx, Below.refl _ _⟩
  case round =>
    obtain ⟨k, p, hk, rfl, rfl, hps, hp, hfit, hb⟩ := hrel
    by_cases hlt : p < s.size
    · have hst := rune_step (s := s) (k := k) (by rw [← hp.out]; exact hlt)
      rw [← hp.out, ← HC.out] at hst
      obtain ⟨hk2, hx, hpp⟩ := hst
      have hle := decode_le s p
      have hwd : 1 ≤ (Utf8.decode s p).2 := by
        have := decodeL_width ((sL s).drop p)
        rwa [decodeL_drop] at this
      have hpe := rune_pos (s := s) (k + 1)
      obtain ⟨⟨r, v⟩, hr⟩ : ∃ d, d = Utf8.decode s p := ⟨_, rfl⟩
      rw [← hr] at hle hx hpp hwd
      rw [hpp] at hpe
      dsimp only at hle hpp hwd hpe
      have hpi : (p : Int) ≤ (s.size : Int) := by omega
      have hpi0 : (0 : Int) ≤ (p : Int) := by omega
      have HX := hide hx
      have HPP := hide hpp
      by_cases hbad : Bad (r, v)
      · have hca := fun w => rune1_bad hs hlt hr.symm hbad w
        have hEF : E = 3 := by
          rw [HE.out]
          unfold labE
          rw [if_neg (fun h => (h _ (List.mem_of_getElem? HX.out)).1 hbad)]
        subst hEF
        have HCA := hide hca
        clear hbad hca hr hx hpp hle
        go_wp2_with fail
        refine (HCA.out _).mono ?_
        rintro e w1 ⟨rfl, hb1⟩
        go_wp2_with fail
        go_ret
        exact ⟨rfl, th hb hb1⟩
      · have hca := fun w => rune1_good hs hlt hr.symm hbad w
        have HCA := hide hca
        have HBAD := hide hbad
        clear hca hr hx hpp hbad
        have hv0 : ((v : Int) == 0) = false := by simp; omega
        by_cases hf : Fit (r, v)
        · obtain ⟨hf1, hf2⟩ := hf
          dsimp only at hf1 hf2
          have e1 : ((r : Int) == 127) = false := by simp; omega
          have hi32 : ¬ (r : Int) < 32 := by omega
          have hn : ∀ x ∈ (decs (sL s)).take (k + 1), Good x := by
            obtain ⟨h1, h2⟩ := List.getElem?_eq_some_iff.1 HX.out
            rw [List.take_succ_eq_append_getElem h1, h2]
            intro x hx
            rcases List.mem_append.1 hx with hx | hx
            · exact hfit.out x hx
            · simp at hx; subst hx; exact ⟨HBAD.out, hf1, hf2⟩
          have HN := hide hn
          clear hn hf2
          go_wp2_with fail
          refine (HCA.out _).mono ?_
          rintro e w1 ⟨rfl, hb1⟩
          go_wp2_with fail
          go_roundw
          case rel => exact ⟨k + 1, p + v, by omega, by go_num, by go_num, by omega, hide HPP.out.symm, HN, th hb hb1⟩
          case measure => (first | omega | (simp [RowKit.intOf]; omega) | (unfold RowKit.intOf; simp; omega) | go_num)
        · have hEF : E = 3 := by
            rw [HE.out]
            unfold labE
            rw [if_neg (fun h => hf (h _ (List.mem_of_getElem? HX.out)).2)]
          subst hEF
          by_cases h32 : r < 32
          · have hi : (r : Int) < 32 := by omega
            clear hf
            go_wp2_with fail
            refine (HCA.out _).mono ?_
            rintro e w1 ⟨rfl, hb1⟩
            go_wp2_with fail
            go_ret
            exact ⟨rfl, th hb hb1⟩
          · obtain rfl : r = 127 := by
              by_cases h7 : r = 127
              · exact h7
              · exact absurd ⟨by show 32 ≤ r; omega, h7⟩ hf
            clear hf
            go_wp2_with fail
            refine (HCA.out _).mono ?_
            rintro e w1 ⟨rfl, hb1⟩
            go_wp2_with fail
            go_ret
            exact ⟨rfl, th hb hb1⟩
    · have hen := rune_end (s := s) (k := k) (by rw [← hp.out]; exact hlt)
      rw [← HC.out] at hen
      obtain rfl : k = C := by omega
      have hall : ∀ x ∈ decs (sL s), Good x := by
        have h := hfit.out
        rwa [List.take_of_length_le (by rw [← HC.out]; exact Nat.le_refl _)] at h
      have hEE : E = if 6 < k then 2 else 0 := by rw [HE.out]; unfold labE; rw [if_pos hall, ← HC.out]
      clear hen hall
      by_cases h6 : 6 < k
      · rw [if_pos h6] at hEE
        subst hEE
        have hi6 : (6 : Int) < (k : Int) := by omega
        clear h6
        go_wp2_with fail
        go_ret
        exact ⟨rfl, hb⟩
      · rw [if_neg h6] at hEE
        subst hEE
        have hi6 : ¬ (6 : Int) < (k : Int) := by omega
        clear h6
        go_wp2_with fail
        go_ret
        exact ⟨rfl, hb⟩

/-- What casemateref01.ReadLabel tells. -/
def RRead (b : List UInt8) (t : List UInt8) (k : Int) : Prop := (∃ l, readLab b = some l ∧ t = l ∧ k = 1 + (l.length : Int)) ∨ (readLab b = none ∧ t = [] ∧ k = 0)
def RReadPost (w : World) (b : List UInt8) (e : Ending) (w' : World) : Prop := Below w.heap.size w w' ∧ ∃ t k, e = .returned (.tuple #[.string (mkS t), .int .i64 k]) ∧ RRead b t k

end Go.Proofs.YtdcoholjnlndgaaDoor
