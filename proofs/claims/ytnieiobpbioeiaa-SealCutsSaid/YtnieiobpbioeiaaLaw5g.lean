/-
  The walk of the law casematelaw05.SealFields.
-/
import Derived.Test.YtnieiobpbioeiaaLaw5
import Derived.Deep.RegionHeld3
namespace Go.Proofs.Ytnieiobpbioeiaa
open Go.RowKit
set_option linter.unusedVariables false
set_option maxRecDepth 100000

/-- int(uint(i) % n) is one of 0 .. n-1. -/
theorem umodN (i : Int) (n : Nat) (hn : 1 ≤ n) (hn' : n ≤ 4294967296) : ∃ k : Nat, wrap64 ((IntKind.u64.wrap i).tmod (n : Int)) = (k : Int) ∧ k < n := by
  have h0 : 0 ≤ IntKind.u64.wrap i := by rw [IntKind.wrap_u64]; exact Int.emod_nonneg _ (by omega)
  have h1 : (IntKind.u64.wrap i).tmod (n : Int) = IntKind.u64.wrap i % (n : Int) := Int.tmod_eq_emod_of_nonneg h0
  have h2 : 0 ≤ IntKind.u64.wrap i % (n : Int) := Int.emod_nonneg _ (by omega)
  have h3 : IntKind.u64.wrap i % (n : Int) < n := Int.emod_lt_of_pos _ (by omega)
  rw [h1, IntWalk.wrap64_in _ ⟨by omega, by omega⟩]
  exact ⟨(IntKind.u64.wrap i % (n : Int)).toNat, by omega, by omega⟩

set_option maxHeartbeats 1000000 in
theorem law_sealFields {w : World} (addr : Int) (haddr : InI addr) (stamp : Int) (hstamp : InI stamp) {A : Option Addr} {n c : Nat} {b : List UInt8} (hl : Bs w A n c b) :
    Calls Try.prog 13 #[.int .i64 addr, .int .i64 stamp, .slice A n c] w fun e w' => e = .returned (.bool true) ∧ Below w.heap.size w w' := by
  have hlen := hl.len
  by_cases hn : 96 < n
  · clear hlen
    go_enter Try.func13, Try.ntmps13
    go_wp2_with fail
    go_ret
    exact ⟨rfl, Below.refl _ _⟩
  obtain ⟨a, hu1, ha⟩ := umodN addr 65536 (by omega) (by omega)
  obtain ⟨s, hu2, hs⟩ := umodN stamp 4294967296 (by omega) (by omega)
  have hu1 : wrap64 ((IntKind.u64.wrap addr).tmod 65536) = (a : Int) := hu1
  have hu2 : wrap64 ((IntKind.u64.wrap stamp).tmod 4294967296) = (s : Int) := hu2
  obtain ⟨q, hq⟩ : ∃ q, q = n + 1 := ⟨_, rfl⟩
  have hqi : (n : Int) + 1 = (q : Int) := by omega
  have hq1 : q - 1 = n := by omega
  have hq10 : n + 11 - q = 10 := by omega
  have hsl := seal_len a s b
  rw [hlen] at hsl
  have hS0 : (sealL a s b)[0]? = some (UInt8.ofNat n) := by rw [← hlen]; rfl
  have hn0 : (UInt8.ofNat n).toNat = n := by rw [UInt8.toNat_ofNat']; omega
  have d1 : ((sealL a s b).drop 1).take n = b := by
    rw [show (sealL a s b).drop 1 = b ++ (le 2 a ++ (le 4 s ++ le 4 (crc (bodyL a s b)))) by simp [sealL, bodyL, partL], ← hlen, List.take_left]
  have dq : (sealL a s b).drop q = le 2 a ++ (le 4 s ++ le 4 (crc (bodyL a s b))) := by
    rw [show sealL a s b = partL b ++ (le 2 a ++ (le 4 s ++ le 4 (crc (bodyL a s b)))) by simp [sealL, bodyL], hq, ← hlen, show b.length + 1 = (partL b).length by simp [partL], List.drop_left]
  have t7 : (sealL a s b).take (n + 7) = bodyL a s b := by
    rw [sealL, ← hlen, ← body_len a s b, List.take_left]
  obtain ⟨C, hC⟩ : ∃ C, C = crc (bodyL a s b) := ⟨_, rfl⟩
  rw [← hC] at dq
  have hCl : C < 4294967296 := by rw [hC]; exact crc_lt _
  have hmk := make_ok hl a s (by omega) (by omega) (by omega)
  obtain ⟨S, hS⟩ : ∃ S, S = sealL a s b := ⟨_, rfl⟩
  rw [← hS] at hsl hS0 d1 dq t7 hmk
  have HMK := hide hmk
  have HS0 := hide hS0
  have HD1 := hide d1
  have HDQ := hide dq
  have HT7 := hide t7
  have HC := hide hC
  have e1 : ((UInt8.ofNat n).toNat : Int) = (n : Int) := by omega
  have g1 : decide (96 < (n : Int)) = false := by simp; omega
  clear hsl hS0 d1 dq t7 hC hmk hS hq hlen haddr hstamp hn0
  go_enter Try.func13, Try.ntmps13
  go_wp2_with fail
  refine HMK.out.mono ?_
  rintro e w1 ⟨V1, c1, rfl, ho1, hb1⟩
  have hr1 := ho1.read byteR_fine
  have hc1 := hr1.cap
  obtain ⟨ad, x0, rfl, _, hx0, hxc0⟩ := at_byte hr1 (show 0 < n + 11 by omega)
  rw [HS0.out] at hx0
  injection hx0 with hx0
  subst hx0
  rw [add_zero', e1] at hxc0
  have hcut := cut1 hr1 (i := 1) (j := n + 1) (by omega) (by omega) (by omega)
  rw [show n + 1 - 1 = n by omega, HD1.out] at hcut
  have hcq : ¬ c1 = q := by omega
  have hrest := rest1 hr1 (i := q) (by omega) hcq
  rw [hq10, HDQ.out] at hrest
  have hi7 := hr1.init_ (j := n + 7) (by omega)
  rw [HT7.out] at hi7
  have hc1' : ¬ c1 = 1 := by omega
  have l1 : q ≤ c1 := by omega
  have l2 : 1 ≤ q := by omega
  have l3 : n + 7 ≤ c1 := by omega
  have l4 : q ≤ n + 11 := by omega
  clear e1
  go_wp2_with fail
  refine (bytes_same b hcut (hl.on byteR_fine hb1) (by omega)).mono ?_
  rintro e w2 ⟨rfl, hb2⟩
  have hrest2 := hrest.on byteR_fine hb2
  have hi2 := hi7.on byteR_fine hb2
  go_wp2_with fail
  obtain ⟨cy, hcy⟩ : ∃ cy, cy = c1 - q := ⟨_, rfl⟩
  have hcy10 : 10 ≤ cy := by omega
  have hrest3 : Bs w2 (some (ad.add q)) 10 cy (le 2 a ++ (le 4 s ++ le 4 C)) := by rw [hcy]; exact hrest2
  rw [← hcy]
  clear hrest hrest2 hcy hcut
  generalize ad.add q = yd at hrest3 ⊢
  obtain ⟨_, x0, hh, hydl0, hx0, hc0⟩ := at_byte hrest3 (show 0 < 10 by omega)
  cases hh
  obtain ⟨_, x1, hh, _, hx1, hc1b⟩ := at_byte hrest3 (show 1 < 10 by omega)
  cases hh
  obtain ⟨_, x2, hh, _, hx2, hc2⟩ := at_byte hrest3 (show 2 < 10 by omega)
  cases hh
  obtain ⟨_, x3, hh, _, hx3, hc3⟩ := at_byte hrest3 (show 3 < 10 by omega)
  cases hh
  obtain ⟨_, x4, hh, _, hx4, hc4⟩ := at_byte hrest3 (show 4 < 10 by omega)
  cases hh
  obtain ⟨_, x5, hh, _, hx5, hc5⟩ := at_byte hrest3 (show 5 < 10 by omega)
  cases hh
  simp [le] at hx0 hx1 hx2 hx3 hx4 hx5
  have hA : (x0.toNat : Int) + 256 * (x1.toNat : Int) = (a : Int) := by
    rw [← hx0, ← hx1]
    simp only [UInt8.toNat_ofNat']
    omega
  have hB : (x2.toNat : Int) + 256 * (x3.toNat : Int) + 65536 * (x4.toNat : Int) + 16777216 * (x5.toNat : Int) = (s : Int) := by
    rw [← hx2, ← hx3, ← hx4, ← hx5]
    simp only [UInt8.toNat_ofNat']
    omega
  rw [add_zero'] at hc0
  have hc1b : w2.cell? ⟨yd.block, yd.off + 1, none⟩ = some (.int .u8 (x1.toNat : Int)) := hc1b
  have hc2 : w2.cell? ⟨yd.block, yd.off + 2, none⟩ = some (.int .u8 (x2.toNat : Int)) := hc2
  have hc3 : w2.cell? ⟨yd.block, yd.off + 3, none⟩ = some (.int .u8 (x3.toNat : Int)) := hc3
  have hc4 : w2.cell? ⟨yd.block, yd.off + 4, none⟩ = some (.int .u8 (x4.toNat : Int)) := hc4
  have hc5 : w2.cell? ⟨yd.block, yd.off + 5, none⟩ = some (.int .u8 (x5.toNat : Int)) := hc5
  have hx256 : x0.toNat < 256 ∧ x1.toNat < 256 ∧ x2.toNat < 256 ∧ x3.toNat < 256 ∧ x4.toNat < 256 ∧ x5.toNat < 256 := ⟨x0.toNat_lt, x1.toNat_lt, x2.toNat_lt, x3.toNat_lt, x4.toNat_lt, x5.toNat_lt⟩
  obtain ⟨p0, p1, p2, p3, p4, p5⟩ := hx256
  have hydl : yd.block < w2.heap.size := hydl0
  have hg : ∀ W, Below w2.heap.size w2 W → Calls Try.prog 54 #[.slice (some ⟨yd.block, yd.off + 6, none⟩) 4 (cy - 6), .int .i64 4] W fun e w' => e = .returned (.int .i64 C) ∧ W = w' := fun W hW => by
    have h6 := rest1 (hrest3.on byteR_fine hW) (i := 6) (by omega) (by omega)
    have h := rget_any h6 4 (by omega) (by omega)
    have hn : num (((le 2 a ++ (le 4 s ++ le 4 C)).drop 6).take 4) = C := by
      rw [show (le 2 a ++ (le 4 s ++ le 4 C)).drop 6 = le 4 C by simp [le], List.take_of_length_le (by rw [le_len]; omega), num_le]
      exact Nat.mod_eq_of_lt hCl
    rw [hn] at h
    exact h
  have hs' : ∀ W, Below w2.heap.size w2 W → Calls Try.prog 43 #[.slice (some ad) (n + 7) c1] W fun e w' => e = .returned (.int .i64 C) ∧ W = w' := fun W hW => by
    have h := ref_sum (hi2.on byteR_fine hW) (by omega)
    rwa [← HC.out] at h
  have hkeep : ∀ W, Below w2.heap.size w2 W → (W.cell? yd = some (.int .u8 (x0.toNat : Int)) ∧ W.cell? ⟨yd.block, yd.off + 1, none⟩ = some (.int .u8 (x1.toNat : Int)) ∧ W.cell? ⟨yd.block, yd.off + 2, none⟩ = some (.int .u8 (x2.toNat : Int)) ∧ W.cell? ⟨yd.block, yd.off + 3, none⟩ = some (.int .u8 (x3.toNat : Int)) ∧ W.cell? ⟨yd.block, yd.off + 4, none⟩ = some (.int .u8 (x4.toNat : Int)) ∧ W.cell? ⟨yd.block, yd.off + 5, none⟩ = some (.int .u8 (x5.toNat : Int))) := fun W hW =>
    have kc : ∀ (p : Addr) u, p.block < w2.heap.size → w2.cell? p = some u → W.cell? p = some u := fun p u hp h => (hW.cell hp).trans h
    ⟨kc _ _ hydl hc0, kc _ _ hydl hc1b, kc _ _ hydl hc2, kc _ _ hydl hc3, kc _ _ hydl hc4, kc _ _ hydl hc5⟩
  have HG := hide hg
  have HS := hide hs'
  have HK := hide hkeep
  have hd0 : Below w2.heap.size w2 w2.drew := (Below.refl _ _).drew
  have hcy6 : ¬ cy = 6 := by omega
  have hcy6' : 6 ≤ cy := by omega
  have hn7 : n + 7 ≤ c1 := l3
  have e2 : ((a : Int) == (a : Int)) = true := by simp
  have e3 : ((s : Int) == (s : Int)) = true := by simp
  have e4 : ((C : Int) == (C : Int)) = true := by simp
  clear hx0 hx1 hx2 hx3 hx4 hx5 hg hs' hkeep hi2 hi7 hrest3
  have mk : ∀ z : Int, -9223372036854775808 ≤ z → z ≤ 9223372036854775807 → IntKind.i64.wrap z = z := fun z h1 h2 => IntWalk.i64_in z ⟨h1, h2⟩
  obtain ⟨T1, hT1⟩ : ∃ T1 : Int, T1 = 256 * (x1.toNat : Int) := ⟨_, rfl⟩
  obtain ⟨T3, hT3⟩ : ∃ T3 : Int, T3 = 256 * (x3.toNat : Int) := ⟨_, rfl⟩
  obtain ⟨T4, hT4⟩ : ∃ T4 : Int, T4 = (x2.toNat : Int) + T3 := ⟨_, rfl⟩
  obtain ⟨T5, hT5⟩ : ∃ T5 : Int, T5 = 65536 * (x4.toNat : Int) := ⟨_, rfl⟩
  obtain ⟨T6, hT6⟩ : ∃ T6 : Int, T6 = T4 + T5 := ⟨_, rfl⟩
  obtain ⟨T7, hT7⟩ : ∃ T7 : Int, T7 = 16777216 * (x5.toNat : Int) := ⟨_, rfl⟩
  have W1 : IntKind.i64.wrap (256 * (x1.toNat : Int)) = T1 := (mk _ (by omega) (by omega)).trans hT1.symm
  have W2 : IntKind.i64.wrap ((x0.toNat : Int) + T1) = (a : Int) := (mk _ (by omega) (by omega)).trans (by omega)
  have W3 : IntKind.i64.wrap (256 * (x3.toNat : Int)) = T3 := (mk _ (by omega) (by omega)).trans hT3.symm
  have W4 : IntKind.i64.wrap ((x2.toNat : Int) + T3) = T4 := (mk _ (by omega) (by omega)).trans hT4.symm
  have W5 : IntKind.i64.wrap (65536 * (x4.toNat : Int)) = T5 := (mk _ (by omega) (by omega)).trans hT5.symm
  have W6 : IntKind.i64.wrap (T4 + T5) = T6 := (mk _ (by omega) (by omega)).trans hT6.symm
  have W7 : IntKind.i64.wrap (16777216 * (x5.toNat : Int)) = T7 := (mk _ (by omega) (by omega)).trans hT7.symm
  have W8 : IntKind.i64.wrap (T6 + T7) = (s : Int) := (mk _ (by omega) (by omega)).trans (by omega)
  have U0 : IntKind.i64.wrap (x0.toNat : Int) = x0.toNat := mk _ (by omega) (by omega)
  have U1 : IntKind.i64.wrap (x1.toNat : Int) = x1.toNat := mk _ (by omega) (by omega)
  have U2 : IntKind.i64.wrap (x2.toNat : Int) = x2.toNat := mk _ (by omega) (by omega)
  have U3 : IntKind.i64.wrap (x3.toNat : Int) = x3.toNat := mk _ (by omega) (by omega)
  have U4 : IntKind.i64.wrap (x4.toNat : Int) = x4.toNat := mk _ (by omega) (by omega)
  have U5 : IntKind.i64.wrap (x5.toNat : Int) = x5.toNat := mk _ (by omega) (by omega)
  have U7 : IntKind.i64.wrap ((n : Int) + 7) = (n : Int) + 7 := mk _ (by omega) (by omega)
  have B1 : (0 : Int) ≤ (n : Int) + 7 := by omega
  have B2 : (n : Int) + 7 ≤ (c1 : Int) := by omega
  have B3 : ((n : Int) + 7).toNat = n + 7 := by omega
  have B4 : max ((n : Int) + 7) 0 = (n : Int) + 7 := by omega
  clear mk hT1 hT3 hT4 hT5 hT6 hT7 hA hB
  go_region_held3 (fun w' => w'.cell? yd = some (.int .u8 (x0.toNat : Int)) ∧ w'.cell? ⟨yd.block, yd.off + 1, none⟩ = some (.int .u8 (x1.toNat : Int)) ∧ w'.cell? ⟨yd.block, yd.off + 2, none⟩ = some (.int .u8 (x2.toNat : Int)) ∧ w'.cell? ⟨yd.block, yd.off + 3, none⟩ = some (.int .u8 (x3.toNat : Int)) ∧ w'.cell? ⟨yd.block, yd.off + 4, none⟩ = some (.int .u8 (x4.toNat : Int)) ∧ w'.cell? ⟨yd.block, yd.off + 5, none⟩ = some (.int .u8 (x5.toNat : Int))) (first | exact HK.out _ hd0 | exact HK.out _ hz0) (first
    | (go_at_call 54; refine (HG.out _ hd0).mono ?_; rintro e wA ⟨rfl, rfl⟩)
    | (go_at_call 43; refine (HS.out _ hd0).mono ?_; rintro e wA ⟨rfl, rfl⟩)
    | (go_at_call 52; refine (wakes5 _).mono ?_; rintro e wA ⟨rfl, hz⟩; have hz0 : Below w2.heap.size w2 wA := th hd0 hz))
  all_goals go_wp2_with fail
  all_goals
    go_ret
    exact ⟨rfl, th hb1 (th hb2 hz0)⟩

end Go.Proofs.Ytnieiobpbioeiaa
