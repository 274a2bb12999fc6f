/-
  The walk of the law TableNews.
-/
import Derived.Test.YtamgpbkakmffiaaLawT1
namespace Go.Proofs.Ytamgpbkakmffiaa
open Go.RowKit
set_option linter.unusedVariables false
set_option maxRecDepth 100000

set_option maxHeartbeats 4000000 in
theorem law_tableNews {w : World} (zones : Int) (hzones : InI zones) (data : Int) (hdata : InI data) (spares : Int) (hspares : InI spares) :
    Calls Try.prog 6 #[.int .i64 zones, .int .i64 data, .int .i64 spares] w fun e w' => e = .returned (.bool true) ∧ Below w.heap.size w w' := by
  obtain ⟨j0, hj0, hy0, hy1, hy2⟩ := info_parts u8_info
  have hmk : ∀ W, (Instr.makeSlice 27 (.int .i64 8) (.int .i64 8)).run Try.prog W = .ok (.slice (some ⟨W.heap.size, 0, none⟩) 8 8) (W.alloc (.cells (madeCells #[.int .u8 0] 8) 5)) := fun W => run_make_all (P := Try.prog) 27 5 j0 _ 1 1 Try.underlying27 hj0 hy0 hy1 hy2 .i64 .i64 8 (by omega) (by omega) W
  have hs0 := fun w => some_any zones data spares 0 0 hzones hdata hspares ⟨by omega, by omega⟩ ⟨by omega, by omega⟩ w
  have hG := someG_ok zones data spares 0 0
  obtain ⟨⟨z, q, s, l, a⟩, hg⟩ : ∃ g, g = someG zones data spares 0 0 := ⟨_, rfl⟩
  rw [← hg] at hs0 hG
  obtain ⟨d, rfl⟩ : ∃ d : Nat, q = (d : Int) := ⟨q.toNat, by have := hG.2.1; dsimp only at this; omega⟩
  have hd4 : d ≤ 4 := by have := hG.2.1; dsimp only at this; omega
  unfold Geo.v at hs0
  dsimp only at hs0
  obtain ⟨T, hT⟩ : ∃ T, T = newT d := ⟨_, rfl⟩
  have hT1 : TabOk d T := by rw [hT]; exact newT_ok d
  have hT2 : T.length = d + 1 := by rw [hT]; exact newT_len d
  obtain ⟨Q, hQ⟩ : ∃ Q, Q = crc zero8 := ⟨_, rfl⟩
  have hq : Q < 4294967296 := by rw [hQ]; exact crc_lt _
  have hT3 : ∀ k, k < d + 1 → T[k]? = some ⟨0, (Q : Int), false⟩ := fun k hk => by rw [hT, newT_at hk, newEnt, hQ]
  have hT4 : lostL T T.length = [] := lost_none (fun e he => by rw [hT] at he; unfold newT at he; rw [(List.mem_replicate.1 he).2]; rfl) _ (Nat.le_refl _)
  have HS0 := hide hs0
  have HG := hide hG
  have HT := hide hT
  have HQ := hide hQ
  have HT1 := hide hT1
  have HT2 := hide hT2
  have HT3 := hide hT3
  have HT4 := hide hT4
  clear hs0 hG hg hT hQ hT1 hT2 hT3 hT4
  go_enter Try.func6, Try.ntmps6
  go_wp2_with fail
  refine (HS0.out _).mono ?_
  rintro e w1 ⟨rfl, hb1⟩
  have hE2 := alloc_below w1 (.cells #[.int .i64 z, .int .i64 d, .int .i64 s, .int .i64 l, .int .i64 a] 23)
  have bx : ∀ W, Below (w1.alloc (.cells #[.int .i64 z, .int .i64 d, .int .i64 s, .int .i64 l, .int .i64 a] 23)).heap.size (w1.alloc (.cells #[.int .i64 z, .int .i64 d, .int .i64 s, .int .i64 l, .int .i64 a] 23)) W → W.cell? ⟨w1.heap.size, 0, none⟩ = some (.int .i64 z) ∧ W.cell? ⟨w1.heap.size, 1, none⟩ = some (.int .i64 d) ∧ W.cell? ⟨w1.heap.size, 2, none⟩ = some (.int .i64 s) ∧ W.cell? ⟨w1.heap.size, 3, none⟩ = some (.int .i64 l) ∧ W.cell? ⟨w1.heap.size, 4, none⟩ = some (.int .i64 a) := fun W hW =>
    ⟨box_cell hW 0 _ rfl, box_cell hW 1 _ rfl, box_cell hW 2 _ rfl, box_cell hW 3 _ rfl, box_cell hW 4 _ rfl⟩
  have BX := hide bx
  clear bx
  have HF := hide (first_ok (k := d) HG.out rfl (w1.alloc (.cells #[.int .i64 z, .int .i64 d, .int .i64 s, .int .i64 l, .int .i64 a] 23)))
  rw [← HT.out] at HF
  go_wp2_with fail
  refine HF.out.mono ?_
  rintro e w3 ⟨hb3, U3, n3, c3, rfl, hu3⟩
  have hE4 := alloc_below w3 (.cells #[.slice U3 n3 c3] 26)
  have hu4 := (sl_newold entR_fine hu3).on entR_fine hE4
  obtain ⟨p0, p1, p2, p3, p4⟩ := BX.out _ (th hb3 hE4)
  obtain rfl : n3 = d + 1 := by rw [← hu3.len]; exact HT2.out
  have htl := tlost_any U3 (d + 1) c3 T ⟨z, d, s, l, a⟩ _ hu4 (by omega)
  unfold Geo.v TLostPost at htl
  dsimp only at htl
  have HTL := hide htl
  have hbt : ∀ W, Below (w3.alloc (.cells #[.slice U3 (d + 1) c3] 26)).heap.size (w3.alloc (.cells #[.slice U3 (d + 1) c3] 26)) W → W.cell? ⟨w3.heap.size, 0, none⟩ = some (.slice U3 (d + 1) c3) := fun W hW => box_cell hW 0 _ rfl
  have HBT := hide hbt
  clear htl hbt
  go_wp2_with fail
  refine HTL.out.mono ?_
  rintro e w5 ⟨hb5, V5, n5, c5, y5, er5, rfl, hs5, hq5⟩
  have hq5' : er5 = 0 ∧ n5 = 0 := by
    unfold TLost at hq5
    rcases hq5 with ⟨h, _⟩ | ⟨_, h1, h2⟩
    · exact absurd ⟨HG.out, HT1.out⟩ h
    · rw [HT4.out] at h2
      subst h2
      exact ⟨h1, by simpa using hs5.len.symm⟩
  obtain ⟨rfl, rfl⟩ := hq5'
  have hb35 := th (th hb3 hE4) hb5
  obtain ⟨q0, q1, q2, q3, q4⟩ := BX.out _ hb35
  have kt := HBT.out _ hb5
  have hu5 := hu4.on entR_fine hb5
  clear hq5
  go_wp2_with fail
  go_loopw [12] (fun i wr => ∃ k : Nat, k ≤ d + 1 ∧ i = .int .i64 k ∧ Below w5.heap.size w5 wr) (fun i _ => d + 1 - (intOf i).toNat)
  case atStart => exact ⟨0, Nat.zero_le _, rfl, Below.refl _ _⟩
  case round =>
    obtain ⟨k, hk, rfl, hb⟩ := hrel
    have ktr := HBT.out _ (th hb5 hb)
    by_cases hlt : k < d + 1
    · obtain ⟨ad, x, rfl, hadl, hx, _, _, c0, c1, c2⟩ := at_ent (hu5.on entR_fine hb) hlt
      rw [HT3.out k hlt] at hx
      injection hx with hx
      subst hx
      dsimp only at c0 c1 c2
      have hz := Sl.drew byteR_fine ((made_zero wr 5 8 (by omega)).read byteR_fine)
      have hsm := ref_sum hz (by omega)
      rw [show List.replicate 8 (0 : UInt8) = zero8 from rfl, ← HQ.out] at hsm
      have HSM := hide hsm
      have hmv : ∀ W, Below wr.heap.size wr W → W.cell? ⟨w3.heap.size, 0, none⟩ = some (.slice (some ad) (d + 1) c3) ∧ W.cell? (ad.add (k * 3)) = some (.int .i64 0) ∧ W.cell? ⟨(ad.add (k * 3)).block, (ad.add (k * 3)).off + 1, none⟩ = some (.int .i64 Q) ∧ W.cell? ⟨(ad.add (k * 3)).block, (ad.add (k * 3)).off + 2, none⟩ = some (.bool false) := fun W hW =>
        ⟨HBT.out _ (th hb5 (th hb hW)), (hW.cell (by rw [block_of_add]; exact hadl)).trans c0, (hW.cell (p := ⟨(ad.add (k * 3)).block, (ad.add (k * 3)).off + 1, none⟩) (by show (ad.add (k * 3)).block < _; rw [block_of_add]; exact hadl)).trans c1, (hW.cell (p := ⟨(ad.add (k * 3)).block, (ad.add (k * 3)).off + 2, none⟩) (by show (ad.add (k * 3)).block < _; rw [block_of_add]; exact hadl)).trans c2⟩
      have HMV := hide hmv
      have eQ : ((Q : Int) == (Q : Int)) = true := by simp
      have hd1 : Below wr.heap.size wr wr.drew := (Below.refl _ _).drew
      have hd2 : Below wr.heap.size wr (wr.alloc (.cells (madeCells #[.int .u8 0] 8) 5)).drew := (alloc_below wr _).drew
      have hbn := hb.trans (hd2.mono hb.size)
      clear hmv hsm hz c0 c1 c2
      go_wp2_with fail
      go_region_held3 (fun w' => w'.cell? ⟨w3.heap.size, 0, none⟩ = some (.slice (some ad) (d + 1) c3) ∧ w'.cell? (ad.add (k * 3)) = some (.int .i64 0) ∧ w'.cell? ⟨(ad.add (k * 3)).block, (ad.add (k * 3)).off + 1, none⟩ = some (.int .i64 Q) ∧ w'.cell? ⟨(ad.add (k * 3)).block, (ad.add (k * 3)).off + 2, none⟩ = some (.bool false)) (first | exact HMV.out _ hd1 | exact HMV.out _ hd2) ((go_at_call 24; refine HSM.out.mono ?_; rintro e wA ⟨rfl, rfl⟩))
      all_goals go_wp2_with fail
      all_goals
        go_roundw
        case rel => exact ⟨k + 1, by omega, by go_num, hbn⟩
        case measure => simp [intOf]; omega
    · obtain rfl : k = d + 1 := by omega
      go_wp2_with fail
      refine (wakes10 _).mono ?_
      rintro e w6 ⟨rfl, hb6⟩
      go_wp2_with fail
      go_ret
      exact ⟨rfl, th hb1 (th hE2 (th hb35 (th hb hb6)))⟩

end Go.Proofs.Ytamgpbkakmffiaa
