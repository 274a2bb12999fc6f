/-
  The walk of the law ZoneTwo.
-/
import Derived.Test.YtnieiobpbioeiaaLawZ1
import Derived.Test.YtnieiobpbioeiaaSpot
import Derived.Deep.CutBlock
namespace Go.Proofs.Ytnieiobpbioeiaa
open Go.RowKit
set_option linter.unusedVariables false
set_option maxRecDepth 100000

theorem mask_sub {M : List Bool} {X : List (List UInt8)} {k : Nat} (j : Nat) (h : List UInt8) (hj : (maskH M X k)[j]? = some h) : h = [] ∨ X[j]? = some h := by
  have hjl := (List.getElem?_eq_some_iff.1 hj).1
  rw [mask_len] at hjl
  rw [mask_at _ _ _ hjl] at hj
  split at hj
  · injection hj with hj
    exact .inl hj.symm
  · exact .inr hj
theorem maskN_le (M : List Bool) (X : List (List UInt8)) (k : Nat) : maskN M X k ≤ k := by
  have := List.length_filter_le (missB M X) (List.range k)
  rwa [List.length_range] at this
theorem maskH_succ (M : List Bool) (X : List (List UInt8)) (k : Nat) : maskH M X (k + 1) = if missB M X k then (maskH M X k).set k [] else maskH M X k := rfl

set_option maxHeartbeats 4000000 in
theorem law_zoneTwo {w : World} {C D E : Option Addr} {nb cb nl cl nm cm : Nat} {B : List (List UInt8)} {F M : List Bool} (zones : Int) (hzones : InI zones) (data : Int) (hdata : InI data) (hB : Rs w C nb cb B) (hF : Sl boolR 1 w (Old w) D nl cl F) (stamp : Int) (hstamp : InI stamp) (hM : Sl boolR 1 w (Old w) E nm cm M) :
    Calls Try.prog 5 #[.int .i64 zones, .int .i64 data, .slice C nb cb, .slice D nl cl, .int .i64 stamp, .slice E nm cm] w fun e w' => e = .returned (.bool true) ∧ Below w.heap.size w w' := by
  have hsome := some_any zones data 1 0 0 hzones hdata ⟨by omega, by omega⟩ ⟨by omega, by omega⟩ ⟨by omega, by omega⟩ w
  obtain ⟨G, hGe⟩ : ∃ G, G = someG zones data 1 0 0 := ⟨_, rfl⟩
  have hG : GeoOk G := by rw [hGe]; exact someG_ok _ _ _ _ _
  rw [← hGe] at hsome
  clear hGe
  obtain ⟨gz, gd, gs, gl, ga⟩ := G
  obtain ⟨d, rfl⟩ : ∃ d : Nat, gd = (d : Int) := ⟨gd.toNat, by have := hG.2.1; dsimp only at this; omega⟩
  have hd4 : d ≤ 4 := by have := hG.2.1; dsimp only at this; omega
  obtain ⟨s, hse, hs⟩ := um_is stamp 100000 (by omega) (by omega)
  have hse' : wrap64 ((IntKind.u64.wrap stamp).tmod 100000) = (s : Int) := hse
  unfold Geo.v at hsome
  dsimp only at hsome
  have HSM := hide hsome
  have HG := hide hG
  clear hsome hG hse
  go_enter Try.func5, Try.ntmps5
  go_wp2_with fail
  refine HSM.out.mono ?_
  rintro e w1 ⟨rfl, hb1⟩
  have hb2 := alloc_below w1 (.cells #[.int .i64 gz, .int .i64 d, .int .i64 gs, .int .i64 gl, .int .i64 ga] 23)
  have bx : ∀ W, Below (w1.alloc (.cells #[.int .i64 gz, .int .i64 d, .int .i64 gs, .int .i64 gl, .int .i64 ga] 23)).heap.size (w1.alloc (.cells #[.int .i64 gz, .int .i64 d, .int .i64 gs, .int .i64 gl, .int .i64 ga] 23)) W →
      W.cell? ⟨w1.heap.size, 0, none⟩ = some (.int .i64 gz) ∧ W.cell? ⟨w1.heap.size, 1, none⟩ = some (.int .i64 d) ∧ W.cell? ⟨w1.heap.size, 2, none⟩ = some (.int .i64 gs) ∧ W.cell? ⟨w1.heap.size, 3, none⟩ = some (.int .i64 gl) ∧ W.cell? ⟨w1.heap.size, 4, none⟩ = some (.int .i64 ga) ∧ Below w.heap.size w W := fun W hW =>
    ⟨box_cell hW 0 _ rfl, box_cell hW 1 _ rfl, box_cell hW 2 _ rfl, box_cell hW 3 _ rfl, box_cell hW 4 _ rfl, th hb1 (th hb2 hW)⟩
  have BX := hide bx
  have hb12 := th hb1 hb2
  obtain ⟨p0, p1, p2, p3, p4, _⟩ := BX.out _ (Below.refl _ _)
  clear bx
  by_cases h1 : nb ≤ 10
  · by_cases h2 : nl ≤ 10
    · by_cases h3 : nm ≤ 10
      · have hfu := full_any ⟨gz, d, gs, gl, ga⟩ d rfl hd4 (s : Int) (show InI (s : Int) from ⟨by omega, by omega⟩) (hB.on bytesR_fine hb12) (hF.on boolR_fine hb12)
        unfold Geo.v at hfu
        dsimp only at hfu
        have HFU := hide hfu
        clear hfu
        go_wp2_with fail
        refine HFU.out.mono ?_
        rintro e w3 ⟨hb3, A, c, E', c', rfl, ht3, ho3⟩
        have hb4 := alloc_below w3 (.cells #[.slice A (d + 1) c] 26)
        obtain ⟨bs, hbs⟩ : ∃ bs, bs = fullB d B F := ⟨_, rfl⟩
        have hbl : bs.length = d := by rw [hbs]; exact fullB_len _ _ _
        have hb8 : ∀ x ∈ bs, x.1.length = 8 := by rw [hbs]; exact fullB_8 _ _ _
        rw [← hbs] at ht3 ho3
        have ha4 : Sl entR 3 (w3.alloc (.cells #[.slice A (d + 1) c] 26)) (Old (w3.alloc (.cells #[.slice A (d + 1) c] 26))) A (d + 1) c (fullT s bs) := (ht3.move entR_fine (S' := Old w3) (fun _ _ => rfl) (fun q hq => hq.2.1)).on entR_fine hb4
        have hr4 := (ho3.read bytesR_fine).on bytesR_fine hb4
        have kt : ∀ W, Below (w3.alloc (.cells #[.slice A (d + 1) c] 26)).heap.size (w3.alloc (.cells #[.slice A (d + 1) c] 26)) W → W.cell? ⟨w3.heap.size, 0, none⟩ = some (.slice A (d + 1) c) := fun W hW => box_cell hW 0 _ rfl
        have KT := hide kt
        have htr := twinrows_any E' (d + 1) c' (fullH bs) _ hr4 (by omega) (fun l hl => by rcases fullH_mem hb8 hl with h | h <;> omega)
        have HTR := hide htr
        have hTT : TabOk (d : Int) (fullT s bs) := tab_full ⟨by omega, by omega⟩ hbl
        have hHH : ∀ k, HadOk (d : Int) (maskH M (fullH bs) k) := fun k => had_full hb8 hbl (by rw [mask_len, fullH_len, hbl]) mask_sub
        have hXl : (fullH bs).length = d + 1 := by rw [fullH_len, hbl]
        have HT := hide hTT
        have HH := hide hHH
        have HB8 := hide hb8
        have HBL := hide hbl
        have HXL := hide hXl
        have hM4 := hM.on boolR_fine (th hb12 (th hb3 hb4))
        clear hbs kt htr hTT hHH hb8 hbl hXl HFU
        obtain ⟨W4, hW4⟩ : ∃ W4, W4 = w3.alloc (.cells #[.slice A (d + 1) c] 26) := ⟨_, rfl⟩
        rw [← hW4] at HTR ha4 hr4 KT hM4 hb4
        have HW4 := hide hW4
        clear hW4
        go_wp2_with fail
        rw [← HW4.out]
        refine HTR.out.mono ?_
        rintro e w5 ⟨X5, x5, rfl, ho5, hb5⟩
        obtain ⟨gx, A0, n0, c0, rfl, hgx, hgxl, _, _, _⟩ := spot_row ho5 (show 0 < d + 1 by omega)
        go_upto_block 0 with fail
        go_cut [17] (fun v wx => ∃ K : Nat, K ≤ d + 1 ∧ v = .int .i64 (maskN M (fullH bs) K) ∧ Rs wx (some ⟨gx, 0, none⟩) (d + 1) x5 (maskH M (fullH bs) K) ∧ Below W4.heap.size W4 wx)
        case first =>
          go_wp2_with fail
          go_loopw [17, 18] (fun v i wr => ∃ k : Nat, k ≤ d + 1 ∧ i = .int .i64 k ∧ v = .int .i64 (maskN M (fullH bs) k) ∧ Ow (slR byteR 1) 1 wr W4.heap.size W4.heap.size 31 (.slice (some ⟨gx, 0, none⟩) (d + 1) x5) (d + 1) (maskH M (fullH bs) k) ∧ Below W4.heap.size W4 wr) (fun _ i _ => d + 1 - (intOf i).toNat)
          case atStart => exact ⟨0, by omega, rfl, rfl, ho5, hb5⟩
          case round =>
            obtain ⟨k, hk, rfl, rfl, ho, hb⟩ := hrel
            have hb24 := th hb3 (th hb4 hb)
            obtain ⟨f0, f1, f2, f3, f4, _⟩ := BX.out wr hb24
            have hr := ho.read bytesR_fine
            by_cases hkm : k < nm
            · by_cases hlt : k < d + 1
              · obtain ⟨md, mx, rfl, hmdl, hmx, hmc⟩ := at_bool (hM4.on boolR_fine hb) hkm
                obtain ⟨gx', A1, n1, c1, hC, hgx', hgxl', xc, xf, ho'⟩ := spot_row ho hlt
                injection hC with hC
                injection hC with hC
                subst hC
                obtain ⟨xd, y, A2, n2, c2, hxd, _, hyx, hys, hyc⟩ := at_row hr hlt
                injection hxd with hxd
                subst hxd
                rw [show (⟨gx, 0, none⟩ : Addr).add k = ⟨gx, k, none⟩ from by simp [Addr.add_lit]] at hyc
                rw [xc] at hyc
                injection hyc with hyc
                obtain ⟨rfl, rfl, rfl⟩ : A2 = A1 ∧ n2 = n1 ∧ c2 = c1 := by injection hyc with h1 h2 h3; exact ⟨h1.symm, h2.symm, h3.symm⟩
                have hyx' : (fullH bs)[k]? = some y := by
                  rw [mask_at _ _ _ (by rw [HXL.out]; exact hlt), if_neg (by omega)] at hyx
                  exact hyx
                have hyl := hys.len
                have hms := maskH_succ M (fullH bs) k
                have hns := maskN_succ M (fullH bs) k
                have hmle := maskN_le M (fullH bs) k
                obtain ⟨Nk, hNk⟩ : ∃ Nk, Nk = maskN M (fullH bs) k := ⟨_, rfl⟩
                rw [← hNk] at hns hmle ⊢
                cases mx with
                | false =>
                  have hmb : missB M (fullH bs) k = false := by unfold missB; rw [hmx]; rfl
                  rw [hmb, if_neg (by simp)] at hms hns
                  have HMS := hide hms
                  have HNS := hide hns
                  clear hmb hms hns hyx hyx' hyl hmx hNk hyc
                  go_wp2_with fail
                  go_roundw
                  case rel => exact ⟨k + 1, by omega, by go_num, by rw [HNS.out], by rw [HMS.out]; exact ho, hb⟩
                  case measure => simp [intOf]; omega
                | true =>
                  by_cases hn0 : n2 = 0
                  · have hmb : missB M (fullH bs) k = false := by
                      have : y = [] := List.eq_nil_of_length_eq_zero (by omega)
                      unfold missB
                      rw [hmx, hyx', this]
                      rfl
                    rw [hmb, if_neg (by simp)] at hms hns
                    have HMS := hide hms
                    have HNS := hide hns
                    subst hn0
                    clear hmb hms hns hyx hyx' hyl hmx hNk hyc
                    go_wp2_with fail
                    go_roundw
                    case rel => exact ⟨k + 1, by omega, by go_num, by rw [HNS.out], by rw [HMS.out]; exact ho, hb⟩
                    case measure => simp [intOf]; omega
                  · have hmb : missB M (fullH bs) k = true := by
                      have : y ≠ [] := by rintro rfl; simp at hyl; omega
                      unfold missB
                      rw [hmx, hyx']
                      simp [this]
                    rw [hmb, if_pos rfl] at hms hns
                    have HMS := hide hms
                    have HNS := hide hns
                    have hp : 0 < n2 := by omega
                    clear hmb hms hns hyx hyx' hyl hmx hNk hyc hn0
                    go_wp2_with fail
                    go_roundw
                    case rel => exact ⟨k + 1, by omega, by go_num, by rw [HNS.out]; go_num, by rw [HMS.out]; exact ho', hb.setCell hgx _⟩
                    case measure => simp [intOf]; omega
              · go_wp2_with fail
                go_meet
                exact ⟨k, by omega, rfl, hr, hb⟩
            · go_wp2_with fail
              go_meet
              exact ⟨k, by omega, rfl, hr, hb⟩
        case rest =>
          obtain ⟨K, hK, rfl, hh6, hb46⟩ := hcut
          have hmle := maskN_le M (fullH bs) K
          have hHK := HH.out K
          obtain ⟨Nk, hNk⟩ : ∃ Nk, Nk = maskN M (fullH bs) K := ⟨_, rfl⟩
          rw [← hNk] at hmle ⊢
          have HNK := hide hNk
          have HHK := hide hHK
          clear hNk hHK ho5 hb5 hgxl
          have hb26 := th hb3 (th hb4 hb46)
          have ha6 := ha4.on entR_fine hb46
          have hr6 := hr4.on bytesR_fine hb46
          obtain ⟨q0, q1, q2, q3, q4, _⟩ := BX.out _ hb26
          have qt := KT.out _ hb46
          have hal := all_good ha6 hh6 (by omega) (by omega) HG.out rfl HT.out HHK.out
          unfold Geo.v at hal
          dsimp only at hal
          have HAL := hide hal
          clear hal
          go_wp2_with fail
          refine HAL.out.mono ?_
          rintro e w7 ⟨V, cv, V', cv', rfl, hsl, hsk, hb7⟩
          have hb47 := th hb46 hb7
          have hb27 := th hb3 (th hb4 hb47)
          obtain ⟨v0, v1, v2, v3, v4, _⟩ := BX.out _ hb27
          clear HAL HTR
          go_wp2_with fail
          go_loopw [22, 23] (fun i _ wr => ∃ k : Nat, k ≤ d + 1 ∧ i = .int .i64 k ∧ Below w7.heap.size w7 wr) (fun i _ _ => d + 1 - (intOf i).toNat)
          case atStart => exact ⟨0, by omega, rfl, Below.refl _ _⟩
          case round =>
            obtain ⟨k, hk, rfl, hb⟩ := hrel
            have hb48 := th hb47 hb
            have hb28 := th hb3 (th hb4 hb48)
            obtain ⟨f0, f1, f2, f3, f4, _⟩ := BX.out wr hb28
            have ft := KT.out wr hb48
            by_cases hlt : k < d + 1
            · have har := ha6.on entR_fine (th hb7 hb)
              have hrr := hr6.on bytesR_fine (th hb7 hb)
              have hhr := hh6.on bytesR_fine (th hb7 hb)
              obtain ⟨ad, e, rfl, hadl, he, _, _, ec0, ec1, ec2⟩ := at_ent har hlt
              obtain ⟨bd, a, B1, n1, cb1, rfl, hbdl, hhx, hsa, hcell⟩ := at_row hrr hlt
              obtain ⟨xd, h, B3, n3, cb3, hxd, hxdl, hhh, hsh, hxcell⟩ := at_row hhr hlt
              injection hxd with hxd
              subst hxd
              rw [show (⟨gx, 0, none⟩ : Addr).add k = ⟨gx, k, none⟩ from by simp [Addr.add_lit]] at hxcell
              obtain ⟨kd, kx, rfl, hkdl, hkx, hkc⟩ := at_bool (hsk.on boolR_fine hb) hlt
              obtain ⟨ld, lx, A2, n2, c2, rfl, hldl, hlx, hls, hlc⟩ := at_row (hsl.on bytesR_fine hb) hlt
              rw [List.getElem?_map, List.getElem?_range hlt] at hkx hlx
              simp only [Option.map_some] at hkx hlx
              injection hkx with hkx
              injection hlx with hlx
              have h2k := known_two (s := s) (M := M) HB8.out HBL.out hK hlt he hhx
              rw [← HNK.out] at h2k
              obtain ⟨g1, g2⟩ := h2k
              have hm8 := fullH_mem HB8.out (List.mem_of_getElem? hhx)
              have hn1 := hsa.len
              have hn2 := hls.len
              have hn3 := hsh.len
              cases hel : e.lost with
              | true =>
                obtain ⟨ha0, hk0⟩ := g1 hel
                rw [hk0] at hkx hlx
                obtain rfl : kx = false := by rw [← hkx]; rfl
                rw [hel] at ec2
                clear hkx hlx hm8 hn1 hn2 hn3 hel he hhx hhh g1 g2 hk0 ha0
                go_wp2_with fail
                go_quiet (fail)
                go_wp2_with fail
                go_quiet (fail)
                go_wp2_with fail
                go_roundw
                case rel => exact ⟨k + 1, by omega, by go_num, th hb (drewN_below _ _)⟩
                case measure => simp [intOf]; omega
              | false =>
                rw [hel] at ec2
                obtain ⟨hane, g3⟩ := g2 hel
                rcases g3 with ⟨hH, hk0⟩ | ⟨hH, hN, hk0⟩ | ⟨hH, hN, hk0⟩
                · rw [hhh] at hH
                  injection hH with hH
                  subst hH
                  rw [hk0] at hkx hlx
                  subst hlx
                  obtain rfl : kx = true := by rw [← hkx]; exact decide_eq_true hane
                  have hp : 0 < n3 := by rw [← hn3]; exact List.length_pos_iff.2 hane
                  have e0 : ((n3 : Int) == 0) = false := by simp; omega
                  have hby : ∀ r, Calls Try.prog 37 #[.slice A2 n2 c2, .slice B1 n1 cb1] (wr.drewN r) fun e w' => e = .returned (.bool true) ∧ ∃ q, w' = (wr.drewN r).drewN q := fun r =>
                    (bytes_any A2 B1 n2 c2 n1 cb1 h h (wr.drewN r) (hls.move byteR_fine (fun _ _ => rfl) (fun _ h => h)) (hsa.move byteR_fine (fun _ _ => rfl) (fun _ h => h)) (by omega)).mono fun e w' ⟨he, q, hq⟩ => ⟨by simpa using he, q, hq⟩
                  have HBY := hide hby
                  clear hkx hm8 hn1 hn2 hn3 hel he hhx hhh g1 g2 hk0 hane hby
                  go_wp2_with fail
                  go_quiet ((go_at_call 37; exact Calls.quiet_of (HBY.out _)))
                  go_wp2_with fail
                  go_quiet (fail)
                  go_wp2_with fail
                  go_roundw
                  case rel => exact ⟨k + 1, by omega, by go_num, th hb (drewN_below _ _)⟩
                  case measure => simp [intOf]; omega
                · rw [hhh] at hH
                  injection hH with hH
                  subst hH
                  obtain rfl : n3 = 0 := by simpa using hn3.symm
                  rw [hk0] at hkx hlx
                  subst hlx
                  obtain rfl : kx = true := by rw [← hkx]; exact decide_eq_true hane
                  have e2 : decide ((Nk : Int) < 2) = true := decide_eq_true (by omega)
                  have hby : ∀ r, Calls Try.prog 37 #[.slice A2 n2 c2, .slice B1 n1 cb1] (wr.drewN r) fun e w' => e = .returned (.bool true) ∧ ∃ q, w' = (wr.drewN r).drewN q := fun r =>
                    (bytes_any A2 B1 n2 c2 n1 cb1 a a (wr.drewN r) (hls.move byteR_fine (fun _ _ => rfl) (fun _ h => h)) (hsa.move byteR_fine (fun _ _ => rfl) (fun _ h => h)) (by omega)).mono fun e w' ⟨he, q, hq⟩ => ⟨by simpa using he, q, hq⟩
                  have HBY := hide hby
                  clear hkx hm8 hn1 hn2 hn3 hel he hhx hhh g1 g2 hk0 hane hby
                  go_wp2_with fail
                  go_quiet ((go_at_call 37; exact Calls.quiet_of (HBY.out _)))
                  go_wp2_with fail
                  go_quiet (fail)
                  go_wp2_with fail
                  go_roundw
                  case rel => exact ⟨k + 1, by omega, by go_num, th hb (drewN_below _ _)⟩
                  case measure => simp [intOf]; omega
                · rw [hhh] at hH
                  injection hH with hH
                  subst hH
                  obtain rfl : n3 = 0 := by simpa using hn3.symm
                  rw [hk0] at hkx hlx
                  subst hlx
                  obtain rfl : kx = false := by rw [← hkx]; rfl
                  have e2 : decide ((Nk : Int) < 2) = false := decide_eq_false (by omega)
                  clear hkx hm8 hn1 hn2 hn3 hel he hhx hhh g1 g2 hk0 hane
                  go_wp2_with fail
                  go_quiet (fail)
                  go_wp2_with fail
                  go_quiet (fail)
                  go_wp2_with fail
                  go_roundw
                  case rel => exact ⟨k + 1, by omega, by go_num, th hb (drewN_below _ _)⟩
                  case measure => simp [intOf]; omega
            · obtain rfl : k = d + 1 := by omega
              go_wp2_with fail
              refine (wakes13 _).mono ?_
              rintro e w8 ⟨rfl, hb8⟩
              go_wp2_with fail
              go_ret
              exact ⟨rfl, (BX.out _ (th hb28 hb8)).2.2.2.2.2⟩
      · go_wp2_with fail
        go_ret
        exact ⟨rfl, hb12⟩
    · go_wp2_with fail
      go_ret
      exact ⟨rfl, hb12⟩
  · go_wp2_with fail
    go_ret
    exact ⟨rfl, hb12⟩

end Go.Proofs.Ytnieiobpbioeiaa
