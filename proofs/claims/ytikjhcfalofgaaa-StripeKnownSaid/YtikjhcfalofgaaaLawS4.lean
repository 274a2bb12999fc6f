/-
  The walk of casematelaw14.StripeKnown.
-/
import Derived.Test.YtikjhcfalofgaaaStrK
import Derived.Deep.CutBlock
namespace Go.Proofs.Ytikjhcfalofgaaa
open Go.RowKit Go.Lib
set_option linter.unusedVariables false
set_option maxRecDepth 100000

set_option maxHeartbeats 4000000 in
theorem law_stripeKnown {w : World} {B C D E M : Option Addr} {m cb nf cf nm cm q cq p cp : Nat} {bB : List (List UInt8)} {F MM : List Bool} {ats : List Int} {bl : List (List UInt8)} (data : Int) (hdata : InI data) (hB : Rs w B m cb bB) (hF : Sl boolR 1 w (Old w) D nf cf F) (hM : Sl boolR 1 w (Old w) M nm cm MM) (hc : Is w C q cq ats) (hb : Rs w E p cp bl) (stamp : Int) (hstamp : InI stamp) (miss : Int) (hmiss : InI miss) :
    Calls Try.prog 4 #[.int .i64 data, .slice B m cb, .slice D nf cf, .slice M nm cm, .slice C q cq, .slice E p cp, .int .i64 stamp, .int .i64 miss] w fun e w' => e = .returned (.bool true) ∧ Below w.heap.size w w' := by
  obtain ⟨i0, hi0, hz0, hz1, hz2⟩ := info_parts row_info
  have hsome := some_any 1 data 1 0 0 ⟨by omega, by omega⟩ hdata ⟨by omega, by omega⟩ ⟨by omega, by omega⟩ ⟨by omega, by omega⟩ w
  obtain ⟨G, hGe⟩ : ∃ G, G = someG 1 data 1 0 0 := ⟨_, rfl⟩
  have hG : GeoOk G := by rw [hGe]; exact someG_ok _ _ _ _ _
  rw [← hGe] at hsome
  clear hGe
  obtain ⟨gz, gd, gs, gl, ga⟩ := G
  obtain ⟨d, rfl⟩ : ∃ d : Nat, gd = (d : Int) := ⟨gd.toNat, by have := hG.2.1; dsimp only at this; omega⟩
  have hd4 : d ≤ 4 := by have := hG.2.1; dsimp only at this; omega
  obtain ⟨s, hse, hs⟩ := um_is stamp 100000 (by omega) (by omega)
  have hse' : wrap64 ((IntKind.u64.wrap stamp).tmod 100000) = (s : Int) := hse
  obtain ⟨k0, hke, hk0⟩ := um_is miss (d + 1) (by omega) (by omega)
  have hke' : wrap64 ((IntKind.u64.wrap miss).tmod ((d : Int) + 1)) = (k0 : Int) := by rw [← hke]; rfl
  have hlc := hc.len
  have hlb := hb.len
  unfold Geo.v at hsome
  dsimp only at hsome
  have HSM := hide hsome
  have HG := hide hG
  have HLC := hide hlc
  have HLB := hide hlb
  clear hsome hG hse hke hlc hlb
  go_enter Try.func4, Try.ntmps4
  go_wp2_with fail
  refine HSM.out.mono ?_
  rintro e w1 ⟨rfl, hb1⟩
  obtain ⟨W2, hW2⟩ : ∃ W2, W2 = w1.alloc (.cells #[.int .i64 gz, .int .i64 d, .int .i64 gs, .int .i64 gl, .int .i64 ga] 23) := ⟨_, rfl⟩
  have hb2 : Below w1.heap.size w1 W2 := by rw [hW2]; exact alloc_below _ _
  have bx : ∀ W, Below W2.heap.size W2 W →
      W.cell? ⟨w1.heap.size, 0, none⟩ = some (.int .i64 gz) ∧ W.cell? ⟨w1.heap.size, 1, none⟩ = some (.int .i64 d) ∧ W.cell? ⟨w1.heap.size, 2, none⟩ = some (.int .i64 gs) ∧ W.cell? ⟨w1.heap.size, 3, none⟩ = some (.int .i64 gl) ∧ W.cell? ⟨w1.heap.size, 4, none⟩ = some (.int .i64 ga) := fun W hW => by
    subst hW2
    exact ⟨box_cell hW 0 _ rfl, box_cell hW 1 _ rfl, box_cell hW 2 _ rfl, box_cell hW 3 _ rfl, box_cell hW 4 _ rfl⟩
  have BX := hide bx
  have hw12 : w1.heap.size < W2.heap.size := by rw [hW2]; simp
  have hb12 := th hb1 hb2
  obtain ⟨p0, p1, p2, p3, p4⟩ := bx _ (Below.refl _ _)
  rw [hW2] at p0 p1 p2 p3 p4
  clear bx
  by_cases k1 : (10 : Int) < (m : Int)
  · have k1' : decide (10 < m) = true := by simp; omega
    go_wp2_with fail
    go_ret
    exact ⟨rfl, by rw [← hW2]; exact hb12⟩
  have k1' : decide (10 < m) = false := by simp; omega
  by_cases k2 : (10 : Int) < (nf : Int)
  · have k2' : decide (10 < nf) = true := by simp; omega
    go_wp2_with fail
    go_ret
    exact ⟨rfl, by rw [← hW2]; exact hb12⟩
  have k2' : decide (10 < nf) = false := by simp; omega
  by_cases k3 : (10 : Int) < (nm : Int)
  · have k3' : decide (10 < nm) = true := by simp; omega
    go_wp2_with fail
    go_ret
    exact ⟨rfl, by rw [← hW2]; exact hb12⟩
  have k3' : decide (10 < nm) = false := by simp; omega
  by_cases k4 : (10 : Int) < (p : Int)
  · have k4' : decide (10 < p) = true := by simp; omega
    go_wp2_with fail
    go_ret
    exact ⟨rfl, by rw [← hW2]; exact hb12⟩
  have k4' : decide (10 < p) = false := by simp; omega
  have hra := rats_any (d : Int) (by omega) C q cq ats W2 (hc.on intR_fine hb12)
  obtain ⟨RB, hRB⟩ : ∃ RB, RB = decide (AtsOk (d : Int) ats) := ⟨_, rfl⟩
  rw [← hRB] at hra
  have HRA := hide hra
  clear hra
  cases RB with
  | false =>
    rw [hW2] at HRA
    clear hRB
    go_wp2_with fail
    refine HRA.out.mono ?_
    rintro e w3 ⟨rfl, hb3⟩
    rw [← hW2] at hb3
    clear p0 p1 p2 p3 p4
    go_wp2_with fail
    go_ret
    exact ⟨rfl, th hb12 hb3⟩
  | true =>
    have HA := hide (of_decide_eq_true hRB.symm)
    have hqd := ats_len HA.out
    rw [HLC.out] at hqd
    rw [hW2] at HRA
    clear hRB
    go_wp2_with fail
    refine HRA.out.mono ?_
    rintro e w3 ⟨rfl, hb3⟩
    rw [← hW2] at hb3
    have hb03 := th hb12 hb3
    clear p0 p1 p2 p3 p4 hW2 HRA
    by_cases hpq : p = q
    case neg =>
      have e1 : ((p : Int) != (q : Int)) = true := by simp; omega
      have e2 : (p != q) = true := by simp; omega
      have e3 : (p == q) = false := by simp; omega
      clear hpq
      go_wp2_with fail
      go_ret
      exact ⟨rfl, hb03⟩
    case pos =>
      subst hpq
      have hbr := bright_any E p cp bl w3 (hb.on bytesR_fine hb03) (by omega)
      obtain ⟨BB, hBB⟩ : ∃ BB, BB = decide (∀ x ∈ bl, Blk8 x) := ⟨_, rfl⟩
      rw [← hBB] at hbr
      have HBR := hide hbr
      clear hbr
      cases BB with
      | false =>
        clear hBB
        go_wp2_with fail
        refine HBR.out.mono ?_
        rintro e wY ⟨rfl, rfl⟩
        go_wp2_with fail
        go_ret
        exact ⟨rfl, hb03⟩
      | true =>
        have H8 : Hid (∀ x ∈ bl, x.length = 8) := hide (of_decide_eq_true hBB.symm)
        clear hBB
        go_wp2_with fail
        refine HBR.out.mono ?_
        rintro e wY ⟨rfl, rfl⟩
        obtain ⟨p0, p1, p2, p3, p4⟩ := BX.out _ hb3
        go_wp2_with fail
        have hfu : ∀ z : Int, z = (s : Int) → Calls Try.prog 26 #[.agg #[.int .i64 gz, .int .i64 d, .int .i64 gs, .int .i64 gl, .int .i64 ga], .slice B m cb, .slice D nf cf, .int .i64 z] w3 (FullPost w3 d (s : Int) bB F) := fun z hz => by
          subst hz
          exact full_any ⟨gz, d, gs, gl, ga⟩ d rfl hd4 (s : Int) (show InI (s : Int) from ⟨by omega, by omega⟩) (hB.on bytesR_fine hb03) (hF.on boolR_fine hb03)
        have HFU := hide hfu
        clear hfu p0 p1 p2 p3 p4
        refine (HFU.out _ (by omega)).mono ?_
        rintro e w4 ⟨hb4, A, c, X4, c4, rfl, ht4, ho4⟩
        obtain ⟨bs, hbs⟩ : ∃ bs, bs = fullB d bB F := ⟨_, rfl⟩
        have hbl : bs.length = d := by rw [hbs]; exact fullB_len _ _ _
        have hb8 : ∀ x ∈ bs, x.1.length = 8 := by rw [hbs]; exact fullB_8 _ _ _
        rw [← hbs] at ht4 ho4
        obtain ⟨L, hL⟩ : ∃ L, L = fullT s bs := ⟨_, rfl⟩
        obtain ⟨X, hX⟩ : ∃ X, X = fullH bs := ⟨_, rfl⟩
        have hXl : X.length = d + 1 := by rw [hX, fullH_len, hbl]
        have hTT : TabOk (d : Int) L := by rw [hL]; exact tab_full ⟨by omega, by omega⟩ hbl
        have hMK : ∀ H, MaskOk X H → HadOk (d : Int) H ∧ Coh L H := fun H hm => by
          rw [hX] at hm
          exact ⟨had_full hb8 hbl (by rw [hm.1, fullH_len, hbl]) hm.2, by rw [hL]; exact coh_full hb8 hm⟩
        have hX8 : ∀ l ∈ X, l.length ≤ 65536 := fun l hl => by rw [hX] at hl; rcases fullH_mem hb8 hl with h | h <;> omega
        rw [← hL] at ht4
        rw [← hX] at ho4
        have HTT := hide hTT
        have HMK := hide hMK
        have HX8 := hide hX8
        have HXL := hide hXl
        obtain ⟨W5, hW5⟩ : ∃ W5, W5 = w4.alloc (.cells #[.slice A (d + 1) c] 26) := ⟨_, rfl⟩
        have hE5 : Below w4.heap.size w4 W5 := by rw [hW5]; exact alloc_below _ _
        have ha5 : Sl entR 3 W5 (Old W5) A (d + 1) c L := (ht4.move entR_fine (S' := Old w4) (fun _ _ => rfl) (fun q hq => hq.2.1)).on entR_fine hE5
        have hr5 := (ho4.read bytesR_fine).on bytesR_fine hE5
        have hb05 := th hb03 (th hb4 hE5)
        have hb25 := th hb3 (th hb4 hE5)
        have hx5 : ∀ W, Below W5.heap.size W5 W → W.cell? ⟨w4.heap.size, 0, none⟩ = some (.slice A (d + 1) c) := fun W hW => by
          subst hW5
          exact box_cell hW 0 _ rfl
        have HX5 := hide hx5
        have htr := twinrows_any X4 (d + 1) c4 X W5 hr5 (by omega) hX8
        have HTR := hide htr
        clear hTT hMK hX8 hXl hL hX hbs hbl hb8 hx5 ht4 ho4 htr HFU
        go_wp2_with fail
        rw [← hW5]
        clear hW5
        refine HTR.out.mono ?_
        rintro e w6 ⟨X6, x6, rfl, ho6, hb6⟩
        obtain ⟨gx, A0, n0, c0, rfl, hgx, hgxl, _, _, _⟩ := spot_row ho6 (show 0 < d + 1 by omega)
        have hM5 := hM.on boolR_fine hb05
        clear HTR
        go_upto_block 0 with fail
        go_cut [] (fun wx => ∃ H, Rs wx (some ⟨gx, 0, none⟩) (d + 1) x6 H ∧ Hid (MaskOk X H) ∧ Below W5.heap.size W5 wx)
        case first =>
          go_wp2_with fail
          go_loopw [21] (fun i wr => ∃ k : Nat, ∃ H, k ≤ d + 1 ∧ i = .int .i64 k ∧ Ow (slR byteR 1) 1 wr W5.heap.size W5.heap.size 29 (.slice (some ⟨gx, 0, none⟩) (d + 1) x6) (d + 1) H ∧ Hid (MaskOk X H) ∧ Below W5.heap.size W5 wr) (fun i _ => d + 1 - (RowKit.intOf i).toNat)
          case atStart => exact ⟨0, X, by omega, rfl, ho6, hide ⟨rfl, fun j h hj => .inr hj⟩, hb6⟩
          case round =>
            obtain ⟨k, H, hk, rfl, ho, hmo, hbr⟩ := hrel
            have hr := ho.read bytesR_fine
            obtain ⟨p0, p1, p2, p3, p4⟩ := BX.out wr (th hb25 hbr)
            by_cases hkm : k < nm
            · by_cases hlt : k < d + 1
              · have hle : (k : Int) ≤ (d : Int) := by omega
                obtain ⟨md, mx, rfl, hmdl, hmx, hmc⟩ := at_bool (hM5.on boolR_fine hbr) hkm
                obtain ⟨gx', A1, n1, c1, hC, hgx', hgxl', xc, xf, ho'⟩ := spot_row ho hlt
                injection hC with hC
                injection hC with hC
                subst hC
                cases mx with
                | false =>
                  clear hmx
                  go_wp2_with fail
                  go_roundw
                  case rel => exact ⟨k + 1, H, by omega, by go_num, ho, hmo, hbr⟩
                  case measure => (first | omega | (simp [RowKit.intOf]; omega) | (unfold RowKit.intOf; simp; omega) | go_num)
                | true =>
                  clear hmx
                  go_wp2_with fail
                  go_roundw
                  case rel => exact ⟨k + 1, H.set k [], by omega, by go_num, ho', hide (mask_none hmo.out k), hbr.setCell hgx _⟩
                  case measure => (first | omega | (simp [RowKit.intOf]; omega) | (unfold RowKit.intOf; simp; omega) | go_num)
              · have hle : ¬ (k : Int) ≤ (d : Int) := by omega
                go_wp2_with fail
                go_meet
                exact ⟨H, hr, hmo, hbr⟩
            · go_wp2_with fail
              go_meet
              exact ⟨H, hr, hmo, hbr⟩
        case rest =>
          obtain ⟨H, hh6, hmo, hb56⟩ := hcut
          obtain ⟨W6, hW6⟩ : ∃ W6, W6 = wc := ⟨_, rfl⟩
          subst hW6
          have hHC := HMK.out H hmo.out
          have HHC := hide hHC
          have hb06 := th hb05 hb56
          have hb26 := th hb25 hb56
          have ha6 := ha5.on entR_fine hb56
          have hal := all_good (g := ⟨gz, d, gs, gl, ga⟩) ha6 hh6 (by omega) (by omega) HG.out rfl HTT.out hHC.1
          unfold Geo.v at hal
          dsimp only at hal
          have HAL := hide hal
          obtain ⟨p0, p1, p2, p3, p4⟩ := BX.out W6 hb26
          have pt := HX5.out W6 hb56
          clear hal hHC ho6 hb6 hgxl hmo
          go_wp2_with fail
          refine HAL.out.mono ?_
          rintro e w7 ⟨R7, r7, K7, kc7, rfl, hr7, hk7, hb7⟩
          have hb57 := th hb56 hb7
          have hb07 := th hb05 hb57
          have hb27 := th hb25 hb57
          have hsn : NumOk (1 + (s : Int)) := ⟨by omega, by omega⟩
          have hwr := write_ok (g := ⟨gz, d, gs, gl, ga⟩) (d := d) HG.out rfl (1 + (s : Int)) (ha6.on entR_fine hb7) (hh6.on bytesR_fine hb7) (hc.on intR_fine hb07) (hb.on bytesR_fine hb07) HTT.out HHC.out.1 HA.out (by rw [HLB.out, HLC.out]) H8.out hsn
          unfold Geo.v at hwr
          dsimp only at hwr
          have HWR := hide hwr
          obtain ⟨p0, p1, p2, p3, p4⟩ := BX.out w7 hb27
          have pt := HX5.out w7 hb57
          clear hwr HAL
          go_wp2_with fail
          refine HWR.out.mono ?_
          rintro e w8 ⟨V, cV, P8, cP, rfl, hs8, hp8, hb8⟩
          obtain ⟨W9, hW9⟩ : ∃ W9, W9 = w8.alloc (.cells #[.slice V (d + 1) cV] 26) := ⟨_, rfl⟩
          have hE9 : Below w8.heap.size w8 W9 := by rw [hW9]; exact alloc_below _ _
          have hb79 := th hb8 hE9
          have hb59 := th hb57 hb79
          have hb09 := th hb05 hb59
          have hb29 := th hb25 hb59
          have hs9 := (hs8.old_ entR_fine).on entR_fine hE9
          have hp9 := (hp8.old_ byteR_fine).on byteR_fine hE9
          have hr9 := hr7.on bytesR_fine hb79
          have hbl9 := hb.on bytesR_fine hb09
          have hx9 : ∀ W, Below W9.heap.size W9 W → W.cell? ⟨w8.heap.size, 0, none⟩ = some (.slice V (d + 1) cV) := fun W hW => by
            subst hW9
            exact box_cell hW 0 _ rfl
          have HX9 := hide hx9
          have x9 := hx9 _ (Below.refl _ _)
          obtain ⟨p0, p1, p2, p3, p4⟩ := BX.out W9 hb29
          have pt := HX5.out W9 hb59
          rw [hW9] at x9 p0 p1 p2 p3 p4 pt
          have hnw : ∀ k, k < d → (newE L H ats bl (1 + (s : Int)) k).lost = decide (nowB L H ats bl k = []) := fun k hk => (new_is (ats := ats) (s := 1 + (s : Int)) HHC.out.1 HTT.out HHC.out.2 H8.out hk).1
          have HNW := hide hnw
          have hwk : ∀ k, k < d + 1 → some (knownL (wrT L H ats bl (1 + (s : Int)) d) ((wantL L H ats bl d).set k0 []) k) = (wantL L H ats bl d)[k]? := fun k hk => want_known HHC.out.1 HTT.out HHC.out.2 H8.out k0 hk
          have HWK := hide hwk
          have hw8 := wantB_8 (L := L) (ats := ats) (d := d) HHC.out.1 H8.out
          have hwl : ∀ l ∈ wantL L H ats bl d, l.length = 0 ∨ l.length = 8 := fun l hl => by rw [← want_full] at hl; exact fullH_mem hw8 hl
          have hwh : HadOk (d : Int) ((wantL L H ats bl d).set k0 []) := by
            refine ⟨by rw [List.length_set, wantL_len]; omega, fun h hh => ?_⟩
            rcases List.mem_or_eq_of_mem_set hh with h1 | rfl
            · exact hwl h h1
            · exact .inl rfl
          have HWL := hide hwl
          have HWH := hide hwh
          clear hx9 hs8 hp8 HWR hnw hwk hw8 hwl hwh
          go_wp2_with fail
          rw [← hW9]
          clear hW9 x9 p0 p1 p2 p3 p4 pt
          go_loopw [28, 29] (fun v i wr => ∃ k : Nat, ∃ Vs cs hs, k ≤ d ∧ i = .int .i64 k ∧ v = .slice Vs k cs ∧ Ow hdrR 1 wr W9.heap.size 0 29 (.slice Vs k cs) k hs ∧ Hid (Hdrs W9 (Old W9) hs ((List.range k).map (nowB L H ats bl))) ∧ Below W9.heap.size W9 wr) (fun _ i _ => d - (RowKit.intOf i).toNat)
          case atStart => exact ⟨0, none, 0, [], Nat.zero_le _, rfl, rfl, Ow.nil_ _ _ _ _, hide (Hdrs.nil_ _ _), Below.refl _ _⟩
          case round =>
            obtain ⟨k, Vs, cs, hs, hk, rfl, rfl, hos, hhd, hbr⟩ := hrel
            obtain ⟨wo, rfl⟩ : ∃ wo : World, wo = wr := ⟨_, rfl⟩
            have hb2r := th hb29 hbr
            have hb0r := th hb09 hbr
            obtain ⟨p0, p1, p2, p3, p4⟩ := BX.out wo hb2r
            have x9 := HX9.out wo hbr
            by_cases hlt : k < d
            · have hlI : (k : Int) < (d : Int) := by omega
              obtain ⟨rd, x, A1, n1, c1, rfl, hrdl, hxk, hxs, hxc⟩ := at_row hr9 (show k < d + 1 by omega)
              rw [List.getElem?_map, List.getElem?_range (show k < d + 1 by omega)] at hxk
              injection hxk with hxk
              subst hxk
              have hxc' := below_cell hbr hrdl hxc
              go_wp2_with fail
              go_loop [30, 31] (fun v i => ∃ j : Nat, ∃ A' n' c' l, j ≤ p ∧ i = .int .i64 j ∧ v = .slice A' n' c' ∧ Sl byteR 1 W9 (Old W9) A' n' c' l ∧ Hid (HitK L H ats bl k j l)) (fun _ i => p - (RowKit.intOf i).toNat)
              case atStart => exact ⟨0, A1, n1, c1, _, Nat.zero_le _, rfl, rfl, hxs, hide hitk_zero⟩
              case round =>
                obtain ⟨j, A', n', c', l, hj, rfl, rfl, hsl, hhit⟩ := hrel
                by_cases hltj : j < p
                · obtain ⟨ad, a, rfl, hadl, haj, hai, hac⟩ := at_int (hc.on intR_fine hb0r) hltj
                  by_cases hak : a = (k : Int)
                  · obtain ⟨ed, y, A2, n2, c2, rfl, hedl, hyk, hys, hyc⟩ := at_row hbl9 hltj
                    have hyc' := below_cell hbr hedl hyc
                    have HH := hide (hitk_here (L := L) (H := H) haj hyk hak)
                    have e1 : (a == (k : Int)) = true := by simpa using hak
                    clear hhit haj hyk hak
                    go_wp2_with fail
                    go_round
                    case rel => exact ⟨j + 1, A2, n2, c2, y, by omega, by go_num, rfl, hys, HH⟩
                    case measure => (first | omega | (simp [RowKit.intOf]; omega) | (unfold RowKit.intOf; simp; omega) | go_num)
                  · have HH := hide (hitk_on hhit.out haj hak)
                    have e1 : (a == (k : Int)) = false := by simpa using hak
                    clear hhit haj hak
                    go_wp2_with fail
                    go_round
                    case rel => exact ⟨j + 1, A', n', c', l, by omega, by go_num, rfl, hsl, HH⟩
                    case measure => (first | omega | (simp [RowKit.intOf]; omega) | (unfold RowKit.intOf; simp; omega) | go_num)
                · obtain rfl : j = p := by omega
                  have hnb := hitk_end HA.out (by rw [HLC.out]; exact hhit.out)
                  obtain ⟨vd, e1, rfl, hvdl, he1, _, _, v0, v1, v2⟩ := at_ent (hs9.on entR_fine hbr) (show k < d + 1 by omega)
                  rw [wrT_at hlt] at he1
                  injection he1 with he1
                  have hlo := HNW.out k hlt
                  rw [he1, hnb] at hlo
                  have hln := hsl.len
                  have hlv : e1.lost = decide (n' = 0) := by
                    rw [hlo]
                    by_cases h : n' = 0
                    · have : l = [] := List.eq_nil_of_length_eq_zero (by omega)
                      simp [h, this]
                    · have : l ≠ [] := by rintro rfl; simp at hln; omega
                      simp [h, this]
                  rw [hlv] at v2
                  have hE7 := alloc_below wo (.cells #[.slice A' n' c'] 29)
                  have hos7 := hos.below hdrR_fine hE7
                  have hb7' : W9.heap.size ≤ (wo.alloc (.cells #[.slice A' n' c'] 29)).heap.size := Nat.le_trans hbr.size hE7.size
                  have hlit : Sl hdrR 1 (wo.alloc (.cells #[.slice A' n' c'] 29)) (fun _ => True) (some ⟨wo.heap.size, 0, none⟩) 1 1 [(A', n', c')] := lit_plain (R := hdrR) rfl trivial
                  have HDX : Hid (Hdrs W9 (Old W9) (hs ++ [(A', n', c')]) ((List.range (k + 1)).map (nowB L H ats bl))) := hide (by
                    rw [range_snoc, hnb]
                    exact hhd.out.snoc hsl)
                  by_cases hn0 : n' = 0
                  · rw [decide_eq_true hn0] at v2
                    subst hn0
                    clear he1 hlo hln hlv hnb hhit
                    go_wp2_with (at_builtin; refine wpList_append_ow _ rfl (.tmp 197) (.tmp 199) _ rfl hdrR_fine W9.heap.size 0 29 i0 _ 24 Try.underlying27 hi0 hz0 hz1 hz2 rfl (by omega) (.slice Vs k cs) k hs rfl hos7 _ _ 1 1 _ rfl hlit (fun _ _ _ h => h) (by simp only [maxLen]; omega) (by omega) hb7' ?_; intro V8 w8' ho8 hg8 hat8; obtain ⟨A8, c8, rfl⟩ := ho8.form)
                    have hb8' := below_grown hg8 hos7.lt hb7'
                    go_roundw
                    case rel => exact ⟨k + 1, A8, c8, _, by omega, by go_num, rfl, ho8, HDX, (hbr.trans (hE7.mono hbr.size)).trans hb8'⟩
                    case measure => (first | omega | (simp [RowKit.intOf]; omega) | (unfold RowKit.intOf; simp; omega) | go_num)
                  · rw [decide_eq_false hn0] at v2
                    have e5 : ((n' : Int) == 0) = false := by simp; omega
                    have e6 : (n' == 0) = false := by simpa using hn0
                    clear he1 hlo hln hlv hnb hhit
                    go_wp2_with (at_builtin; refine wpList_append_ow _ rfl (.tmp 197) (.tmp 199) _ rfl hdrR_fine W9.heap.size 0 29 i0 _ 24 Try.underlying27 hi0 hz0 hz1 hz2 rfl (by omega) (.slice Vs k cs) k hs rfl hos7 _ _ 1 1 _ rfl hlit (fun _ _ _ h => h) (by simp only [maxLen]; omega) (by omega) hb7' ?_; intro V8 w8' ho8 hg8 hat8; obtain ⟨A8, c8, rfl⟩ := ho8.form)
                    have hb8' := below_grown hg8 hos7.lt hb7'
                    go_roundw
                    case rel => exact ⟨k + 1, A8, c8, _, by omega, by go_num, rfl, ho8, HDX, (hbr.trans (hE7.mono hbr.size)).trans hb8'⟩
                    case measure => (first | omega | (simp [RowKit.intOf]; omega) | (unfold RowKit.intOf; simp; omega) | go_num)
            · obtain rfl : d = k := by omega
              have hlI : ¬ ((d : Int) < (d : Int)) := by omega
              have hE7 := alloc_below wo (.cells #[.slice P8 8 cP] 29)
              have hos7 := hos.below hdrR_fine hE7
              have hb7' : W9.heap.size ≤ (wo.alloc (.cells #[.slice P8 8 cP] 29)).heap.size := Nat.le_trans hbr.size hE7.size
              have hlit : Sl hdrR 1 (wo.alloc (.cells #[.slice P8 8 cP] 29)) (fun _ => True) (some ⟨wo.heap.size, 0, none⟩) 1 1 [(P8, 8, cP)] := lit_plain (R := hdrR) rfl trivial
              have HDX : Hid (Hdrs W9 (Old W9) (hs ++ [(P8, 8, cP)]) (wantL L H ats bl d)) := hide (by
                unfold wantL
                exact hhd.out.snoc hp9)
              go_wp2_with (at_builtin; refine wpList_append_ow _ rfl (.tmp 201) (.tmp 203) _ rfl hdrR_fine W9.heap.size 0 29 i0 _ 24 Try.underlying27 hi0 hz0 hz1 hz2 rfl (by omega) (.slice Vs d cs) d hs rfl hos7 _ _ 1 1 _ rfl hlit (fun _ _ _ h => h) (by simp only [maxLen]; omega) (by omega) hb7' ?_; intro V8 w8' ho8 hg8 hat8; obtain ⟨A8, c8, rfl⟩ := ho8.form; have hb8' := below_grown hg8 hos7.lt hb7'; have hb9A : Below W9.heap.size W9 w8' := (hbr.trans (hE7.mono hbr.size)).trans hb8'; obtain ⟨p0, p1, p2, p3, p4⟩ := BX.out w8' (th hb29 hb9A); have x9 := HX9.out w8' hb9A)
              have hwr8 : Rs w8' A8 (d + 1) c8 (wantL L H ats bl d) := HDX.out.rows (fun b hb' => ⟨hb9A.block b hb', Nat.lt_of_lt_of_le hb' hb9A.size⟩) (ho8.read hdrR_fine)
              have htw := twinrows_any A8 (d + 1) c8 _ w8' hwr8 (by omega) (fun l hl => by rcases HWL.out l hl with h | h <;> omega)
              have HTW := hide htw
              clear htw ho8 hg8 hat8 hb8' hlit hos7 hos hhd
              refine HTW.out.mono ?_
              rintro e wB ⟨X9, c9, rfl, ho9, hbB⟩
              obtain ⟨gy, A0', n0', c0', rfl, hgy, hgyl, yc, yf, ho9'⟩ := spot_row ho9 (show k0 < d + 1 by omega)
              obtain ⟨WC, hWC⟩ : ∃ WC, WC = wB.setCell ⟨gy, k0, none⟩ (.slice none 0 0) := ⟨_, rfl⟩
              have hb8C : Below w8'.heap.size w8' WC := by rw [hWC]; exact hbB.setCell hgy _
              have hb9C := th hb9A hb8C
              have hhC : Rs WC (some ⟨gy, 0, none⟩) (d + 1) c9 ((wantL L H ats bl d).set k0 []) := by rw [hWC]; exact ho9'.read bytesR_fine
              have hal := all_good (g := ⟨gz, d, gs, gl, ga⟩) (hs9.on entR_fine hb9C) hhC (by omega) (by omega) HG.out rfl (wrT_ok hsn HTT.out) HWH.out
              unfold Geo.v at hal
              dsimp only at hal
              have hmap : (List.range (d + 1)).map (knownL (wrT L H ats bl (1 + (s : Int)) d) ((wantL L H ats bl d).set k0 [])) = wantL L H ats bl d := by
                refine List.ext_getElem? fun j => ?_
                by_cases hj : j < d + 1
                · rw [List.getElem?_map, List.getElem?_range hj]
                  exact HWK.out j hj
                · rw [List.getElem?_eq_none (by simp; omega), List.getElem?_eq_none (by rw [wantL_len]; omega)]
              have hmap2 : ((List.range (d + 1)).map fun j => decide (knownL (wrT L H ats bl (1 + (s : Int)) d) ((wantL L H ats bl d).set k0 []) j ≠ [])) = (wantL L H ats bl d).map fun x => decide (x ≠ []) := by
                rw [← hmap, List.map_map]
                rw [hmap]
                rfl
              rw [hmap, hmap2] at hal
              have HAL2 := hide hal
              obtain ⟨WL, hWL⟩ : ∃ WL, WL = wantL L H ats bl d := ⟨_, rfl⟩
              rw [← hWL] at HAL2 hwr8
              obtain ⟨q0, q1, q2, q3, q4⟩ := BX.out WC (th hb29 hb9C)
              have q9 := HX9.out WC hb9C
              have hk0i : (k0 : Int) < (d : Int) + 1 := by omega
              have hk0j : (0 : Int) ≤ (k0 : Int) := by omega
              rw [hWC] at q0 q1 q2 q3 q4 q9
              clear hal hmap hmap2 ho9 ho9' hhC HDX HTW
              go_wp2_with fail
              rw [← hWC]
              clear q0 q1 q2 q3 q4 q9 yc yf hWC
              refine HAL2.out.mono ?_
              rintro e wD ⟨R9, rc9, K9, kc9, rfl, hrD, hkD, hbD⟩
              have hb9D := th hb9C hbD
              have hwD := hwr8.on bytesR_fine (th hb8C hbD)
              go_wp2_with fail
              go_loopw [36] (fun v wr => ∃ k : Nat, k ≤ d + 1 ∧ v = .int .i64 k ∧ Below wD.heap.size wD wr) (fun v _ => d + 1 - (RowKit.intOf v).toNat)
              case atStart => exact ⟨0, Nat.zero_le _, rfl, Below.refl _ _⟩
              case round =>
                obtain ⟨k, hk, rfl, hbk⟩ := hrel
                by_cases hlk : k < d + 1
                · obtain ⟨ad, x, A1, n1, c1, rfl, _, hx1, hxs, hxc⟩ := at_row (hrD.on bytesR_fine hbk) hlk
                  obtain ⟨ud, y, A2, n2, c2, rfl, _, hy1, hys, hyc⟩ := at_row (hwD.on bytesR_fine hbk) hlk
                  rw [hx1] at hy1
                  injection hy1 with hy1
                  subst hy1
                  obtain ⟨kd, kx, rfl, _, hkx, hkc⟩ := at_bool (hkD.on boolR_fine hbk) hlk
                  rw [List.getElem?_map, hx1] at hkx
                  injection hkx with hkx
                  have hn2 := hys.len
                  have hx8 : x.length = 0 ∨ x.length = 8 := HWL.out x (by rw [← hWL]; exact List.mem_of_getElem? hx1)
                  have hkv : kx = decide ((0 : Int) < (n2 : Int)) := by
                    rw [← hkx]
                    by_cases h : x = []
                    · subst h
                      have : n2 = 0 := by simpa using hn2.symm
                      simp [this]
                    · have : 0 < x.length := List.length_pos_iff.2 h
                      have h2 : (0 : Int) < (n2 : Int) := by omega
                      show decide (x ≠ []) = _
                      rw [decide_eq_true (show x ≠ [] from h), decide_eq_true h2]
                  have hby : ∀ r, Calls Try.prog 24 #[.slice A1 n1 c1, .slice A2 n2 c2] (wr.drewN r) fun e w' => e = .returned (.bool true) ∧ ∃ q, w' = (wr.drewN r).drewN q := fun r =>
                    (bytes_any A1 A2 n1 c1 n2 c2 x x (wr.drewN r) (hxs.move byteR_fine (fun _ _ => rfl) (fun _ h => h)) (hys.move byteR_fine (fun _ _ => rfl) (fun _ h => h)) (by have := hxs.len; omega)).mono fun e w' ⟨he, q, hq⟩ => ⟨by simpa using he, q, hq⟩
                  have HBY := hide hby
                  by_cases hn : (0 : Int) < (n2 : Int)
                  · rw [decide_eq_true hn] at hkv
                    subst hkv
                    have hn' : 0 < n2 := by omega
                    clear hkx hx1 hn2 hx8 hby
                    go_wp2_with fail
                    go_quiet ((go_at_call 24; exact Calls.quiet_of (HBY.out _)))
                    go_wp2_with fail
                    go_roundw
                    case rel => exact ⟨k + 1, by omega, by go_num, th hbk (drewN_below _ _)⟩
                    case measure => (first | omega | (simp [RowKit.intOf]; omega) | (unfold RowKit.intOf; simp; omega) | go_num)
                  · rw [decide_eq_false hn] at hkv
                    subst hkv
                    obtain rfl : n2 = 0 := by omega
                    clear hkx hx1 hn2 hx8 hby hn
                    go_wp2_with fail
                    go_quiet ((go_at_call 24; exact Calls.quiet_of (HBY.out _)))
                    go_wp2_with fail
                    go_roundw
                    case rel => exact ⟨k + 1, by omega, by go_num, th hbk (drewN_below _ _)⟩
                    case measure => (first | omega | (simp [RowKit.intOf]; omega) | (unfold RowKit.intOf; simp; omega) | go_num)
                · obtain rfl : k = d + 1 := by omega
                  go_wp2_with fail
                  refine (wakes14 _).mono ?_
                  rintro e w5 ⟨rfl, hb5⟩
                  go_wp2_with fail
                  go_ret
                  exact ⟨rfl, th hb09 (th hb9D (th hbk hb5))⟩

end Go.Proofs.Ytikjhcfalofgaaa
