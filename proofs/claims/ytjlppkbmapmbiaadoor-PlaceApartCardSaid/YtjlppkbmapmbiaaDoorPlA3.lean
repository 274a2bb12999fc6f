/-
  The walk of casematelaw11.PlaceApart.
-/
import Derived.Test.YtjlppkbmapmbiaaDoorPlA2
namespace Go.Proofs.YtjlppkbmapmbiaaDoor
open Go.RowKit Go.Lib
set_option linter.unusedVariables false
set_option maxRecDepth 100000

set_option maxHeartbeats 2000000 in
theorem law_placeApart {w : World} {A : Option Addr} {n c : Nat} {X : List Tri} (hT : Tabs w) (zones : Int) (hz : InI zones) (data : Int) (hd : InI data) (spares : Int) (hs : InI spares) (hx : Sl triR 3 w (Old w) A n c X) :
    Calls Tryd.prog 3 #[.int .i64 zones, .int .i64 data, .int .i64 spares, .slice A n c] w fun e w' => e = .returned (.bool true) ∧ Below w.heap.size w w' := by
  obtain ⟨i0, hi0, hz0, hz1, hz2⟩ := info_parts int_info
  have hs0 := fun w => some_any zones data spares 0 0 hz hd hs inI_0 inI_0 w
  have hgo := someG_ok zones data spares 0 0
  obtain ⟨g, hg⟩ : ∃ g, g = someG zones data spares 0 0 := ⟨_, rfl⟩
  rw [← hg] at hs0 hgo
  obtain ⟨Z, hZ⟩ : ∃ Z : Nat, g.zones = (Z : Int) := ⟨g.zones.toNat, by have := hgo.1; omega⟩
  obtain ⟨D, hD⟩ : ∃ D : Nat, g.data = (D : Int) := ⟨g.data.toNat, by have := hgo.2.1; omega⟩
  obtain ⟨S, hS⟩ : ∃ S : Nat, g.spares = (S : Int) := ⟨g.spares.toNat, by have := hgo.2.2.1; omega⟩
  have hZ4 : 1 ≤ Z ∧ Z ≤ 4 := by have := hgo.1; omega
  have hD4 : 1 ≤ D ∧ D ≤ 4 := by have := hgo.2.1; omega
  have hS2 : S ≤ 2 := by have := hgo.2.2.1; omega
  obtain ⟨hZ1, hZ4⟩ := hZ4
  obtain ⟨hD1, hD4⟩ := hD4
  have hfi := fun w => rafirst_any (g := g) hZ hD hZ4 hD4 ⟨#[]⟩ w
  have hok0 : AncOk g (aH (List.replicate Z (newHom D))) := by rw [← aH_new]; exact newAnc_ok hgo hZ hD lab_nil
  by_cases hbad : 40 < n
  · have h1 : (40 : Int) < (n : Int) := by omega
    go_enter Tryd.func3, Tryd.ntmps3
    go_wp2_with fail
    go_ret
    exact ⟨rfl, Below.refl _ _⟩
  have h1 : ¬ (40 : Int) < (n : Int) := by omega
  have hmk := fun W => run_make_all (P := Tryd.prog) 30 3 i0 (.int .i64 0) 1 8 Tryd.underlying30 hi0 hz0 hz1 hz2 .i64 .i64 Z (by omega) (by omega) W
  obtain ⟨gz, gd, gs, gl, ga⟩ := g
  dsimp only at hZ hD hS
  subst hZ
  subst hD
  subst hS
  unfold newAnc Anc.v at hfi
  unfold Geo.v at hs0 hfi
  dsimp only at hs0 hfi
  have HS0 := hide hs0
  have HFI := hide hfi
  have HMK := hide hmk
  have HGO := hide hgo
  have HOK0 := hide hok0
  clear hs0 hfi hmk hgo hok0 hg hz hd hs hbad
  go_enter Tryd.func3, Tryd.ntmps3
  go_wp2_with fail
  refine (HS0.out _).mono ?_
  rintro e w1 ⟨rfl, hb1⟩
  obtain ⟨W2, hW2⟩ : ∃ W2, W2 = w1.alloc (.cells #[.int .i64 Z, .int .i64 D, .int .i64 S, .int .i64 gl, .int .i64 ga] 24) := ⟨_, rfl⟩
  have hE2 : Below w1.heap.size w1 W2 := by rw [hW2]; exact alloc_below _ _
  have hgb : GeoAt W2 w1.heap.size ⟨Z, D, S, gl, ga⟩ := by rw [hW2]; exact GeoAt.new w1 ⟨Z, D, S, gl, ga⟩ 24
  have HGB := hide hgb
  have hb02 := th hb1 hE2
  have hpq := hgb.2
  rw [hW2] at hpq
  obtain ⟨p0, p1, p2, p3, p4⟩ := hpq
  clear hgb
  go_wp2_with fail
  rw [← hW2]
  clear p0 p1 p2 p3 p4 hW2
  refine (HFI.out _).mono ?_
  rintro e w3 ⟨hb3, V3, c3, rfl, hs3⟩
  obtain ⟨W4, hW4⟩ : ∃ W4, W4 = w3.alloc (.cells #[.int .i64 1, .int .i64 0, .int .i64 0, .int .i64 1, .int .i64 0, .string ⟨#[]⟩, .slice V3 Z c3] 28) := ⟨_, rfl⟩
  have hE4 : Below w3.heap.size w3 W4 := by rw [hW4]; exact alloc_below _ _
  have hN4 : W4.heap.size = w3.heap.size + 1 := by rw [hW4]; simp
  have hv4 : Sev W4 w3.heap.size (.int .i64 1) (.int .i64 0) (.int .i64 0) (.int .i64 1) (.int .i64 0) (.string ⟨#[]⟩) (.slice V3 Z c3) := by rw [hW4]; exact Sev.new rfl (Below.refl _ _)
  have hf4 : ∀ j, W4.frozen? ⟨w3.heap.size, j, none⟩ = false := fun j => by rw [hW4]; exact box_free (Below.refl _ _) j
  have hN4' : w3.heap.size + 1 ≤ W4.heap.size := by omega
  have HN4 := hide hN4
  have HV4 := hide hv4
  have HF4 := hide hf4
  have hb24 := th hb3 hE4
  have hgq := (HGB.out.on hb24).2
  rw [hW4] at hgq
  obtain ⟨p0, p1, p2, p3, p4⟩ := hgq
  have hmk4 := HMK.out W4
  rw [hW4] at hmk4
  clear hN4 hv4 hf4
  go_wp2_with fail
  obtain ⟨W5, hW5⟩ : ∃ W5, W5 = W4.alloc (.cells (madeCells #[.int .i64 0] Z) 3) := ⟨_, rfl⟩
  have hE5 : Below W4.heap.size W4 W5 := by rw [hW5]; exact alloc_below _ _
  have hP5 : PAt w w1.heap.size w3.heap.size (w3.heap.size + 1) 3 ⟨Z, D, S, gl, ga⟩ Z V3 c3 (List.replicate Z (newHom D)) (hadL D (List.replicate Z (newHom D))) W5 := by
    have hm := made_ints W4 3 Z (by omega)
    rw [← hW5, HN4.out] at hm
    have hs5 : W5.heap.size = w3.heap.size + 1 + 1 := by rw [hW5]; simp [HN4.out]
    refine ⟨HGB.out.on (th hb24 hE5), HV4.out.on (by omega) hE5, fun j => (hE5.frozen (by show w3.heap.size < _; omega)).trans (HF4.out j), hs3.move homR_fine (fun b hb => (th hE4 hE5).block b hb.2) (fun b hb => ⟨by have := hb.2; omega, by have := hb.2; omega, by have := hb.2; omega⟩), by rw [had_new]; exact hm, ⟨hb1.size, ?_, by omega, by omega⟩, th hb02 (th hb24 hE5)⟩
    have h1 := HGB.out.1
    have h2 := hb3.size
    omega
  rw [← hW4, ← hW5]
  clear hW4 hW5 p0 p1 p2 p3 p4 hmk4
  obtain ⟨Ng, hNg⟩ : ∃ Ng, Ng = w1.heap.size := ⟨_, rfl⟩
  obtain ⟨Na, hNa⟩ : ∃ Na, Na = w3.heap.size := ⟨_, rfl⟩
  rw [← hNg, ← hNa] at hP5 ⊢
  clear hNg hNa
  go_loopw [12] (fun i wr => ∃ k V cv HS, k ≤ n ∧ i = .int .i64 (k : Nat) ∧ Hid (AncOk ⟨Z, D, S, gl, ga⟩ (aH HS)) ∧ PAt w Ng Na (Na + 1) 3 ⟨Z, D, S, gl, ga⟩ Z V cv HS (hadL D HS) wr) (fun i _ => n - (RowKit.intOf i).toNat)
  case atStart => exact ⟨0, _, _, _, Nat.zero_le _, rfl, HOK0, hP5⟩
  case round =>
    obtain ⟨k, V, cv, HS, hk, rfl, HOK, hP⟩ := hrel
    have HP := hide hP
    clear hP
    by_cases hlt : k < n
    · have hlI : (k : Int) < (n : Int) := by omega
      have k0 : (0 : Int) ≤ (k : Int) := by omega
      obtain ⟨ad, t, rfl, hadl, htk, it0, it1, it2, c0, c1, c2⟩ := at_tri (hx.on triR_fine HP.out.bel) hlt
      obtain ⟨z, hu1, hzl⟩ := um_at t.x (n := (Z : Int)) (by omega) (by omega)
      obtain ⟨m, hu2, hml⟩ := um_at t.y (n := (D : Int) + 1) (by omega) (by omega)
      obtain ⟨ha1, hc1⟩ := um_raws hu1 (by omega) (by omega)
      obtain ⟨ha2, hc2⟩ := um_raws hu2 (by omega) (by omega)
      have x1 : IntKind.i64.wrap (z : Int) = (z : Int) := IntWalk.i64_in _ (by omega)
      have x2 : IntKind.i64.wrap (m : Int) = (m : Int) := IntWalk.i64_in _ (by omega)
      have m2 : IntKind.i64.wrap ((m : Int) - 1) = (m : Int) - 1 := IntWalk.i64_in _ (by omega)
      have gz : IntKind.u64.wrap (Z : Int) = (Z : Int) := by rw [IntKind.wrap_u64]; omega
      have gd : IntKind.i64.wrap ((D : Int) + 1) = (D : Int) + 1 := IntWalk.i64_in _ (by omega)
      have gu : IntKind.u64.wrap ((D : Int) + 1) = (D : Int) + 1 := by rw [IntKind.wrap_u64]; omega
      have gz0 : ¬ (Z : Int) = 0 := by omega
      have gd0 : ¬ (D : Int) + 1 = 0 := by omega
      have y1 : IntKind.u64.wrap (z : Int) = (z : Int) := by rw [IntKind.wrap_u64]; omega
      have y2 : IntKind.u64.wrap (m : Int) = (m : Int) := by rw [IntKind.wrap_u64]; omega
      obtain ⟨_, p0, p1, p2, p3, p4⟩ := HP.out.geo
      have HC2 := hide c2
      clear hu1 hu2 htk c2
      go_upto_region 9 with fail
      go_cut [13] (fun u wx => u = .int .i64 (z : Int) ∧ Below wr.heap.size wr wx)
      case first =>
        go_quiet (fail)
        go_wp2_with fail
        go_meet
        exact ⟨rfl, drewN_below _ _⟩
      case rest =>
        obtain ⟨rfl, hb6⟩ := hcut
        obtain ⟨w6, hw6⟩ : ∃ w6, w6 = wc := ⟨_, rfl⟩
        obtain ⟨_, p0, p1, p2, p3, p4⟩ := HP.out.geo.on hb6
        have c1' : wc.cell? ⟨(ad.add (k * 3)).block, (ad.add (k * 3)).off + 1, none⟩ = some (.int .i64 t.y) := (hb6.cell (by show (ad.add (k * 3)).block < _; rw [block_of_add]; exact hadl)).trans c1
        go_upto_region 10 with fail
        go_cut [14] (fun u wx => u = .int .i64 ((m : Int) - 1) ∧ Below wc.heap.size wc wx)
        case first =>
          go_quiet (fail)
          go_wp2_with fail
          go_meet
          exact ⟨rfl, drewN_below _ _⟩
        case rest =>
          obtain ⟨w7, hw7⟩ : ∃ w7, w7 = wc := ⟨_, rfl⟩
          subst hw7
          obtain ⟨hu14, hb7⟩ := hcut
          subst hu14
          have hb67 := th hb6 hb7
          have HP7 := hide (HP.out.on hb67)
          obtain ⟨h, kk, hhz, hnx, hkS, hpl, hplo⟩ := had_ok (z := z) (g := ⟨Z, D, S, gl, ga⟩) rfl rfl rfl HOK.out (by omega)
          have hzN : z < Z := by omega
          have hHad : (hadL D HS)[z]? = some (kk : Int) := by rw [had_at hhz]; congr 1; omega
          have hAH := aH_light HGO.out HOK.out
          have hwo : WhatOk ⟨Z, D, S, gl, ga⟩ ((m : Int) - 1) := ⟨by omega, by show (m : Int) - 1 ≤ D - 1; omega⟩
          have hps : PlaceOk ⟨Z, D, S, gl, ga⟩ (aH HS) (z : Int) (-1) := ⟨HGO.out, HOK.out, ⟨by omega, hzl⟩, isP_par _⟩
          have hpm : PlaceOk ⟨Z, D, S, gl, ga⟩ (aH HS) (z : Int) ((m : Int) - 1) := ⟨HGO.out, HOK.out, ⟨by omega, hzl⟩, (isP_what HGO.out _).2 hwo⟩
          have hat : atI ⟨Z, D, S, gl, ga⟩ ((m : Int) - 1) = (metAt D m : Int) := metAt_at rfl
          obtain ⟨W8, hW8⟩ : ∃ W8, W8 = w7.alloc (.cells #[.int .i64 1, .int .i64 0, .int .i64 0, .int .i64 1, .int .i64 0, .string ⟨#[]⟩, .slice V Z cv] 28) := ⟨_, rfl⟩
          have hE8 : Below w7.heap.size w7 W8 := by rw [hW8]; exact alloc_below _ _
          have hv8 : Sev W8 w7.heap.size (.int .i64 1) (.int .i64 0) (.int .i64 0) (.int .i64 1) (.int .i64 0) (.string ⟨#[]⟩) (.slice V Z cv) := by rw [hW8]; exact Sev.new rfl (Below.refl _ _)
          have hf8 : ∀ j, W8.frozen? ⟨w7.heap.size, j, none⟩ = false := fun j => by rw [hW8]; exact box_free (Below.refl _ _) j
          have hN8 : W8.heap.size = w7.heap.size + 1 := by rw [hW8]; simp
          have HN8 := hide hN8
          have HV8 := hide hv8
          have HF8 := hide hf8
          have HP8 := hide (HP7.out.on hE8)
          have c2' : W8.cell? ⟨(ad.add (k * 3)).block, (ad.add (k * 3)).off + 2, none⟩ = some (.int .i64 t.z) := ((th hb67 hE8).cell (by show (ad.add (k * 3)).block < _; rw [block_of_add]; exact hadl)).trans HC2.out
          have C2 := hide c2'
          rw [hW8] at c2'
          obtain ⟨q0, q1, q2, q3, q4, q5, q6⟩ := HP7.out.anc
          clear hN8 hv8 hf8 c0 c1 c1' ha1 hc1 ha2 hc2 x1 x2 m2 gz gd gu gz0 gd0 y1 y2
          go_upto_region 12 with fail
          rw [← hW8]
          have c2' := C2.out
          clear hW8 q0 q1 q2 q3 q4 q5 q6
          have hY9 : Hid (∀ w9, Below W8.heap.size W8 w9 → Sev w9 w7.heap.size (.int .i64 1) (.int .i64 0) (.int .i64 0) (.int .i64 1) (.int .i64 0) (.string ⟨#[]⟩) (.slice V Z cv) ∧ (∀ j, w9.frozen? ⟨w7.heap.size, j, none⟩ = false)) := hide fun w9 hb9 => ⟨HV8.out.on (by rw [HN8.out]; omega) hb9, fun j => (hb9.frozen (by show w7.heap.size < _; rw [HN8.out]; omega)).trans (HF8.out j)⟩
          have hY9 : Hid (∀ w9, Below W8.heap.size W8 w9 → Sev w9 w7.heap.size (.int .i64 1) (.int .i64 0) (.int .i64 0) (.int .i64 1) (.int .i64 0) (.string ⟨#[]⟩) (.slice V Z cv) ∧ (∀ j, w9.frozen? ⟨w7.heap.size, j, none⟩ = false)) := hide fun w9 hb9 => ⟨HV8.out.on (by rw [HN8.out]; omega) hb9, fun j => (hb9.frozen (by show w7.heap.size < _; rw [HN8.out]; omega)).trans (HF8.out j)⟩
          by_cases hfull : kk = S
          · have hnf : h.next = (D : Int) + 1 + (S : Int) := by omega
            have hkn := fun w hT ha => pskip_none ⟨Z, D, S, gl, ga⟩ (aH HS) V Z cv z w hT ha (aH_in HS) hAH hps h hhz hnf
            have hmn := fun w hT ha => pmove_none ⟨Z, D, S, gl, ga⟩ (aH HS) V Z cv z ((m : Int) - 1) w hT ha (aH_in HS) hAH hpm h hhz hnf
            unfold aH Geo.v Anc.v noAncV at hkn hmn
            dsimp only at hkn hmn
            have HKN := hide hkn
            have HMN := hide hmn
            obtain ⟨_, p0, p1, p2, p3, p4⟩ := HP8.out.geo
            obtain ⟨q0, q1, q2, q3, q4, q5, q6⟩ := HP8.out.anc
            clear hkn hmn hps hpm hnf hhz
            go_upto_if 75 with fail
            go_cut [16] (fun u wx => u = .int .i64 10 ∧ Below w7.heap.size w7 wx)
            case first =>
              rcases Bool.eq_false_or_eq_true (t.z.tmod 3 == 0) with hkd | hkd
              · go_wp2_with fail
                refine (HKN.out _ (hT.below HP8.out.bel) HP8.out.read).mono ?_
                rintro e w9 ⟨rfl, hb9⟩
                obtain ⟨⟨y0, y1, y2, y3, y4, y5, y6⟩, hf9⟩ := hY9.out w9 hb9
                have f0 := hf9 0
                have f1 := hf9 1
                have f2 := hf9 2
                have f3 := hf9 3
                have f4 := hf9 4
                have f5 := hf9 5
                have f6 := hf9 6
                clear hf9
                go_wp2_with fail
                go_meet
                exact ⟨rfl, put7_below (th hE8 hb9) (Nat.le_refl _) _ _ _ _ _ _ _⟩
              · go_wp2_with fail
                refine (HMN.out _ (hT.below HP8.out.bel) HP8.out.read).mono ?_
                rintro e w9 ⟨rfl, hb9⟩
                obtain ⟨⟨y0, y1, y2, y3, y4, y5, y6⟩, hf9⟩ := hY9.out w9 hb9
                have f0 := hf9 0
                have f1 := hf9 1
                have f2 := hf9 2
                have f3 := hf9 3
                have f4 := hf9 4
                have f5 := hf9 5
                have f6 := hf9 6
                clear hf9
                go_wp2_with fail
                go_meet
                exact ⟨rfl, put7_below (th hE8 hb9) (Nat.le_refl _) _ _ _ _ _ _ _⟩
            case rest =>
              obtain ⟨rfl, hb9⟩ := hcut
              have HP9 := hide (HP7.out.on hb9)
              obtain ⟨_, p0, p1, p2, p3, p4⟩ := HP9.out.geo
              obtain ⟨hc9, _⟩ := HP9.out.had_at hzN hHad
              have g1 : (S : Int) ≤ (kk : Int) := by omega
              have g2 : decide (S ≤ kk) = true := by simp; omega
              go_upto_region 15 with fail
              go_quiet (fail)
              go_wp2_with fail
              go_roundw
              case rel => exact ⟨k + 1, _, _, _, by omega, by go_num, HOK, HP9.out.on (drewN_below _ _)⟩
              case measure => (first | omega | (simp [RowKit.intOf]; omega) | (unfold RowKit.intOf; simp; omega) | go_num)
          · have hlt7 : h.next < (D : Int) + 1 + (S : Int) := by omega
            have hsk := skip_ok HOK.out hhz hlt7
            have hmv := move_ok HGO.out HOK.out hhz hlt7 (metAt D m)
            rw [aH_skip] at hsk
            rw [aH_move] at hmv
            have hky := fun w hT ha => pskip_yes ⟨Z, D, S, gl, ga⟩ (aH HS) V Z cv z w hT ha (aH_in HS) hAH hps h hhz hlt7
            have hmy := fun w hT ha => pmove_yes ⟨Z, D, S, gl, ga⟩ (aH HS) V Z cv z (metAt D m) ((m : Int) - 1) w hT ha (aH_in HS) hAH hpm h hhz hat hlt7
            rw [aH_skip] at hky
            rw [aH_move] at hmy
            have HSK := hide hsk
            have HMV := hide hmv
            unfold aH Geo.v Anc.v at hky hmy
            dsimp only at hky hmy
            have HKY := hide hky
            have HMY := hide hmy
            have HNX := hide hnx
            obtain ⟨_, p0, p1, p2, p3, p4⟩ := HP8.out.geo
            obtain ⟨q0, q1, q2, q3, q4, q5, q6⟩ := HP8.out.anc
            clear hky hmy hps hpm hlt7 hhz hsk hmv hat hnx hpl
            go_upto_if 75 with fail
            go_cut [16] (Turned ⟨Z, D, S, gl, ga⟩ D Z z kk HS w7)
            case first =>
              rcases Bool.eq_false_or_eq_true (t.z.tmod 3 == 0) with hkd | hkd
              · go_wp2_with fail
                refine (HKY.out _ (hT.below HP8.out.bel) HP8.out.read).mono ?_
                rintro e w9 ⟨hb9, V9, c9, rfl, how9⟩
                have hs9 := how9.read
                obtain ⟨⟨y0, y1, y2, y3, y4, y5, y6⟩, hf9⟩ := hY9.out w9 hb9
                have hY : Sev w9 w7.heap.size (.int .i64 1) (.int .i64 0) (.int .i64 0) (.int .i64 1) (.int .i64 0) (.string ⟨#[]⟩) (.slice V Z cv) := ⟨y0, y1, y2, y3, y4, y5, y6⟩
                have HYY := hide hY
                have f0 := hf9 0
                have f1 := hf9 1
                have f2 := hf9 2
                have f3 := hf9 3
                have f4 := hf9 4
                have f5 := hf9 5
                have f6 := hf9 6
                clear hf9 hY
                go_wp2_with fail
                go_meet
                exact turned_mk (th hE8 hb9) HYY.out hs9 HN8.out HSK.out (by show h.next + 1 = _; rw [HNX.out]) (Nat.lt_of_lt_of_le (by rw [HN8.out]; omega) hb9.size)
              · go_wp2_with fail
                refine (HMY.out _ (hT.below HP8.out.bel) HP8.out.read).mono ?_
                rintro e w9 ⟨hb9, V9, c9, rfl, how9⟩
                have hs9 := how9.read
                obtain ⟨⟨y0, y1, y2, y3, y4, y5, y6⟩, hf9⟩ := hY9.out w9 hb9
                have hY : Sev w9 w7.heap.size (.int .i64 1) (.int .i64 0) (.int .i64 0) (.int .i64 1) (.int .i64 0) (.string ⟨#[]⟩) (.slice V Z cv) := ⟨y0, y1, y2, y3, y4, y5, y6⟩
                have HYY := hide hY
                have f0 := hf9 0
                have f1 := hf9 1
                have f2 := hf9 2
                have f3 := hf9 3
                have f4 := hf9 4
                have f5 := hf9 5
                have f6 := hf9 6
                clear hf9 hY
                go_wp2_with fail
                go_meet
                exact turned_mk (th hE8 hb9) HYY.out hs9 HN8.out HMV.out (by show h.next + 1 = _; rw [HNX.out]) (Nat.lt_of_lt_of_le (by rw [HN8.out]; omega) hb9.size)
            case rest =>
              obtain ⟨w9, hw9⟩ : ∃ w9, w9 = wc := ⟨_, rfl⟩
              subst hw9
              obtain ⟨rfl, hb9, V9, c9, h9, hS9, hs9, ho9, hn9, hsz9⟩ := hcut
              have HP9 := hide (HP7.out.on hb9)
              have HO9 := hide ho9
              have HS9 := hide hS9
              have hkS' : kk < S := by omega
              obtain ⟨qq, hqq⟩ : ∃ qq : Nat, S = kk + 1 + qq := ⟨S - (kk + 1), by omega⟩
              have hl9 : z < HS.length := by have := HP.out.homes.len; omega
              have hg9 : (HS.set z h9)[z]? = some h9 := List.getElem?_set_self hl9
              have hh9 := ho9.2.2.2 h9 (List.mem_of_getElem? hg9)
              have hpl9 : h9.places.length = D + 1 := by have := hh9.1; dsimp only at this; omega
              have hpo9 := hh9.2.2.2
              have hlt9 := aH_light HGO.out ho9
              have hsp := fun w hT ha => pspares_yes ⟨Z, D, S, gl, ga⟩ (aH (HS.set z h9)) V9 Z c9 z w hT ha (aH_in _) hlt9 ⟨HGO.out, ho9, ⟨by omega, hzl⟩, isP_par _⟩ h9 hg9
              have hpa := fun (j : Nat) (hj : j ≤ D) w hT ha => paddr_yes ⟨Z, D, S, gl, ga⟩ (aH (HS.set z h9)) V9 Z c9 z (metAt D j) ((j : Int) - 1) w hT ha (aH_in _) hlt9 ⟨HGO.out, ho9, ⟨by omega, hzl⟩, (isP_what HGO.out _).2 ⟨by omega, by show (j : Int) - 1 ≤ (D : Int) - 1; omega⟩⟩ h9 hg9 (metAt_at rfl) (plAt h9.places D j) (pl_at hpl9 hj)
              have hsl := fun w => gslot_yes ⟨Z, D, S, gl, ga⟩ HGO.out (z : Int) 0 ⟨by omega, by show (z : Int) ≤ (Z : Int) - 1; omega⟩ ⟨by omega, by show (0 : Int) ≤ (D : Int) + (S : Int); omega⟩ w
              have hrm := fun p => slot_room (g := ⟨Z, D, S, gl, ga⟩) HGO.out (z := (z : Int)) (by omega) hzl p
              have hpr := fun (j : Nat) (hj : j ≤ D) => pl_room hpo9 hpl9 hj
              have hma := fun (j : Nat) (hj : j ≤ D) (q : Nat) (hq : q < j) (x : Int) (hx : (metL ⟨Z, D, S, gl, ga⟩ z D h9.places j)[q]? = some x) => met_apart hpo9 hpl9 hq hj hx
              have hqe : (D : Int) + 1 + (S : Int) - h9.next = (qq : Int) := by omega
              have hpn : h9.next - 1 ≤ (D : Int) + (S : Int) := by omega
              unfold aH Geo.v Anc.v at hsp hpa
              unfold Geo.v at hsl
              dsimp only at hsp hpa hsl
              rw [hqe] at hsp
              have HSP := hide hsp
              have HPA := hide hpa
              have HSL := hide hsl
              have HRM := hide hrm
              have HPR := hide hpr
              have HMA := hide hma
              have HQQ := hide hqq
              obtain ⟨_, p0, p1, p2, p3, p4⟩ := HP9.out.geo
              obtain ⟨hc9, _⟩ := HP9.out.had_at hzN hHad
              have g1 : ¬ (S : Int) ≤ (kk : Int) := by omega
              have g2 : decide (S ≤ kk) = false := by simp; omega
              have HX9 := hide (show (hadL D HS).set z ((kk : Int) + 1) = hadL D (HS.set z h9) by rw [had_put]; congr 1; omega)
              clear hsp hpa hsl hrm hpr hma hqe hh9 hpo9 hlt9 hg9 hl9 ho9 hS9 hqq
              go_upto_region 15 with fail
              go_cut [98] (fun u wx => u = .bool false ∧ Below w9.heap.size w9 wx)
              case first =>
                go_quiet (fail)
                go_wp2_with fail
                go_meet
                exact ⟨rfl, drewN_below _ _⟩
              case rest =>
                obtain ⟨w10, hw10⟩ : ∃ w10, w10 = wc := ⟨_, rfl⟩
                subst hw10
                obtain ⟨rfl, hb10⟩ := hcut
                have HP10 := hide (HP9.out.on hb10)
                obtain ⟨hc10, hf10⟩ := HP10.out.had_at hzN hHad
                have ik1 : InI ((kk : Int) + 1) := ⟨by omega, by omega⟩
                obtain ⟨W11, hW11⟩ : ∃ W11, W11 = w10.setCell ⟨Na + 1, z, none⟩ (.int .i64 ((kk : Int) + 1)) := ⟨_, rfl⟩
                have hP11 := HP10.out.put hzN ik1
                rw [← hW11, HX9.out] at hP11
                have HP11 := hide hP11
                have hng := HP10.out.ng
                have hs11 := (hs9.new_on homR_fine hb10).new_set homR_fine ⟨Na + 1, z, none⟩ (.int .i64 ((kk : Int) + 1)) (by show Na + 1 < w7.heap.size + 1; have := HP7.out.ng; omega)
                have hS11 := sev_other (N := w7.heap.size) (M := Na + 1) (k := z) (v := .int .i64 ((kk : Int) + 1)) (by have := HP7.out.ng; omega) (HS9.out.on hsz9 hb10)
                rw [← hW11] at hs11 hS11
                have hN11 : w7.heap.size < W11.heap.size := by rw [hW11, set_size]; exact Nat.lt_of_lt_of_le hsz9 hb10.size
                have HS11 := hide hS11
                have hHad1 : (hadL D (HS.set z h9))[z]? = some ((kk : Int) + 1) := by
                  rw [← HX9.out]
                  exact List.getElem?_set_self (by have := (List.getElem?_eq_some_iff.1 hHad).1; exact this)
                have hgq := HP11.out.geo.2
                rw [hW11] at hgq hS11
                obtain ⟨p0, p1, p2, p3, p4⟩ := hgq
                obtain ⟨q0, q1, q2, q3, q4, q5, q6⟩ := hS11
                clear hP11 hng hHad
                go_wp2_with fail
                rw [← hW11]
                clear p0 p1 p2 p3 p4 q0 q1 q2 q3 q4 q5 q6 hW11 hc10 hf10 hc9
                refine (HSP.out _ (hT.below HP11.out.bel) (hs11.old_ homR_fine)).mono ?_
                rintro e w12 ⟨rfl, hb12⟩
                have HP12 := hide (HP11.out.on hb12)
                obtain ⟨_, p0, p1, p2, p3, p4⟩ := HP12.out.geo
                obtain ⟨hc12, _⟩ := HP12.out.had_at hzN hHad1
                have sb : IntKind.i64.wrap ((S : Int) - ((kk : Int) + 1)) = (qq : Int) := by have := HQQ.out; rw [IntWalk.i64_in _ (by omega)]; omega
                go_upto_region 20 with fail
                go_cut [130] (fun u wx => u = .bool false ∧ Below w12.heap.size w12 wx)
                case first =>
                  go_quiet (fail)
                  go_wp2_with fail
                  go_meet
                  exact ⟨rfl, drewN_below _ _⟩
                case rest =>
                  obtain ⟨w13, hw13⟩ : ∃ w13, w13 = wc := ⟨_, rfl⟩
                  subst hw13
                  obtain ⟨rfl, hb13⟩ := hcut
                  have hb113 := th hb12 hb13
                  have HP13 := hide (HP12.out.on hb13)
                  have hs13 := hs11.new_on homR_fine hb113
                  obtain ⟨W14, hW14⟩ : ∃ W14, W14 = put7 w13 Na (.int .i64 1) (.int .i64 0) (.int .i64 0) (.int .i64 1) (.int .i64 0) (.string ⟨#[]⟩) (.slice V9 Z c9) := ⟨_, rfl⟩
                  have hP14 := HP13.out.take hs13 (by have := HP7.out.ng; omega)
                  rw [← hW14] at hP14
                  have HP14 := hide hP14
                  obtain ⟨q0, q1, q2, q3, q4, q5, q6⟩ := HS11.out.on hN11 hb113
                  obtain ⟨r0, r1, r2, r3, r4, r5, r6⟩ := HP13.out.anc
                  have f0 := HP13.out.free 0
                  have f1 := HP13.out.free 1
                  have f2 := HP13.out.free 2
                  have f3 := HP13.out.free 3
                  have f4 := HP13.out.free 4
                  have f5 := HP13.out.free 5
                  have f6 := HP13.out.free 6
                  unfold put7 at hW14
                  clear hP14 hc12 p0 p1 p2 p3 p4 sb
                  go_upto_region 23 with fail
                  rw [← hW14]
                  clear q0 q1 q2 q3 q4 q5 q6 r0 r1 r2 r3 r4 r5 r6 f0 f1 f2 f3 f4 f5 f6 hW14
                  go_wp2_with fail
                  go_loopw [19, 20] (fun v i wr2 => ∃ j Vm cm, j ≤ D + 1 ∧ i = .int .i64 (((j : Nat) : Int) - 1) ∧ v = .slice Vm j cm ∧ Ow intR 1 wr2 W14.heap.size 0 3 (.slice Vm j cm) j (metL ⟨Z, D, S, gl, ga⟩ z D h9.places j) ∧ Below W14.heap.size W14 wr2) (fun _ i _ => D + 1 - (RowKit.intOf i + 1).toNat)
                  case atStart => exact ⟨0, none, 0, Nat.zero_le _, rfl, rfl, Ow.nil_ _ _ _ _, Below.refl _ _⟩
                  case round =>
                    obtain ⟨j, Vm, cm, hj, rfl, rfl, hom, hbm⟩ := hrel
                    have HPm := hide (HP14.out.on hbm)
                    obtain ⟨_, p0, p1, p2, p3, p4⟩ := HPm.out.geo
                    by_cases hjl : j ≤ D
                    · have hjI : (j : Int) - 1 < (D : Int) := by omega
                      obtain ⟨hlo0, hlo1, hsum⟩ := HRM.out (plAt h9.places D j)
                      have hpr := HPR.out j hjl
                      have hpa := HPA.out j hjl
                      have hsl := HSL.out
                      obtain ⟨lo, hlo⟩ : ∃ lo, lo = slotN ⟨Z, D, S, gl, ga⟩ (z : Int) 0 := ⟨_, rfl⟩
                      obtain ⟨Xv, hXv⟩ : ∃ Xv, Xv = slotN ⟨Z, D, S, gl, ga⟩ (z : Int) (plAt h9.places D j) := ⟨_, rfl⟩
                      have hmx := HMA.out j hjl
                      have hms := met_succ ⟨Z, D, S, gl, ga⟩ (z : Int) D h9.places j
                      rw [← hXv] at hpa hsum hmx hms
                      rw [← hlo] at hsl hsum hlo0 hlo1
                      have b1 : ¬ Xv < lo := by omega
                      have b2 : ¬ lo + (D : Int) + (S : Int) < Xv := by omega
                      have HPJ := hide hpa
                      have HSJ := hide hsl
                      have HMX := hide hmx
                      have HMS := hide hms
                      have hXb : InI Xv := ⟨by omega, by omega⟩
                      obtain ⟨q0, q1, q2, q3, q4, q5, q6⟩ := HPm.out.anc
                      clear hpa hsl hmx hms hsum hlo hXv hpr
                      go_wp2_with fail
                      with_reducible refine (HPJ.out _ (hT.below HPm.out.bel) HPm.out.read).mono ?_
                      rintro e w15 ⟨rfl, hb15⟩
                      have HP15 := hide (HPm.out.on hb15)
                      obtain ⟨_, p0, p1, p2, p3, p4⟩ := HP15.out.geo
                      go_wp2_with fail
                      with_reducible refine (HSJ.out _).mono ?_
                      rintro e w16 ⟨rfl, hb16⟩
                      have HP16 := hide (HP15.out.on hb16)
                      obtain ⟨_, p0, p1, p2, p3, p4⟩ := HP16.out.geo
                      have hom16 := (hom.below intR_fine hb15).below intR_fine hb16
                      have hbm16 := th hbm (th hb15 hb16)
                      clear q0 q1 q2 q3 q4 q5 q6
                      go_wp2_with fail
                      go_loop [25] (fun q => ∃ q' : Nat, q' ≤ j ∧ q = .int .i64 q') (fun q => j - (RowKit.intOf q).toNat)
                      case atStart => exact ⟨0, Nat.zero_le _, rfl⟩
                      case round =>
                        obtain ⟨q, hq, rfl⟩ := hrel
                        by_cases hql : q < j
                        · obtain ⟨md, y, rfl, _, hy, iy, hyc⟩ := at_int (hom16.read intR_fine) hql
                          have hyx := HMX.out q hql y hy
                          have e1 : (y == Xv) = false := by simpa using hyx
                          clear hy hyx
                          go_wp2_with fail
                          go_round
                          case rel => exact ⟨q + 1, by omega, by go_num⟩
                          case measure => (first | omega | (simp [RowKit.intOf]; omega) | (unfold RowKit.intOf; simp; omega) | go_num)
                        · obtain rfl : q = j := by omega
                          have hE17 := alloc_below w16 (.cells #[.int .i64 Xv] 3)
                          have hoE := hom16.below intR_fine hE17
                          have hbE := th hbm16 hE17
                          have hsE : W14.heap.size ≤ (w16.alloc (.cells #[.int .i64 Xv] 3)).heap.size := hbE.size
                          have hlit : Sl intR 1 (w16.alloc (.cells #[.int .i64 Xv] 3)) (Old (w16.alloc (.cells #[.int .i64 Xv] 3))) (some ⟨w16.heap.size, 0, none⟩) 1 1 [Xv] := lit_plain (R := intR) ⟨rfl, hXb⟩ (by show w16.heap.size < _; simp)
                          go_wp2_with (at_builtin; refine wpList_append_ow _ rfl (.tmp 186) (.tmp 188) _ rfl intR_fine W14.heap.size 0 3 i0 _ 8 Tryd.underlying30 hi0 hz0 hz1 hz2 rfl (by omega) (.slice Vm q cm) q _ rfl hoE _ _ 1 1 _ rfl hlit (fun _ _ _ h => h) (by simp only [maxLen]; omega) (by omega) hsE ?_; intro V17 w17 ho17 hg17 hat17; obtain ⟨A17, c17, rfl⟩ := ho17.form; have hb17 := hbE.trans (below_grown hg17 hoE.lt hsE))
                          rw [← HMS.out] at ho17
                          go_roundw
                          case rel => exact ⟨q + 1, A17, c17, by omega, by go_num, rfl, ho17, hb17⟩
                          case measure => (first | omega | (simp [RowKit.intOf]; omega) | (unfold RowKit.intOf; simp; omega) | go_num)
                    · obtain rfl : j = D + 1 := by omega
                      have hjI : ¬ (((D + 1 : Nat) : Int) - 1 < (D : Int)) := by omega
                      go_wp2_with fail
                      go_roundw
                      case rel => exact ⟨k + 1, _, _, _, by omega, by go_num, HO9, HPm.out⟩
                      case measure => (first | omega | (simp [RowKit.intOf]; omega) | (unfold RowKit.intOf; simp; omega) | go_num)
    · obtain rfl : k = n := by omega
      go_wp2_with fail
      refine (wakes11 _ (hT.below HP.out.bel)).mono ?_
      rintro e w6 ⟨rfl, hb6⟩
      go_wp2_with fail
      go_ret
      exact ⟨rfl, th HP.out.bel hb6⟩

end Go.Proofs.YtjlppkbmapmbiaaDoor
