/-
  The walk of casematelaw08.AnchorSizes.
-/
import Derived.Test.YtamgpbkakmffiaaDoorAncL1
import Derived.Test.YtamgpbkakmffiaaDoorAncA
import Derived.Test.YtamgpbkakmffiaaDoorRefP
namespace Go.Proofs.YtamgpbkakmffiaaDoor
open Go.RowKit Go.Lib
set_option linter.unusedVariables false
set_option maxRecDepth 100000

set_option maxHeartbeats 4000000 in
theorem walk_anchorSizes {w : World} (hT : Tabs w) (g : Geo) (a : Anc) (A : Option Addr) (n c : Nat) (ha : Sl homR 3 w (Old w) A n c a.homes) (hin : a.In) :
    Calls Tryd.prog 10 #[g.v, a.v (.slice A n c)] w fun e w' => e = .returned (.bool true) ∧ Below w.heap.size w w' := by
  have hlen := ha.len
  have hhv := fun w h => heavya_any a A n c w h
  have hge := fun w => rgeo_any g w
  have hra := fun hG hl w h => ranchor_any g hG a A n c w h hin hl
  have hby := fun hG ho hl w hT h => abytes_yes (g := g) (a := a) hG ho (A := A) (n := n) (c := c) (w := w) hT h hin hl
  have hfr := fun hG h => anc_front (g := g) (a := a) hG h
  have hsz := fun hG h => anc_size (g := g) (a := a) hG h
  have hrt := fun (x : Hom) (m : Nat) (h : AncOk g a) hm hx => anc_root (g := g) (a := a) (x := x) (m := m) h hm hx
  have hla := anc_labAt a
  have hlt := fun (h : heavyA a = false) => heavyA_no h
  have hli := fun (h : heavyA a = false) => heavyA_light h
  have hhz : AncOk g a → (a.homes.length : Int) = g.zones := fun h => h.2.2.1
  have h24 : AncOk g a → a.label.size ≤ 24 := fun h => by have := lab_len h.2.1; rwa [sL_len] at this
  obtain ⟨H, hH⟩ : ∃ H, H = heavyA a := ⟨_, rfl⟩
  obtain ⟨Gb, hGb⟩ : ∃ Gb, Gb = decide (GeoOk g) := ⟨_, rfl⟩
  obtain ⟨Rb, hRb⟩ : ∃ Rb, Rb = decide (AncOk g a) := ⟨_, rfl⟩
  rw [← hH] at hhv
  rw [← hGb] at hge
  rw [← hRb] at hra
  rw [← hH] at hlt hli
  obtain ⟨W0, hW0⟩ : ∃ W0, W0 = (w.alloc (.cells #[.int .i64 g.zones, .int .i64 g.data, .int .i64 g.spares, .int .i64 g.slots, .int .i64 g.anchors] 23)).alloc (.cells #[.int .i64 a.gen, .int .i64 a.epoch, .int .i64 a.pos, .int .i64 a.seq, .int .i64 a.last, .string a.label, .slice A n c] 26) := ⟨_, rfl⟩
  have hb0 : Below w.heap.size w W0 := by rw [hW0]; exact (alloc_below w _).alloc (by simp) _
  have ha0 := ha.on homR_fine hb0
  have hgb : GeoAt W0 w.heap.size g := by rw [hW0]; exact (GeoAt.new w g 23).on (alloc_below _ _)
  have hsv : Sev W0 (w.heap.size + 1) (.int .i64 a.gen) (.int .i64 a.epoch) (.int .i64 a.pos) (.int .i64 a.seq) (.int .i64 a.last) (.string a.label) (.slice A n c) := by rw [hW0]; exact Sev.new (by simp) (Below.refl _ _)
  have hN1 : w.heap.size + 1 < W0.heap.size := by rw [hW0]; simp
  have HSV := hide hsv
  have HGB := hide hgb
  have hpq := hgb.2
  rw [hW0] at hpq hsv
  obtain ⟨p0, p1, p2, p3, p4⟩ := hpq
  obtain ⟨q0, q1, q2, q3, q4, q5, q6⟩ := hsv
  unfold Geo.v Anc.v at *
  have HHV := hide hhv
  have HGE := hide hge
  have HRA := hide hra
  have HBY := hide hby
  have HGD := hide hGb
  have HRD := hide hRb
  have HFR := hide hfr
  have HSZ := hide hsz
  have HRT := hide hrt
  have HLA := hide hla
  have HLT := hide hlt
  have HLI := hide hli
  have HHZ := hide hhz
  have H24 := hide h24
  have HLEN := hide hlen
  clear hhv hge hra hby hGb hRb hfr hsz hrt hla hlt hli hhz h24 hlen hH hgb
  cases H with
  | true =>
    go_enter Tryd.func10, Tryd.ntmps10
    go_wp2_with fail
    rw [← hW0]
    refine (HHV.out _ ha0).mono ?_
    rintro e w1 ⟨rfl, hb1⟩
    go_wp2_with fail
    go_ret
    exact ⟨rfl, th hb0 hb1⟩
  | false =>
    cases Gb with
    | false =>
      go_enter Tryd.func10, Tryd.ntmps10
      go_wp2_with fail
      rw [← hW0]
      refine (HHV.out _ ha0).mono ?_
      rintro e w1 ⟨rfl, hb1⟩
      obtain ⟨_, p0, p1, p2, p3, p4⟩ := HGB.out.on hb1
      go_wp2_with fail
      refine (HGE.out _).mono ?_
      rintro e w2 ⟨rfl, hb2⟩
      go_wp2_with fail
      go_ret
      exact ⟨rfl, th hb0 (th hb1 hb2)⟩
    | true =>
      have hG : GeoOk g := of_decide_eq_true HGD.out.symm
      have HGO := hide hG
      have HL := hide (HLI.out rfl)
      clear hG
      cases Rb with
      | false =>
        go_enter Tryd.func10, Tryd.ntmps10
        go_wp2_with fail
        rw [← hW0]
        refine (HHV.out _ ha0).mono ?_
        rintro e w1 ⟨rfl, hb1⟩
        obtain ⟨_, p0, p1, p2, p3, p4⟩ := HGB.out.on hb1
        go_wp2_with fail
        refine (HGE.out _).mono ?_
        rintro e w2 ⟨rfl, hb2⟩
        obtain ⟨_, p0, p1, p2, p3, p4⟩ := HGB.out.on (th hb1 hb2)
        obtain ⟨q0, q1, q2, q3, q4, q5, q6⟩ := HSV.out.onB hN1 (th hb1 hb2)
        go_wp2_with fail
        refine (HRA.out HGO.out HL.out _ (ha0.on homR_fine (th hb1 hb2))).mono ?_
        rintro e w3 ⟨rfl, hb3⟩
        go_wp2_with fail
        go_ret
        exact ⟨rfl, th hb0 (th hb1 (th hb2 hb3))⟩
      | true =>
        have HOK : Hid (AncOk g a) := hide (of_decide_eq_true HRD.out.symm)
        obtain ⟨⟨z1, z4⟩, ⟨d1, d4⟩, _⟩ := id HGO.out
        obtain ⟨M, hM⟩ : ∃ M, M = g.zones * (g.data + 6) := ⟨_, rfl⟩
        have hMb : 7 ≤ M ∧ M ≤ 40 := by
          rcases (show g.zones = 1 ∨ g.zones = 2 ∨ g.zones = 3 ∨ g.zones = 4 by omega) with h | h | h | h <;> rw [hM, h] <;> omega
        have hmul : IntKind.i64.wrap (g.zones * (g.data + 6)) = M := by rw [← hM]; exact IntWalk.i64_in M (by omega)
        obtain ⟨L, hL⟩ : ∃ L, L = (ancL a).length := ⟨_, rfl⟩
        have hLM : (L : Int) = 18 + a.label.size + M := by rw [hL, hM]; exact HSZ.out HGO.out HOK.out
        have h24 := H24.out HOK.out
        have hne : ((L : Int) != 18 + (a.label.size : Int) + M) = false := by rw [hLM]; simp
        have hby1 := HBY.out HGO.out HOK.out HL.out
        rw [← hL] at hby1
        have HBY1 := hide hby1
        have HLL := hide hL
        have HM := hide hM
        clear hby1 hL hM
        go_enter Tryd.func10, Tryd.ntmps10
        go_wp2_with fail
        rw [← hW0]
        refine (HHV.out _ ha0).mono ?_
        rintro e w1 ⟨rfl, hb1⟩
        obtain ⟨_, p0, p1, p2, p3, p4⟩ := HGB.out.on hb1
        go_wp2_with fail
        refine (HGE.out _).mono ?_
        rintro e w2 ⟨rfl, hb2⟩
        obtain ⟨_, p0, p1, p2, p3, p4⟩ := HGB.out.on (th hb1 hb2)
        obtain ⟨q0, q1, q2, q3, q4, q5, q6⟩ := HSV.out.onB hN1 (th hb1 hb2)
        go_wp2_with fail
        refine (HRA.out HGO.out HL.out _ (ha0.on homR_fine (th hb1 hb2))).mono ?_
        rintro e w3 ⟨rfl, hb3⟩
        have hb03 := th hb1 (th hb2 hb3)
        obtain ⟨_, p0, p1, p2, p3, p4⟩ := HGB.out.on hb03
        obtain ⟨q0, q1, q2, q3, q4, q5, q6⟩ := HSV.out.onB hN1 hb03
        go_wp2_with fail
        refine (HBY1.out _ (hT.below (th hb0 hb03)) (ha0.on homR_fine hb03)).mono ?_
        rintro e w4 ⟨hb4, V, cv, rfl, ho4⟩
        have hb04 := th hb03 hb4
        obtain ⟨_, p0, p1, p2, p3, p4⟩ := HGB.out.on hb04
        obtain ⟨q0, q1, q2, q3, q4, q5, q6⟩ := HSV.out.onB hN1 hb04
        go_upto_region 6 with fail
        obtain ⟨f1, f2, f3, f4, f5⟩ := HFR.out HGO.out HOK.out
        have hbs := ho4.read byteR_fine
        have hcap := hbs.cap
        have hlL : (ancL a).length = L := HLL.out.symm
        obtain ⟨q, hq⟩ : ∃ q : Nat, L = q + 4 := ⟨L - 4, by omega⟩
        have hsub : IntKind.i64.wrap ((L : Int) - 4) = (q : Int) := (IntWalk.i64_in _ (by omega)).trans (by omega)
        obtain ⟨vd, x16, rfl, hvdl, hx16, hc16⟩ := at_byte hbs (show 16 < L by omega)
        obtain ⟨vd', x17, e17, _, hx17, hc17⟩ := at_byte hbs (show 17 < L by omega)
        injection e17 with e17
        subst e17
        have v17 : (x17.toNat : Int) = a.label.size := by
          have := HLA.out
          rw [hx17] at this
          injection this with this
          rw [this, UInt8.toNat_ofNat']
          omega
        have v16 : (x16.toNat : Int) = a.pos := by
          rw [f5, take_one (show 16 < (ancL a).length by omega), num_one]
          have h16 := hx16
          rw [List.getElem?_eq_getElem (show 16 < (ancL a).length by omega)] at h16
          injection h16 with h16
          rw [h16]
        have W16 : IntKind.i64.wrap a.pos = a.pos := by rw [← v16]; exact IntWalk.i64_in _ (by have := x16.toNat_lt; omega)
        have W17 : IntKind.i64.wrap (a.label.size : Int) = a.label.size := IntWalk.i64_in _ (by omega)
        rw [v16] at hc16
        rw [v17] at hc17
        obtain ⟨m, hm⟩ : ∃ m : Nat, n = m + 1 := ⟨n - 1, by have := HHZ.out HOK.out; have := HLEN.out; omega⟩
        have hzm : IntKind.i64.wrap (g.zones - 1) = (m : Int) := (IntWalk.i64_in _ (by omega)).trans (by have := HHZ.out HOK.out; have := HLEN.out; omega)
        subst hm
        obtain ⟨ad, x, A', m', c', rfl, hadl, hx, _, _, _, d0, d1, d2⟩ := at_hom (ha0.on homR_fine hb04) (show m < m + 1 by omega)
        have d2' : w4.cell? ⟨(ad.add (m * 3)).block, (ad.add (m * 3)).off + 2, none⟩ = some (.int .i64 x.root) := d2
        have f6 := (HRT.out x m HOK.out HLEN.out hx).2
        rw [hlL, show L - 4 = q by omega] at f6
        have r4 := rest1 hbs (i := 4) (by omega) (by omega)
        have r8 := rest1 hbs (i := 8) (by omega) (by omega)
        have r12 := rest1 hbs (i := 12) (by omega) (by omega)
        have rq := rest1 hbs (i := q) (by omega) (by omega)
        simp only [Option.map_some] at r4 r8 r12 rq
        have vadd : ∀ k : Nat, k ≠ 0 → vd.add k = ⟨vd.block, vd.off + k, none⟩ := fun k hk => by unfold Addr.add; rw [if_neg hk]
        have mv : ∀ {A n c l}, Bs w4 A n c l → ∀ W, Below w4.heap.size w4 W → Bs W A n c l := fun h W hW => h.on byteR_fine hW
        have G0 : Hid (∀ W, Below w4.heap.size w4 W → Calls Tryd.prog 43 #[.slice (some vd) L cv, .int .i64 4] W fun e w' => e = .returned (.int .i64 a.gen) ∧ W = w') := hide fun W hW => by rw [f1]; exact rget_any (mv hbs W hW) 4 (by omega) (by omega)
        have G4 : Hid (∀ W, Below w4.heap.size w4 W → Calls Tryd.prog 43 #[.slice (some ⟨vd.block, vd.off + 4, none⟩) (L - 4) (cv - 4), .int .i64 4] W fun e w' => e = .returned (.int .i64 a.epoch) ∧ W = w') := hide fun W hW => by rw [f2, ← vadd 4 (by omega)]; exact rget_any (mv r4 W hW) 4 (by omega) (by omega)
        have G8 : Hid (∀ W, Below w4.heap.size w4 W → Calls Tryd.prog 43 #[.slice (some ⟨vd.block, vd.off + 8, none⟩) (L - 8) (cv - 8), .int .i64 4] W fun e w' => e = .returned (.int .i64 a.seq) ∧ W = w') := hide fun W hW => by rw [f3, ← vadd 8 (by omega)]; exact rget_any (mv r8 W hW) 4 (by omega) (by omega)
        have G12 : Hid (∀ W, Below w4.heap.size w4 W → Calls Tryd.prog 43 #[.slice (some ⟨vd.block, vd.off + 12, none⟩) (L - 12) (cv - 12), .int .i64 4] W fun e w' => e = .returned (.int .i64 a.last) ∧ W = w') := hide fun W hW => by rw [f4, ← vadd 12 (by omega)]; exact rget_any (mv r12 W hW) 4 (by omega) (by omega)
        have GQ : Hid (∀ W, Below w4.heap.size w4 W → Calls Tryd.prog 43 #[.slice (some ⟨vd.block, vd.off + q, none⟩) (L - q) (cv - q), .int .i64 4] W fun e w' => e = .returned (.int .i64 x.root) ∧ W = w') := hide fun W hW => by rw [← f6, ← vadd q (by omega)]; exact rget_any (mv rq W hW) 4 (by omega) (by omega)
        have GQ2 : Hid (∀ W, Below w4.heap.size w4 W → Calls Tryd.prog 43 #[.slice (some (vd.add q)) (L - q) (cv - q), .int .i64 4] W fun e w' => e = .returned (.int .i64 x.root) ∧ W = w') := hide fun W hW => by rw [vadd q (by omega)]; exact GQ.out W hW
        have HW8 : Hid (∀ W, Below w4.heap.size w4 W → Calls Tryd.prog 37 #[] W fun e w' => e = .returned (.bool true) ∧ Below W.heap.size W w') := hide fun W hW => wakes08 _ (hT.below (th hb0 (th hb04 hW)))
        have ablk : (ad.add (m * 3)).block = ad.block := by unfold Addr.add; split <;> rfl
        have HS : Hid (∀ W, Below w4.heap.size w4 W → (W.cell? ⟨w.heap.size + 1, 0, none⟩ = some (.int .i64 a.gen) ∧ W.cell? ⟨w.heap.size + 1, 1, none⟩ = some (.int .i64 a.epoch) ∧ W.cell? ⟨w.heap.size + 1, 2, none⟩ = some (.int .i64 a.pos) ∧ W.cell? ⟨w.heap.size + 1, 3, none⟩ = some (.int .i64 a.seq) ∧ W.cell? ⟨w.heap.size + 1, 4, none⟩ = some (.int .i64 a.last) ∧ W.cell? ⟨w.heap.size + 1, 5, none⟩ = some (.string a.label) ∧ W.cell? ⟨w.heap.size + 1, 6, none⟩ = some (.slice (some ad) (m + 1) c) ∧ W.cell? ⟨w.heap.size, 0, none⟩ = some (.int .i64 g.zones) ∧ W.cell? ⟨vd.block, vd.off + 16, none⟩ = some (.int .u8 a.pos) ∧ W.cell? ⟨vd.block, vd.off + 17, none⟩ = some (.int .u8 a.label.size) ∧ W.cell? ⟨(ad.add (m * 3)).block, (ad.add (m * 3)).off + 2, none⟩ = some (.int .i64 x.root))) := hide fun W hW => by
          have hWW := th hb04 hW
          obtain ⟨s0, s1, s2, s3, s4, s5, s6⟩ := HSV.out.onB hN1 hWW
          obtain ⟨_, t0, _⟩ := HGB.out.on hWW
          exact ⟨s0, s1, s2, s3, s4, s5, s6, t0, (by rw [← vadd 16 (by omega)]; exact below_cell hW hvdl hc16), (by rw [← vadd 17 (by omega)]; exact below_cell hW hvdl hc17), (hW.cell (p := ⟨(ad.add (m * 3)).block, (ad.add (m * 3)).off + 2, none⟩) (by show (ad.add (m * 3)).block < _; rw [ablk]; exact hadl)).trans d2'⟩
        have hcur := Below.refl w4.heap.size w4
        clear ablk vadd mv f1 f2 f3 f4 f5 f6 r4 r8 r12 rq hx16 hx17 v16 v17 hx hlL d0 d1
        have B0 : (4 : Int) ≤ (L : Int) := by omega
        have B1 : (8 : Int) ≤ (L : Int) := by omega
        have B2 : (12 : Int) ≤ (L : Int) := by omega
        have B3 : (16 : Int) < (L : Int) := by omega
        have B4 : (17 : Int) < (L : Int) := by omega
        have B5 : (L : Int) ≤ (cv : Int) := by omega
        have B6 : (q : Int) ≤ (L : Int) := by omega
        have B7 : (0 : Int) ≤ (q : Int) := by omega
        have I0 : (0 : Int) ≤ (m : Int) := by omega
        have I1 : (m : Int) < (m : Int) + 1 := by omega
        have I2 : (m : Int) < ((m + 1 : Nat) : Int) := by omega
        have C4 : cv ≠ 4 := by omega
        have C8 : cv ≠ 8 := by omega
        have C12 : cv ≠ 12 := by omega
        have CQ : cv ≠ q := by omega
        have Q0 : q ≠ 0 := by omega
        have HQ := hide hq
        have HLM := hide hLM
        clear hq hLM hne hmul hMb h24
        dsimp only [List.append]
        go_region_held3 (fun W => (W.cell? ⟨w.heap.size + 1, 0, none⟩ = some (.int .i64 a.gen) ∧ W.cell? ⟨w.heap.size + 1, 1, none⟩ = some (.int .i64 a.epoch) ∧ W.cell? ⟨w.heap.size + 1, 2, none⟩ = some (.int .i64 a.pos) ∧ W.cell? ⟨w.heap.size + 1, 3, none⟩ = some (.int .i64 a.seq) ∧ W.cell? ⟨w.heap.size + 1, 4, none⟩ = some (.int .i64 a.last) ∧ W.cell? ⟨w.heap.size + 1, 5, none⟩ = some (.string a.label) ∧ W.cell? ⟨w.heap.size + 1, 6, none⟩ = some (.slice (some ad) (m + 1) c) ∧ W.cell? ⟨w.heap.size, 0, none⟩ = some (.int .i64 g.zones) ∧ W.cell? ⟨vd.block, vd.off + 16, none⟩ = some (.int .u8 a.pos) ∧ W.cell? ⟨vd.block, vd.off + 17, none⟩ = some (.int .u8 a.label.size) ∧ W.cell? ⟨(ad.add (m * 3)).block, (ad.add (m * 3)).off + 2, none⟩ = some (.int .i64 x.root))) (first | exact HS.out _ hcur | exact HS.out _ hcur.drew) (first
          | ((with_reducible refine (G0.out _ (by first | exact hcur | exact hcur.drew)).mono ?_); rintro e w5 ⟨rfl, rfl⟩)
          | ((with_reducible refine (G4.out _ (by first | exact hcur | exact hcur.drew)).mono ?_); rintro e w5 ⟨rfl, rfl⟩)
          | ((with_reducible refine (G8.out _ (by first | exact hcur | exact hcur.drew)).mono ?_); rintro e w5 ⟨rfl, rfl⟩)
          | ((with_reducible refine (G12.out _ (by first | exact hcur | exact hcur.drew)).mono ?_); rintro e w5 ⟨rfl, rfl⟩)
          | ((with_reducible refine (GQ.out _ (by first | exact hcur | exact hcur.drew)).mono ?_); rintro e w5 ⟨rfl, rfl⟩)
          | ((with_reducible refine (GQ2.out _ (by first | exact hcur | exact hcur.drew)).mono ?_); rintro e w5 ⟨rfl, rfl⟩)
          | ((with_reducible refine (HW8.out _ (by first | exact hcur | exact hcur.drew)).mono ?_); rintro e w5 ⟨rfl, hz⟩; have hcur := th (by first | exact hcur | exact hcur.drew) hz))
        all_goals (go_wp2_with fail; go_ret; exact ⟨rfl, th hb0 (th hb04 (by first | exact hcur | exact hcur.drew))⟩)

theorem law_anchorSizes {w : World} (hT : Tabs w) {v0 v1 : Value} {g : Geo} {a : Anc} (hg : ArgR geoR w v0 g) (ha : ArgR ancR w v1 a) :
    Calls Tryd.prog 10 #[v0, v1] w fun e w' => e = .returned (.bool true) ∧ Below w.heap.size w w' := by
  obtain ⟨rfl, _⟩ := geo_form hg
  obtain ⟨A, n, c, rfl, hin, hs⟩ := anc_form ha
  exact walk_anchorSizes hT g a A n c hs hin

end Go.Proofs.YtamgpbkakmffiaaDoor
