/-
  The walk of casematelaw08.AnchorOthers.
-/
import Derived.Test.YtamgpbkakmffiaaDoorAncL1
import Derived.Test.YtamgpbkakmffiaaDoorAncA
import Derived.Test.YtamgpbkakmffiaaDoorAncP
namespace Go.Proofs.YtamgpbkakmffiaaDoor
open Go.RowKit Go.Lib
set_option linter.unusedVariables false
set_option maxRecDepth 100000

/-- Reading an anchor's bytes in another geometry. -/
theorem aread_other {g h : Geo} {a : Anc} (hG : GeoOk g) (hH : GeoOk h) (ho : AncOk g a) {A : Option Addr} {n c : Nat} {w : World} (hT : Tabs w) (hb : Bs w A n c (ancL a)) (hn : n ≤ 60000) :
    Calls Tryd.prog 35 #[h.v, .slice A n c] w fun e w' => Below w.heap.size w w' ∧ ∃ r V m cv err, e = .returned (.tuple #[r.v (.slice V m cv), .int .i64 err]) ∧ Sl homR 3 w' (New w.heap.size w') V m cv r.homes ∧ ((err = 0 ∧ (r = a ↔ AncOk h a) ∧ m ≤ 65536 ∧ ∀ x ∈ r.homes, x.places.length ≤ 65536) ∨ (err = 4 ∧ ¬ AncOk h a)) := by
  refine (aread_any h A n c _ w hT hb hn).mono ?_
  rintro e w' ⟨hbl, r, v, err, rfl, ⟨V, m, cv, rfl, hsl⟩, ⟨h1, _⟩ | ⟨_, h1, h2, rfl⟩ | ⟨_, h1, rfl, h3⟩⟩
  · exact absurd hH h1
  · refine ⟨hbl, r, V, m, cv, 0, rfl, hsl, .inl ⟨rfl, ⟨?_, ?_⟩, ?_, ?_⟩⟩
    · rintro rfl; exact h2
    · intro hk
      rw [anc_back hH hk] at h1
      injection h1 with h1
      exact h1.symm
    · have := h2.2.2.1
      have := hH.1
      have := hsl.len
      omega
    · intro x hx
      have := (h2.2.2.2 x hx).1
      have := hH.2.1
      omega
  · exact ⟨hbl, r, V, m, cv, 4, rfl, hsl, .inr ⟨rfl, fun hk => h1 a (anc_back hH hk) hk⟩⟩

set_option maxHeartbeats 4000000 in
theorem walk_anchorOthers {w : World} (hT : Tabs w) (g h : Geo) (a : Anc) (A : Option Addr) (n c : Nat) (ha : Sl homR 3 w (Old w) A n c a.homes) (hin : a.In) (hhin : h.In) :
    Calls Tryd.prog 11 #[g.v, h.v, a.v (.slice A n c)] w fun e w' => e = .returned (.bool true) ∧ Below w.heap.size w w' := by
  have hlen := ha.len
  have HHV := hide fun w h => heavya_any a A n c w h
  have HGE := hide fun w => rgeo_any g w
  have HGH := hide fun w => rgeo_any h w
  have HRA := hide fun hG hl w h => ranchor_any g hG a A n c w h hin hl
  have HBY := hide fun hG ho hl w hT h => abytes_yes (g := g) (a := a) hG ho (A := A) (n := n) (c := c) (w := w) hT h hin hl
  have HLI := hide fun (h : heavyA a = false) => heavyA_light h
  have HCY := hide fun hH ho hl w hT hs => acheck_yes (g := h) (a := a) hH ho (A := A) (n := n) (c := c) (w := w) hT hs hin hl
  have HCN := hide fun ho hl w hT hs => acheck_no (g := h) (a := a) ho (A := A) (n := n) (c := c) (w := w) hT hs hin hl
  have HRD := hide fun hG hH ho (B : Option Addr) (m d : Nat) w hT hb hn => aread_other (g := g) (h := h) (a := a) hG hH ho (A := B) (n := m) (c := d) (w := w) hT hb hn
  have HKE := hide fun r V m d w hr hs hm hp => keepa_any r a V A m d n c w hr hs hm hp
  have HFT := hide fun (hG : GeoOk g) (hH : GeoOk h) (ho : AncOk g a) => others hG hH ho
  obtain ⟨H, hH⟩ : ∃ H, H = heavyA a := ⟨_, rfl⟩
  obtain ⟨Gb, hGb⟩ : ∃ Gb, Gb = decide (GeoOk g) := ⟨_, rfl⟩
  obtain ⟨Hb, hHb⟩ : ∃ Hb, Hb = decide (GeoOk h) := ⟨_, rfl⟩
  obtain ⟨Rb, hRb⟩ : ∃ Rb, Rb = decide (AncOk g a) := ⟨_, rfl⟩
  rw [← hH] at HHV HLI
  rw [← hGb] at HGE
  rw [← hHb] at HGH
  rw [← hRb] at HRA
  obtain ⟨W0, hW0⟩ : ∃ W0, W0 = ((w.alloc (.cells #[.int .i64 g.zones, .int .i64 g.data, .int .i64 g.spares, .int .i64 g.slots, .int .i64 g.anchors] 23)).alloc (.cells #[.int .i64 h.zones, .int .i64 h.data, .int .i64 h.spares, .int .i64 h.slots, .int .i64 h.anchors] 23)).alloc (.cells #[.int .i64 a.gen, .int .i64 a.epoch, .int .i64 a.pos, .int .i64 a.seq, .int .i64 a.last, .string a.label, .slice A n c] 26) := ⟨_, rfl⟩
  have hb0 : Below w.heap.size w W0 := by rw [hW0]; exact ((alloc_below w _).alloc (by simp) _).alloc (by simp; omega) _
  have ha0 := ha.on homR_fine hb0
  have hgb : GeoAt W0 w.heap.size g := by rw [hW0]; exact (GeoAt.new w g 23).on ((alloc_below _ _).alloc (by simp) _)
  have hhb : GeoAt W0 (w.heap.size + 1) h := by
    have := (GeoAt.new (w.alloc (.cells #[.int .i64 g.zones, .int .i64 g.data, .int .i64 g.spares, .int .i64 g.slots, .int .i64 g.anchors] 23)) h 23).on (alloc_below _ (.cells #[.int .i64 a.gen, .int .i64 a.epoch, .int .i64 a.pos, .int .i64 a.seq, .int .i64 a.last, .string a.label, .slice A n c] 26))
    rw [hW0]
    simpa using this
  have hsv : Sev W0 (w.heap.size + 1 + 1) (.int .i64 a.gen) (.int .i64 a.epoch) (.int .i64 a.pos) (.int .i64 a.seq) (.int .i64 a.last) (.string a.label) (.slice A n c) := by rw [hW0]; exact Sev.new (by simp) (Below.refl _ _)
  have hN1 : w.heap.size + 1 + 1 < W0.heap.size := by rw [hW0]; simp
  have HSV := hide hsv
  have HGB := hide hgb
  have HHB := hide hhb
  have hpq := hgb.2
  have hpq2 := hhb.2
  rw [hW0] at hpq hpq2 hsv
  obtain ⟨p0, p1, p2, p3, p4⟩ := hpq
  obtain ⟨r0, r1, r2, r3, r4⟩ := hpq2
  obtain ⟨q0, q1, q2, q3, q4, q5, q6⟩ := hsv
  unfold Geo.v Anc.v at *
  have HGD := hide hGb
  have HHD := hide hHb
  have HRBD := hide hRb
  have HLEN := hide hlen
  clear hGb hHb hRb hlen hH hgb hhb
  cases H with
  | true =>
    go_enter Tryd.func11, Tryd.ntmps11
    go_wp2_with fail
    rw [← hW0]
    refine (HHV.out _ ha0).mono ?_
    rintro e w1 ⟨rfl, hb1⟩
    go_wp2_with fail
    go_ret
    exact ⟨rfl, th hb0 hb1⟩
  | false =>
    have HL := hide (HLI.out rfl)
    cases Gb with
    | false =>
      go_enter Tryd.func11, Tryd.ntmps11
      go_wp2_with fail
      rw [← hW0]
      refine (HHV.out _ ha0).mono ?_
      rintro e w1 ⟨rfl, hb1⟩
      obtain ⟨_, p0, p1, p2, p3, p4⟩ := HGB.out.on hb1
      go_wp2_with fail
      refine (HGE.out _).mono ?_
      rintro e w2 ⟨rfl, hb2⟩
      go_wp2_with fail
      go_ret
      exact ⟨rfl, th hb0 (th hb1 hb2)⟩
    | true =>
      have HGO : Hid (GeoOk g) := hide (of_decide_eq_true HGD.out.symm)
      cases Hb with
      | false =>
        go_enter Tryd.func11, Tryd.ntmps11
        go_wp2_with fail
        rw [← hW0]
        refine (HHV.out _ ha0).mono ?_
        rintro e w1 ⟨rfl, hb1⟩
        obtain ⟨_, p0, p1, p2, p3, p4⟩ := HGB.out.on hb1
        go_wp2_with fail
        refine (HGE.out _).mono ?_
        rintro e w2 ⟨rfl, hb2⟩
        obtain ⟨_, r0, r1, r2, r3, r4⟩ := HHB.out.on (th hb1 hb2)
        go_wp2_with fail
        refine (HGH.out _).mono ?_
        rintro e w3 ⟨rfl, hb3⟩
        go_wp2_with fail
        go_ret
        exact ⟨rfl, th hb0 (th hb1 (th hb2 hb3))⟩
      | true =>
        have HHO : Hid (GeoOk h) := hide (of_decide_eq_true HHD.out.symm)
        cases Rb with
        | false =>
          go_enter Tryd.func11, Tryd.ntmps11
          go_wp2_with fail
          rw [← hW0]
          refine (HHV.out _ ha0).mono ?_
          rintro e w1 ⟨rfl, hb1⟩
          obtain ⟨_, p0, p1, p2, p3, p4⟩ := HGB.out.on hb1
          go_wp2_with fail
          refine (HGE.out _).mono ?_
          rintro e w2 ⟨rfl, hb2⟩
          obtain ⟨_, r0, r1, r2, r3, r4⟩ := HHB.out.on (th hb1 hb2)
          go_wp2_with fail
          refine (HGH.out _).mono ?_
          rintro e w3 ⟨rfl, hb3⟩
          have hb03 := th hb1 (th hb2 hb3)
          obtain ⟨_, p0, p1, p2, p3, p4⟩ := HGB.out.on hb03
          obtain ⟨q0, q1, q2, q3, q4, q5, q6⟩ := HSV.out.onB hN1 hb03
          go_wp2_with fail
          refine (HRA.out HGO.out HL.out _ (ha0.on homR_fine hb03)).mono ?_
          rintro e w4 ⟨rfl, hb4⟩
          go_wp2_with fail
          go_ret
          exact ⟨rfl, th hb0 (th hb03 hb4)⟩
        | true =>
          have HOK : Hid (AncOk g a) := hide (of_decide_eq_true HRBD.out.symm)
          have HFIT := hide (HFT.out HGO.out HHO.out HOK.out)
          obtain ⟨LN, hLN⟩ : ∃ LN, LN = (ancL a).length := ⟨_, rfl⟩
          have hby1 := HBY.out HGO.out HOK.out HL.out
          rw [← hLN] at hby1
          have HBY1 := hide hby1
          have HLN := hide hLN
          have HROOM := hide (anc_room HGO.out HOK.out)
          clear hby1 hLN
          go_enter Tryd.func11, Tryd.ntmps11
          go_wp2_with fail
          rw [← hW0]
          refine (HHV.out _ ha0).mono ?_
          rintro e w1 ⟨rfl, hb1⟩
          obtain ⟨_, p0, p1, p2, p3, p4⟩ := HGB.out.on hb1
          go_wp2_with fail
          refine (HGE.out _).mono ?_
          rintro e w2 ⟨rfl, hb2⟩
          obtain ⟨_, r0, r1, r2, r3, r4⟩ := HHB.out.on (th hb1 hb2)
          go_wp2_with fail
          refine (HGH.out _).mono ?_
          rintro e w3 ⟨rfl, hb3⟩
          have hb03 := th hb1 (th hb2 hb3)
          obtain ⟨_, p0, p1, p2, p3, p4⟩ := HGB.out.on hb03
          obtain ⟨q0, q1, q2, q3, q4, q5, q6⟩ := HSV.out.onB hN1 hb03
          go_wp2_with fail
          refine (HRA.out HGO.out HL.out _ (ha0.on homR_fine hb03)).mono ?_
          rintro e w4 ⟨rfl, hb4⟩
          have hb04 := th hb03 hb4
          obtain ⟨_, p0, p1, p2, p3, p4⟩ := HGB.out.on hb04
          obtain ⟨q0, q1, q2, q3, q4, q5, q6⟩ := HSV.out.onB hN1 hb04
          go_wp2_with fail
          refine (HBY1.out _ (hT.below (th hb0 hb04)) (ha0.on homR_fine hb04)).mono ?_
          rintro e w5 ⟨hb5, V5, c5, rfl, ho5⟩
          have hb05 := th hb04 hb5
          have hbs := ho5.read byteR_fine
          obtain ⟨_, r0, r1, r2, r3, r4⟩ := HHB.out.on hb05
          go_wp2_with fail
          refine (HRD.out HGO.out HHO.out HOK.out V5 LN c5 _ (hT.below (th hb0 hb05)) hbs (by have := HROOM.out.2; rw [← HLN.out] at this; omega)).mono ?_
          rintro e w6 ⟨hb6, r, V, m, cv, err, rfl, hs6, hq⟩
          have HQ := hide hq
          clear hq
          obtain ⟨W7, hW7⟩ : ∃ W7, W7 = w6.alloc (.cells #[.int .i64 r.gen, .int .i64 r.epoch, .int .i64 r.pos, .int .i64 r.seq, .int .i64 r.last, .string r.label, .slice V m cv] 26) := ⟨_, rfl⟩
          have hb67 : Below w6.heap.size w6 W7 := by rw [hW7]; exact alloc_below _ _
          have hb07 := th (th hb05 hb6) hb67
          have hs7 := (hs6.old_ homR_fine).on homR_fine hb67
          have ha7 := ha0.on homR_fine hb07
          have hN7 : w6.heap.size < W7.heap.size := by rw [hW7]; simp
          have hv7 : Sev W7 w6.heap.size (.int .i64 r.gen) (.int .i64 r.epoch) (.int .i64 r.pos) (.int .i64 r.seq) (.int .i64 r.last) (.string r.label) (.slice V m cv) := by rw [hW7]; exact Sev.new rfl (Below.refl _ _)
          have HV7 := hide hv7
          go_upto_region 5 with fail
          rw [← hW7]
          clear hW7
          obtain ⟨F0, hF0⟩ : ∃ F0, F0 = decide (g.zones = h.zones ∧ g.data = h.data ∧ a.pos < h.slots) := ⟨_, rfl⟩
          go_cut [11] (fun v wx => v = .bool F0 ∧ wx = W7)
          case first =>
            obtain ⟨_, p0, p1, p2, p3, p4⟩ := HGB.out.on hb07
            obtain ⟨_, r0, r1, r2, r3, r4⟩ := HHB.out.on hb07
            obtain ⟨q0, q1, q2, q3, q4, q5, q6⟩ := HSV.out.onB hN1 hb07
            have HF0 := hide hF0
            clear hF0
            by_cases f1 : g.zones = h.zones
            · rw [f1] at p0
              by_cases f2 : g.data = h.data
              · rw [f2] at p1
                by_cases f3 : a.pos < h.slots
                · obtain rfl : F0 = true := by rw [HF0.out]; exact decide_eq_true ⟨f1, f2, f3⟩
                  clear f1 f2 HF0
                  go_wp2_with fail
                  go_meet
                  exact ⟨rfl, rfl⟩
                · obtain rfl : F0 = false := by rw [HF0.out]; exact decide_eq_false fun e => f3 e.2.2
                  clear f1 f2 HF0
                  go_wp2_with fail
                  go_meet
                  exact ⟨rfl, rfl⟩
              · have t2 : (g.data == h.data) = false := by simpa using f2
                obtain rfl : F0 = false := by rw [HF0.out]; exact decide_eq_false fun e => f2 e.2.1
                clear f1 f2 HF0
                go_wp2_with fail
                go_meet
                exact ⟨rfl, rfl⟩
            · have t1 : (g.zones == h.zones) = false := by simpa using f1
              obtain rfl : F0 = false := by rw [HF0.out]; exact decide_eq_false fun e => f1 e.1
              clear f1 HF0
              go_wp2_with fail
              go_meet
              exact ⟨rfl, rfl⟩
          case rest =>
            obtain ⟨rfl, hwc⟩ := hcut
            rw [hwc]
            clear hwc
            have HF0 := hide hF0
            clear hF0
            go_wp2_with fail
            obtain ⟨D, hD⟩ : ∃ D, D = h.data + 1 + h.spares := ⟨_, rfl⟩
            have e1 : IntKind.i64.wrap (h.data + 1) = h.data + 1 := IntWalk.i64_in _ (by have := HHO.out.2.1; omega)
            have e2 : IntKind.i64.wrap (h.data + 1 + h.spares) = D := by rw [hD]; exact IntWalk.i64_in _ (by have := HHO.out.2.1; have := HHO.out.2.2.1; omega)
            have HD := hide hD
            clear hD
            have hn6 : n ≤ 6000 := by have := HL.out.2.1; have := HLEN.out; omega
            go_loopw [11, 12] (fun f i wr => ∃ (k : Nat) (F : Bool), k ≤ n ∧ i = .int .i64 k ∧ f = .bool F ∧ Below W7.heap.size W7 wr ∧ Hid (F = true ↔ F0 = true ∧ ∀ j x, a.homes[j]? = some x → j < k → x.next ≤ D)) (fun _ i _ => n - (RowKit.intOf i).toNat)
            case atStart => exact ⟨0, F0, Nat.zero_le _, rfl, rfl, Below.refl _ _, hide ⟨fun e => ⟨e, fun j x _ hj => absurd hj (Nat.not_lt_zero _)⟩, fun e => e.1⟩⟩
            case round =>
              obtain ⟨k, F, hk, rfl, rfl, hbw, hF⟩ := hrel
              obtain ⟨_, r0, r1, r2, r3, r4⟩ := HHB.out.on (th hb07 hbw)
              obtain ⟨q0, q1, q2, q3, q4, q5, q6⟩ := HSV.out.onB hN1 (th hb07 hbw)
              by_cases hlt : k < n
              · obtain ⟨ad, x, A', m', c', rfl, hadl, hx, _, _, _, d0, d1, d2⟩ := at_hom (ha7.on homR_fine hbw) hlt
                have HX := hide hx
                clear hx
                cases F with
                | false =>
                  have HNO : Hid (¬ (F0 = true ∧ ∀ j x, a.homes[j]? = some x → j < k → x.next ≤ D)) := hide fun e => by have := hF.out.2 e; cases this
                  clear hF
                  go_wp2_with fail
                  go_quiet (fail)
                  go_wp2_with fail
                  go_roundw
                  case rel => exact ⟨k + 1, false, by omega, by go_num, rfl, th hbw (drewN_below _ _), hide ⟨fun e => by (cases e), fun e => absurd ⟨e.1, fun j y hy hj => e.2 j y hy (by omega)⟩ HNO.out⟩⟩
                  case measure => (first | omega | (simp [RowKit.intOf]; omega) | go_num)
                | true =>
                  have HYES := hide (hF.out.1 rfl)
                  clear hF
                  by_cases hle : x.next ≤ D
                  · go_wp2_with fail
                    go_quiet (fail)
                    go_wp2_with fail
                    go_roundw
                    case rel =>
                      refine ⟨k + 1, true, by omega, by go_num, rfl, th hbw (drewN_below _ _), hide ⟨fun _ => ⟨HYES.out.1, fun j y hy hj => ?_⟩, fun _ => rfl⟩⟩
                      by_cases hjk : j < k
                      · exact HYES.out.2 j y hy hjk
                      · obtain rfl : j = k := by omega
                        have := HX.out
                        rw [hy] at this
                        injection this with this
                        subst this
                        exact hle
                    case measure => (first | omega | (simp [RowKit.intOf]; omega) | go_num)
                  · go_wp2_with fail
                    go_quiet (fail)
                    go_wp2_with fail
                    go_roundw
                    case rel => exact ⟨k + 1, false, by omega, by go_num, (by first | rfl | rw [decide_eq_false (by omega)]), th hbw (drewN_below _ _), hide ⟨fun e => by (cases e), fun e => by (have := e.2 k x HX.out (by omega); omega)⟩⟩
                    case measure => (first | omega | (simp [RowKit.intOf]; omega) | go_num)
              · obtain rfl : k = n := by omega
                have hiff : F = true ↔ AncOk h a := by
                  refine hF.out.trans (Iff.trans ?_ HFIT.out.symm)
                  rw [HF0.out, decide_eq_true_iff]
                  unfold FitsA
                  rw [← HD.out]
                  constructor
                  · rintro ⟨⟨x1, x2, x3⟩, x4⟩
                    refine ⟨x1, x2, x3, fun y hy => ?_⟩
                    obtain ⟨j, hj, ej⟩ := List.mem_iff_getElem.1 hy
                    exact x4 j y (by rw [List.getElem?_eq_getElem hj, ej]) (by rw [← HLEN.out]; exact hj)
                  · rintro ⟨x1, x2, x3, x4⟩
                    exact ⟨⟨x1, x2, x3⟩, fun j y hy _ => x4 y (List.mem_of_getElem? hy)⟩
                have HIFF := hide hiff
                have hb0w := th hb07 hbw
                have haw := ha7.on homR_fine hbw
                have hsw := hs7.on homR_fine hbw
                obtain ⟨u0, u1, u2, u3, u4, u5, u6⟩ := HV7.out.on hN7 hbw
                clear hiff
                cases F with
                | true =>
                  have hok := HIFF.out.1 rfl
                  obtain ⟨rfl, hra, hm6, hp6⟩ : err = 0 ∧ r = a ∧ m ≤ 65536 ∧ ∀ x ∈ r.homes, x.places.length ≤ 65536 := by
                    rcases HQ.out with ⟨e, e2, e3, e4⟩ | ⟨_, e⟩
                    · exact ⟨e, e2.2 hok, e3, e4⟩
                    · exact absurd hok e
                  have hck := HCY.out HHO.out hok HL.out wr (hT.below (th hb0 hb0w)) haw
                  have hke := fun W hW => HKE.out r V m cv W (hsw.on homR_fine (w' := W) hW) (haw.on homR_fine hW) hm6 hp6
                  rw [show decide (r = a) = true from decide_eq_true hra] at hke
                  have HCK := hide hck
                  have HKK := hide hke
                  clear hck hke hok hra hm6 hp6
                  go_wp2_with fail
                  refine HCK.out.mono ?_
                  rintro e w8 ⟨rfl, hb8⟩
                  obtain ⟨q0, q1, q2, q3, q4, q5, q6⟩ := HSV.out.onB hN1 (th hb0w hb8)
                  obtain ⟨u0, u1, u2, u3, u4, u5, u6⟩ := HV7.out.on hN7 (th hbw hb8)
                  go_wp2_with fail
                  refine (HKK.out _ hb8).mono ?_
                  rintro e w9 ⟨rfl, hb9⟩
                  go_wp2_with fail
                  refine (wakes08 _ (hT.below (th hb0 (th hb0w (th hb8 hb9))))).mono ?_
                  rintro e w10 ⟨rfl, hb10⟩
                  go_wp2_with fail
                  go_ret
                  exact ⟨rfl, th hb0 (th hb0w (th hb8 (th hb9 hb10)))⟩
                | false =>
                  have hok : ¬ AncOk h a := fun e => by have := HIFF.out.2 e; cases this
                  have hck := HCN.out hok HL.out wr (hT.below (th hb0 hb0w)) haw
                  have HCK := hide hck
                  rcases HQ.out with ⟨rfl, hra, hm6, hp6⟩ | ⟨rfl, _⟩
                  · have hke := fun W hW => HKE.out r V m cv W (hsw.on homR_fine (w' := W) hW) (haw.on homR_fine hW) hm6 hp6
                    rw [show decide (r = a) = false from decide_eq_false fun e => hok (hra.1 e)] at hke
                    have HKK := hide hke
                    clear hck hke hok hra hm6 hp6
                    go_wp2_with fail
                    refine HCK.out.mono ?_
                    rintro e w8 ⟨rfl, hb8⟩
                    obtain ⟨q0, q1, q2, q3, q4, q5, q6⟩ := HSV.out.onB hN1 (th hb0w hb8)
                    obtain ⟨u0, u1, u2, u3, u4, u5, u6⟩ := HV7.out.on hN7 (th hbw hb8)
                    go_wp2_with fail
                    refine (HKK.out _ hb8).mono ?_
                    rintro e w9 ⟨rfl, hb9⟩
                    go_wp2_with fail
                    refine (wakes08 _ (hT.below (th hb0 (th hb0w (th hb8 hb9))))).mono ?_
                    rintro e w10 ⟨rfl, hb10⟩
                    go_wp2_with fail
                    go_ret
                    exact ⟨rfl, th hb0 (th hb0w (th hb8 (th hb9 hb10)))⟩
                  · clear hck hok
                    go_wp2_with fail
                    refine HCK.out.mono ?_
                    rintro e w8 ⟨rfl, hb8⟩
                    go_wp2_with fail
                    refine (wakes08 _ (hT.below (th hb0 (th hb0w hb8)))).mono ?_
                    rintro e w10 ⟨rfl, hb10⟩
                    go_wp2_with fail
                    go_ret
                    exact ⟨rfl, th hb0 (th hb0w (th hb8 hb10))⟩

theorem law_anchorOthers {w : World} (hT : Tabs w) {v0 v1 v2 : Value} {g h : Geo} {a : Anc} (hg : ArgR geoR w v0 g) (hh : ArgR geoR w v1 h) (ha : ArgR ancR w v2 a) :
    Calls Tryd.prog 11 #[v0, v1, v2] w fun e w' => e = .returned (.bool true) ∧ Below w.heap.size w w' := by
  obtain ⟨rfl, _⟩ := geo_form hg
  obtain ⟨rfl, hi⟩ := geo_form hh
  obtain ⟨A, n, c, rfl, hin, hs⟩ := anc_form ha
  exact walk_anchorOthers hT g h a A n c hs hin hi

end Go.Proofs.YtamgpbkakmffiaaDoor
