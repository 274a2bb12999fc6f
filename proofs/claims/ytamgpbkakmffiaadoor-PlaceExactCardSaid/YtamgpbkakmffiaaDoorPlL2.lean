/-
  The walk of casematelaw11.PlaceExact.
-/
import Derived.Test.YtamgpbkakmffiaaDoorPlR
import Derived.Test.YtamgpbkakmffiaaDoorPlL1
namespace Go.Proofs.YtamgpbkakmffiaaDoor
open Go.RowKit Go.Lib
set_option linter.unusedVariables false
set_option maxRecDepth 100000

set_option maxHeartbeats 16000000 in
theorem walk_placeExact {w : World} (hT : Tabs w) (g : Geo) (a : Anc) (A : Option Addr) (n c : Nat) (zone what : Int) (ha : Sl homR 3 w (Old w) A n c a.homes) (hin : a.In) :
    Calls Tryd.prog 3 #[g.v, a.v (.slice A n c), .int .i64 zone, .int .i64 what] w fun e w' => e = .returned (.bool true) ∧ Below w.heap.size w w' := by
  have HHV := hide fun w h => heavya_any a A n c w h
  have HGE := hide fun w => rgeo_any g w
  have HLI := hide fun (h : heavyA a = false) => heavyA_light h
  have HTW0 := hide fun hn hp w h => katwin_any a A n c w h hn hp
  have HAN0 := hide fun V d zone what hl hno w hT h => paddr_no g a V n d zone what w hT h hin hl hno
  have HSN0 := hide fun V d zone hl hno w hT h => pspares_no g a V n d zone w hT h hin hl hno
  have HMN0 := hide fun V d zone what hl hno w hT h => pmove_no g a V n d zone what w hT h hin hl hno
  have HKN0 := hide fun V d zone hl hno w hT h => pskip_no g a V n d zone w hT h hin hl hno
  have HAY0 := hide fun V d z i what hl hok h hz hi p hp w hT ha => paddr_yes g a V n d z i what w hT ha hin hl hok h hz hi p hp
  have HSY0 := hide fun V d z hl hok h hz w hT ha => pspares_yes g a V n d z w hT ha hin hl hok h hz
  have HMF0 := hide fun V d z what hl hok h hz hnx w hT ha => pmove_none g a V n d z what w hT ha hin hl hok h hz hnx
  have HMY0 := hide fun V d z i what hl hok h hz hi hnx w hT ha => pmove_yes g a V n d z i what w hT ha hin hl hok h hz hi hnx
  have HKF0 := hide fun V d z hl hok h hz hnx w hT ha => pskip_none g a V n d z w hT ha hin hl hok h hz hnx
  have HKY0 := hide fun V d z hl hok h hz hnx w hT ha => pskip_yes g a V n d z w hT ha hin hl hok h hz hnx
  have RSP0 := hide fun hG z h hz w ha hn => rspares_yes g hG a A n c z h hz w ha hn
  have RAD0 := hide fun hG z i what hzz h hz hi p hp hp0 w ha => raddr_yes g hG a A n c z i what w ha hzz h hz hi p hp hp0
  have RMV0 := hide fun hG hO z i what hl hzz h hz hi hid hnx w ha => rmove_yes g hG a hO A n c z i what w ha hl hzz h hz hi hid hnx
  have WHT0 := hide fun hG w => what_any g hG what w
  have HKE0 := hide fun x y V V' n d m d' w h1 h2 hn hp => keepa_any x y V V' n d m d' w h1 h2 hn hp
  have HKA0 := hide fun V d w h1 h2 hn hp => keepa_any a a V A n d n c w h1 h2 hn hp
  have HNN := hide fun w => keepa_any noAnc noAnc none none 0 0 0 0 w (Sl.nil_ _) (Sl.nil_ _) (by omega) (fun x hx => by cases hx)
  rw [decide_eq_true (rfl : noAnc = noAnc)] at HNN
  rw [decide_eq_true (rfl : a = a)] at HKA0
  have HRA00 := hide fun hG hl w h => ranchor_any g hG a A n c w h hin hl
  have HLEN := hide ha.len
  obtain ⟨H, hH⟩ : ∃ H, H = heavyA a := ⟨_, rfl⟩
  rw [← hH] at HHV HLI
  unfold ATwinPost at HTW0
  unfold noAnc at HNN
  obtain ⟨W0, hW0⟩ : ∃ W0, W0 = (w.alloc (.cells #[.int .i64 g.zones, .int .i64 g.data, .int .i64 g.spares, .int .i64 g.slots, .int .i64 g.anchors] 23)).alloc (.cells #[.int .i64 a.gen, .int .i64 a.epoch, .int .i64 a.pos, .int .i64 a.seq, .int .i64 a.last, .string a.label, .slice A n c] 26) := ⟨_, rfl⟩
  have hb0 : Below w.heap.size w W0 := by rw [hW0]; exact (alloc_below w _).alloc (by simp) _
  have ha0 := ha.on homR_fine hb0
  have hgb : GeoAt W0 w.heap.size g := by rw [hW0]; exact (GeoAt.new w g 23).on (alloc_below _ _)
  have hsv : Sev W0 (w.heap.size + 1) (.int .i64 a.gen) (.int .i64 a.epoch) (.int .i64 a.pos) (.int .i64 a.seq) (.int .i64 a.last) (.string a.label) (.slice A n c) := by rw [hW0]; exact Sev.new (by simp) (Below.refl _ _)
  have hN1 : w.heap.size + 1 < W0.heap.size := by rw [hW0]; simp
  have HSV := hide hsv
  have HGB := hide hgb
  have hpq := hgb.2
  rw [hW0] at hpq hsv
  obtain ⟨p0, p1, p2, p3, p4⟩ := hpq
  obtain ⟨q0, q1, q2, q3, q4, q5, q6⟩ := hsv
  clear hgb
  unfold Geo.v Anc.v at *
  dsimp only at HNN
  clear hH
  cases H with
  | true =>
    go_enter Tryd.func3, Tryd.ntmps3
    go_wp2_with fail
    rw [← hW0]
    refine (HHV.out _ ha0).mono ?_
    rintro e w1 ⟨rfl, hb1⟩
    go_wp2_with fail
    go_ret
    exact ⟨rfl, th hb0 hb1⟩
  | false =>
    have HL := hide (HLI.out rfl)
    have hn6 : n ≤ 65536 := by have := HL.out.2.1; have := HLEN.out; omega
    have HTW := hide fun w h => HTW0.out (by have := HL.out.2.1; have := HLEN.out; omega) HL.out.2.2 w h
    have HKA := hide (fun V d w h1 h2 => HKA0.out V d w h1 h2 hn6 (fun x hx => by have := HL.out.2.2 x hx; omega))
    by_cases hG : GeoOk g
    · have HGT : Hid (decide (GeoOk g) = true) := hide (decide_eq_true hG)
      have HRA0 := hide fun hl w h => HRA00.out hG hl w h
      by_cases hO : AncOk g a
      · rw [decide_eq_true hO] at HRA0
        by_cases hz0 : 0 ≤ zone
        · by_cases hz1 : zone < g.zones
          · obtain ⟨z, rfl⟩ : ∃ z : Nat, zone = (z : Int) := ⟨zone.toNat, by omega⟩
            have hzl : z < a.homes.length := by have := hO.2.2.1; omega
            obtain ⟨h, hz⟩ : ∃ h, a.homes[z]? = some h := ⟨_, List.getElem?_eq_getElem hzl⟩
            have HZ := hide hz
            have HGO := hide hG
            have HOO := hide hO
            have hzz := And.intro hz0 hz1
            obtain ⟨WB, hWB⟩ : ∃ WB, decide (-1 ≤ what ∧ what ≤ g.data - 1) = WB := ⟨_, rfl⟩
            clear hG hO hz hz0 hz1 hzl
            have hG := HGO.out
            have hO := HOO.out
            have hps : PlaceOk g a (z : Int) (-1) := ⟨hG, hO, hzz, isP_par g⟩
            have hhom := hO.2.2.2 h (List.mem_of_getElem? HZ.out)
            have hgd := hG.2.1
            have hgs := hG.2.2.1
            have hnx0 := hhom.2.1
            have HSP := hide (fun V d w hT ha => HSY0.out V d z HL.out hps h HZ.out w hT ha)
            have RSP := hide (fun w ha => RSP0.out hG z h HZ.out w ha ⟨by omega, hnx0.2⟩)
            have HRA1 := hide (fun w h => HRA0.out HL.out w h)
            have HWH := hide (fun w => WHT0.out hG w)
            obtain ⟨K, hK⟩ : ∃ K, K = g.data + 1 + g.spares - h.next := ⟨_, rfl⟩
            rw [← hK] at HSP RSP
            rw [show decide (-1 ≤ what ∧ what ≤ g.data - 1) = WB from hWB] at HWH
            by_cases hisp : IsP g what
            · obtain rfl : WB = true := by rw [← hWB]; exact decide_eq_true ((isP_what hG what).1 hisp)
              clear hWB
              by_cases hF : h.next = g.data + 1 + g.spares
              · have hpw : PlaceOk g a (z : Int) what := ⟨hG, hO, hzz, hisp⟩
                obtain ⟨i, hi⟩ : ∃ i : Nat, atI g what = (i : Int) := ⟨(atI g what).toNat, by have := atI_lt hG ((isP_what hG what).1 hisp); omega⟩
                have hid : (i : Int) ≤ g.data := by have := atI_lt hG ((isP_what hG what).1 hisp); omega
                obtain ⟨p, hp⟩ : ∃ p, h.places[i]? = some p := ⟨h.places[i]'(by have := hhom.1; omega), List.getElem?_eq_getElem (by have := hhom.1; omega)⟩
                have hpb := (hhom.2.2.2 i p hp).1
                have HAD := hide (fun V d w hT ha => HAY0.out V d z i what HL.out hpw h HZ.out hi p hp w hT ha)
                have RAD := hide (fun w ha => RAD0.out hG z i what hzz.2 h HZ.out hi p hp ⟨hpb.1, by omega⟩ w ha)
                obtain ⟨X, hX⟩ : ∃ X, X = slotN g (z : Int) p := ⟨_, rfl⟩
                rw [← hX] at HAD RAD
                obtain rfl : K = 0 := by omega
                have HSK := hide (fun V d w hT ha => HKF0.out V d z HL.out hps h HZ.out hF w hT ha)
                unfold noAncV at HSK
                have HMV := hide (fun V d w hT ha => HMF0.out V d z what HL.out hpw h HZ.out hF w hT ha)
                unfold noAncV at HMV
                have q1' : (0 : Int) ≤ (z : Int) := hzz.1
                have q2' : (z : Int) < g.zones := hzz.2
                clear hG hO hps hhom hgd hgs hnx0 hK hpw hi hid hp hpb hX
                rw [HGT.out] at HGE
                go_enter Tryd.func3, Tryd.ntmps3
                go_wp2_with fail
                rw [← hW0]
                clear p0 p1 p2 p3 p4 q0 q1 q2 q3 q4 q5 q6
                refine (HHV.out _ ha0).mono ?_
                rintro e w1 ⟨rfl, hb1⟩
                obtain ⟨q0, q1, q2, q3, q4, q5, q6⟩ := HSV.out.onB hN1 hb1
                go_wp2_with fail
                refine (HTW.out _ (ha0.on homR_fine hb1)).mono ?_
                rintro e w2 ⟨hb2, VI, ci, rfl, how2⟩
                obtain ⟨W3, hW3⟩ : ∃ W3, W3 = w2.alloc (.cells #[.int .i64 a.gen, .int .i64 a.epoch, .int .i64 a.pos, .int .i64 a.seq, .int .i64 a.last, .string a.label, .slice VI n ci] 26) := ⟨_, rfl⟩
                have hE3 : Below w2.heap.size w2 W3 := by rw [hW3]; exact alloc_below _ _
                have hNI : w2.heap.size < W3.heap.size := by rw [hW3]; simp
                have hvi : Sev W3 w2.heap.size (.int .i64 a.gen) (.int .i64 a.epoch) (.int .i64 a.pos) (.int .i64 a.seq) (.int .i64 a.last) (.string a.label) (.slice VI n ci) := by rw [hW3]; exact Sev.new rfl (Below.refl _ _)
                have HVI := hide hvi
                have hi3 := (how2.read.old_ homR_fine).on homR_fine hE3
                have hb03 := th hb1 (th hb2 hE3)
                clear hvi q0 q1 q2 q3 q4 q5 q6
                go_upto_region 4 with fail
                rw [← hW3]
                clear hW3
                obtain ⟨_, p0, p1, p2, p3, p4⟩ := HGB.out.on hb03
                obtain ⟨r0, r1, r2, r3, r4, r5, r6⟩ := HVI.out.on hNI (Below.refl _ _)
                go_wp2_with fail
                refine (HAD.out _ _ _ (hT.below (th hb0 hb03)) hi3).mono ?_
                rintro e w4 ⟨rfl, hb4⟩
                have hb04 := th hb03 hb4
                obtain ⟨_, p0, p1, p2, p3, p4⟩ := HGB.out.on hb04
                obtain ⟨r0, r1, r2, r3, r4, r5, r6⟩ := HVI.out.on hNI hb4
                go_wp2_with fail
                refine (HSP.out _ _ _ (hT.below (th hb0 hb04)) (hi3.on homR_fine hb4)).mono ?_
                rintro e w5 ⟨rfl, hb5⟩
                have hb05 := th hb04 hb5
                obtain ⟨_, p0, p1, p2, p3, p4⟩ := HGB.out.on hb05
                obtain ⟨r0, r1, r2, r3, r4, r5, r6⟩ := HVI.out.on hNI (th hb4 hb5)
                go_wp2_with fail
                refine (HMV.out _ _ _ (hT.below (th hb0 hb05)) (hi3.on homR_fine (th hb4 hb5))).mono ?_
                rintro e w6 ⟨rfl, hb6⟩
                obtain ⟨W7, hW7⟩ : ∃ W7, W7 = w6.alloc (.cells #[.int .i64 0, .int .i64 0, .int .i64 0, .int .i64 0, .int .i64 0, .string ⟨#[]⟩, .slice none 0 0] 26) := ⟨_, rfl⟩
                have hE7 : Below w6.heap.size w6 W7 := by rw [hW7]; exact alloc_below _ _
                have hN7 : w6.heap.size < W7.heap.size := by rw [hW7]; simp
                have hv7 : Sev W7 w6.heap.size (.int .i64 0) (.int .i64 0) (.int .i64 0) (.int .i64 0) (.int .i64 0) (.string ⟨#[]⟩) (.slice none 0 0) := by rw [hW7]; exact Sev.new rfl (Below.refl _ _)
                have HV7 := hide hv7
                have hb37 := th hb4 (th hb5 (th hb6 hE7))
                have hb07 := th hb03 hb37
                clear hv7 p0 p1 p2 p3 p4 r0 r1 r2 r3 r4 r5 r6
                go_upto_region 7 with fail
                rw [← hW7]
                clear hW7
                obtain ⟨_, p0, p1, p2, p3, p4⟩ := HGB.out.on hb07
                obtain ⟨r0, r1, r2, r3, r4, r5, r6⟩ := HVI.out.on hNI hb37
                go_wp2_with fail
                refine (HSK.out _ _ _ (hT.below (th hb0 hb07)) (hi3.on homR_fine hb37)).mono ?_
                rintro e w8 ⟨rfl, hb8⟩
                obtain ⟨W9, hW9⟩ : ∃ W9, W9 = (w8.alloc (.cells #[.int .i64 0, .int .i64 0, .int .i64 0, .int .i64 0, .int .i64 0, .string ⟨#[]⟩, .slice none 0 0] 26)).alloc (.cells #[.int .i64 0, .int .i64 0, .int .i64 0, .int .i64 0, .int .i64 0, .string ⟨#[]⟩, .slice none 0 0] 26) := ⟨_, rfl⟩
                have hE9 : Below w8.heap.size w8 W9 := by rw [hW9]; exact (alloc_below _ _).alloc (by simp) _
                have hN9 : w8.heap.size < W9.heap.size := by rw [hW9]; simp; omega
                have hN9' : w8.heap.size + 1 < W9.heap.size := by rw [hW9]; simp
                have hv9 : Sev W9 w8.heap.size (.int .i64 0) (.int .i64 0) (.int .i64 0) (.int .i64 0) (.int .i64 0) (.string ⟨#[]⟩) (.slice none 0 0) := by rw [hW9]; exact (Sev.new rfl (Below.refl _ _)).on (by simp) (alloc_below _ _)
                have hv9' : Sev W9 (w8.heap.size + 1) (.int .i64 0) (.int .i64 0) (.int .i64 0) (.int .i64 0) (.int .i64 0) (.string ⟨#[]⟩) (.slice none 0 0) := by rw [hW9]; exact Sev.new (by simp) (Below.refl _ _)
                have HV9 := hide hv9
                have HVN := hide hv9'
                have hb79 := th hb8 hE9
                have hb39 := th hb37 hb79
                have hb09 := th hb03 hb39
                clear hv9 hv9' p0 p1 p2 p3 p4 r0 r1 r2 r3 r4 r5 r6
                go_upto_region 9 with fail
                rw [← hW9]
                clear hW9
                obtain ⟨r0, r1, r2, r3, r4, r5, r6⟩ := HVI.out.on hNI hb39
                obtain ⟨q0, q1, q2, q3, q4, q5, q6⟩ := HSV.out.onB hN1 hb09
                go_wp2_with fail
                refine (HKA.out _ _ _ (hi3.on homR_fine hb39) (ha0.on homR_fine hb09)).mono ?_
                rintro e w10 ⟨rfl, hb10⟩
                have hb010 := th hb09 hb10
                have hb910 := hb10
                clear r0 r1 r2 r3 r4 r5 r6 q0 q1 q2 q3 q4 q5 q6
                obtain ⟨_, p0, p1, p2, p3, p4⟩ := HGB.out.on hb010
                go_wp2_with fail
                refine (HGE.out _).mono ?_
                rintro e w11 ⟨rfl, hb11⟩
                have hb911 := th hb10 hb11
                have hb011 := th hb010 hb11
                obtain ⟨_, p0, p1, p2, p3, p4⟩ := HGB.out.on hb011
                obtain ⟨q0, q1, q2, q3, q4, q5, q6⟩ := HSV.out.onB hN1 hb011
                go_wp2_with fail
                refine (HRA1.out _ (ha0.on homR_fine hb011)).mono ?_
                rintro e w12 ⟨rfl, hb12⟩
                have hb912 := th hb911 hb12
                have hb012 := th hb011 hb12
                obtain ⟨_, p0, p1, p2, p3, p4⟩ := HGB.out.on hb012
                obtain ⟨q0, q1, q2, q3, q4, q5, q6⟩ := HSV.out.onB hN1 hb012
                go_wp2_with fail
                refine (RSP.out _ (ha0.on homR_fine hb012)).mono ?_
                rintro e w13 ⟨rfl, hb13⟩
                have hb913 := th hb912 hb13
                have hb013 := th hb012 hb13
                clear q0 q1 q2 q3 q4 q5 q6
                obtain ⟨s0, s1, s2, s3, s4, s5, s6⟩ := HV9.out.on hN9 hb913
                obtain ⟨n0, n1, n2, n3, n4, n5, n6⟩ := HVN.out.on hN9' hb913
                go_wp2_with fail
                refine (HNN.out _).mono ?_
                rintro e w14 ⟨rfl, hb14⟩
                have hb914 := th hb913 hb14
                have hb014 := th hb013 hb14
                clear s0 s1 s2 s3 s4 s5 s6 n0 n1 n2 n3 n4 n5 n6
                obtain ⟨_, p0, p1, p2, p3, p4⟩ := HGB.out.on hb014
                go_wp2_with fail
                refine (HWH.out _).mono ?_
                rintro e w15 ⟨rfl, hb15⟩
                have hb915 := th hb914 hb15
                have hb015 := th hb014 hb15
                obtain ⟨_, p0, p1, p2, p3, p4⟩ := HGB.out.on hb015
                obtain ⟨q0, q1, q2, q3, q4, q5, q6⟩ := HSV.out.onB hN1 hb015
                go_wp2_with fail
                refine (RAD.out _ (ha0.on homR_fine hb015)).mono ?_
                rintro e w16 ⟨rfl, hb16⟩
                have hb916 := th hb915 hb16
                have hb016 := th hb015 hb16
                clear q0 q1 q2 q3 q4 q5 q6
                obtain ⟨m0, m1, m2, m3, m4, m5, m6⟩ := HV7.out.on hN7 (th hb79 hb916)
                obtain ⟨n0, n1, n2, n3, n4, n5, n6⟩ := HVN.out.on hN9' hb916
                go_wp2_with fail
                refine (HNN.out _).mono ?_
                rintro e w17 ⟨rfl, hb17⟩
                go_wp2_with fail
                refine (wakes11 _ (hT.below (th hb0 (th hb016 hb17)))).mono ?_
                rintro e w20 ⟨rfl, hb20⟩
                go_wp2_with fail
                go_ret
                exact ⟨rfl, th hb0 (th (th hb016 hb17) hb20)⟩
              · have hpw : PlaceOk g a (z : Int) what := ⟨hG, hO, hzz, hisp⟩
                obtain ⟨i, hi⟩ : ∃ i : Nat, atI g what = (i : Int) := ⟨(atI g what).toNat, by have := atI_lt hG ((isP_what hG what).1 hisp); omega⟩
                have hid : (i : Int) ≤ g.data := by have := atI_lt hG ((isP_what hG what).1 hisp); omega
                obtain ⟨p, hp⟩ : ∃ p, h.places[i]? = some p := ⟨h.places[i]'(by have := hhom.1; omega), List.getElem?_eq_getElem (by have := hhom.1; omega)⟩
                have hpb := (hhom.2.2.2 i p hp).1
                have HAD := hide (fun V d w hT ha => HAY0.out V d z i what HL.out hpw h HZ.out hi p hp w hT ha)
                have RAD := hide (fun w ha => RAD0.out hG z i what hzz.2 h HZ.out hi p hp ⟨hpb.1, by omega⟩ w ha)
                obtain ⟨X, hX⟩ : ∃ X, X = slotN g (z : Int) p := ⟨_, rfl⟩
                rw [← hX] at HAD RAD
                have hlt : h.next < g.data + 1 + g.spares := by omega
                have tK : (K == 0) = false := by simp; omega
                have e1 : IntKind.i64.wrap (h.next + 1) = h.next + 1 := IntWalk.i64_in _ (by omega)
                have HIN1 : Hid (InI (h.next + 1)) := hide ⟨by omega, by omega⟩
                have hzn : z < n := by rw [← HLEN.out]; exact (List.getElem?_eq_some_iff.1 HZ.out).1
                have HSK := hide (fun V d w hT ha => HKY0.out V d z HL.out hps h HZ.out hlt w hT ha)
                obtain ⟨SH, hSH⟩ : ∃ SH, SH = (skipA a z h).homes := ⟨_, rfl⟩
                have hSH2 : SH = a.homes.set z { h with next := h.next + 1 } := hSH
                have HSH := hide hSH2
                have HKS := hide (fun V d V' d' w h1 h2 => HKE0.out (skipA a z h) (skipA a z h) V V' n d n d' w h1 h2 hn6 (fun x hx => by have := (skip_light HL.out HZ.out).2.2 x hx; omega))
                rw [decide_eq_true (rfl : skipA a z h = skipA a z h)] at HKS
                rw [← hSH] at HSK HKS
                unfold skipA at HSK HKS
                dsimp only at HSK HKS
                have HMV := hide (fun V d w hT ha => HMY0.out V d z i what HL.out hpw h HZ.out hi hlt w hT ha)
                have RMV := hide (fun w ha => RMV0.out hG hO z i what HL.out hzz.2 h HZ.out hi hid hlt w ha)
                obtain ⟨Y, hY⟩ : ∃ Y, Y = slotN g (z : Int) h.next := ⟨_, rfl⟩
                obtain ⟨MH, hMH⟩ : ∃ MH, MH = (moveA a z h i).homes := ⟨_, rfl⟩
                have HKM := hide (fun V d V' d' w h1 h2 => HKE0.out (moveA a z h i) (moveA a z h i) V V' n d n d' w h1 h2 hn6 (fun x hx => by have := (move_light HL.out HZ.out).2.2 x hx; omega))
                rw [decide_eq_true (rfl : moveA a z h i = moveA a z h i)] at HKM
                rw [← hY] at HMV RMV
                rw [← hMH] at HMV RMV HKM
                unfold moveA at HMV RMV HKM
                dsimp only at HMV RMV HKM
                have q1' : (0 : Int) ≤ (z : Int) := hzz.1
                have q2' : (z : Int) < g.zones := hzz.2
                clear hG hO hps hhom hgd hgs hnx0 hK hpw hi hid hp hpb hX hlt hSH hSH2 hY hMH
                rw [HGT.out] at HGE
                go_enter Tryd.func3, Tryd.ntmps3
                go_wp2_with fail
                rw [← hW0]
                clear p0 p1 p2 p3 p4 q0 q1 q2 q3 q4 q5 q6
                refine (HHV.out _ ha0).mono ?_
                rintro e w1 ⟨rfl, hb1⟩
                obtain ⟨q0, q1, q2, q3, q4, q5, q6⟩ := HSV.out.onB hN1 hb1
                go_wp2_with fail
                refine (HTW.out _ (ha0.on homR_fine hb1)).mono ?_
                rintro e w2 ⟨hb2, VI, ci, rfl, how2⟩
                obtain ⟨W3, hW3⟩ : ∃ W3, W3 = w2.alloc (.cells #[.int .i64 a.gen, .int .i64 a.epoch, .int .i64 a.pos, .int .i64 a.seq, .int .i64 a.last, .string a.label, .slice VI n ci] 26) := ⟨_, rfl⟩
                have hE3 : Below w2.heap.size w2 W3 := by rw [hW3]; exact alloc_below _ _
                have hNI : w2.heap.size < W3.heap.size := by rw [hW3]; simp
                have hvi : Sev W3 w2.heap.size (.int .i64 a.gen) (.int .i64 a.epoch) (.int .i64 a.pos) (.int .i64 a.seq) (.int .i64 a.last) (.string a.label) (.slice VI n ci) := by rw [hW3]; exact Sev.new rfl (Below.refl _ _)
                have HVI := hide hvi
                have hi3 := (how2.read.old_ homR_fine).on homR_fine hE3
                have hb03 := th hb1 (th hb2 hE3)
                clear hvi q0 q1 q2 q3 q4 q5 q6
                go_upto_region 4 with fail
                rw [← hW3]
                clear hW3
                obtain ⟨_, p0, p1, p2, p3, p4⟩ := HGB.out.on hb03
                obtain ⟨r0, r1, r2, r3, r4, r5, r6⟩ := HVI.out.on hNI (Below.refl _ _)
                go_wp2_with fail
                refine (HAD.out _ _ _ (hT.below (th hb0 hb03)) hi3).mono ?_
                rintro e w4 ⟨rfl, hb4⟩
                have hb04 := th hb03 hb4
                obtain ⟨_, p0, p1, p2, p3, p4⟩ := HGB.out.on hb04
                obtain ⟨r0, r1, r2, r3, r4, r5, r6⟩ := HVI.out.on hNI hb4
                go_wp2_with fail
                refine (HSP.out _ _ _ (hT.below (th hb0 hb04)) (hi3.on homR_fine hb4)).mono ?_
                rintro e w5 ⟨rfl, hb5⟩
                have hb05 := th hb04 hb5
                obtain ⟨_, p0, p1, p2, p3, p4⟩ := HGB.out.on hb05
                obtain ⟨r0, r1, r2, r3, r4, r5, r6⟩ := HVI.out.on hNI (th hb4 hb5)
                go_wp2_with fail
                refine (HMV.out _ _ _ (hT.below (th hb0 hb05)) (hi3.on homR_fine (th hb4 hb5))).mono ?_
                rintro e w6 ⟨hb6, V6, c6, rfl, how6⟩
                obtain ⟨W7, hW7⟩ : ∃ W7, W7 = w6.alloc (.cells #[.int .i64 a.gen, .int .i64 a.epoch, .int .i64 a.pos, .int .i64 a.seq, .int .i64 a.last, .string a.label, .slice V6 n c6] 26) := ⟨_, rfl⟩
                have hE7 : Below w6.heap.size w6 W7 := by rw [hW7]; exact alloc_below _ _
                have hN7 : w6.heap.size < W7.heap.size := by rw [hW7]; simp
                have hv7 : Sev W7 w6.heap.size (.int .i64 a.gen) (.int .i64 a.epoch) (.int .i64 a.pos) (.int .i64 a.seq) (.int .i64 a.last) (.string a.label) (.slice V6 n c6) := by rw [hW7]; exact Sev.new rfl (Below.refl _ _)
                have HV7 := hide hv7
                have hb37 := th hb4 (th hb5 (th hb6 hE7))
                have hb07 := th hb03 hb37
                clear hv7 p0 p1 p2 p3 p4 r0 r1 r2 r3 r4 r5 r6
                have hm7 := (how6.read.old_ homR_fine).on homR_fine hE7
                go_upto_region 7 with fail
                rw [← hW7]
                clear hW7
                obtain ⟨_, p0, p1, p2, p3, p4⟩ := HGB.out.on hb07
                obtain ⟨r0, r1, r2, r3, r4, r5, r6⟩ := HVI.out.on hNI hb37
                go_wp2_with fail
                refine (HSK.out _ _ _ (hT.below (th hb0 hb07)) (hi3.on homR_fine hb37)).mono ?_
                rintro e w8 ⟨hb8, V8, c8, rfl, how8⟩
                obtain ⟨W9, hW9⟩ : ∃ W9, W9 = (w8.alloc (.cells #[.int .i64 a.gen, .int .i64 a.epoch, .int .i64 a.pos, .int .i64 a.seq, .int .i64 a.last, .string a.label, .slice V8 n c8] 26)).alloc (.cells #[.int .i64 0, .int .i64 0, .int .i64 0, .int .i64 0, .int .i64 0, .string ⟨#[]⟩, .slice none 0 0] 26) := ⟨_, rfl⟩
                have hE9 : Below w8.heap.size w8 W9 := by rw [hW9]; exact (alloc_below _ _).alloc (by simp) _
                have hN9 : w8.heap.size < W9.heap.size := by rw [hW9]; simp; omega
                have hN9' : w8.heap.size + 1 < W9.heap.size := by rw [hW9]; simp
                have hv9 : Sev W9 w8.heap.size (.int .i64 a.gen) (.int .i64 a.epoch) (.int .i64 a.pos) (.int .i64 a.seq) (.int .i64 a.last) (.string a.label) (.slice V8 n c8) := by rw [hW9]; exact (Sev.new rfl (Below.refl _ _)).on (by simp) (alloc_below _ _)
                have hv9' : Sev W9 (w8.heap.size + 1) (.int .i64 0) (.int .i64 0) (.int .i64 0) (.int .i64 0) (.int .i64 0) (.string ⟨#[]⟩) (.slice none 0 0) := by rw [hW9]; exact Sev.new (by simp) (Below.refl _ _)
                have HV9 := hide hv9
                have HVN := hide hv9'
                have hb79 := th hb8 hE9
                have hb39 := th hb37 hb79
                have hb09 := th hb03 hb39
                clear hv9 hv9' p0 p1 p2 p3 p4 r0 r1 r2 r3 r4 r5 r6
                have hs9 := (how8.read.old_ homR_fine).on homR_fine hE9
                go_upto_region 9 with fail
                rw [← hW9]
                clear hW9
                obtain ⟨r0, r1, r2, r3, r4, r5, r6⟩ := HVI.out.on hNI hb39
                obtain ⟨q0, q1, q2, q3, q4, q5, q6⟩ := HSV.out.onB hN1 hb09
                go_wp2_with fail
                refine (HKA.out _ _ _ (hi3.on homR_fine hb39) (ha0.on homR_fine hb09)).mono ?_
                rintro e w10 ⟨rfl, hb10⟩
                have hb010 := th hb09 hb10
                have hb910 := hb10
                clear r0 r1 r2 r3 r4 r5 r6 q0 q1 q2 q3 q4 q5 q6
                obtain ⟨_, p0, p1, p2, p3, p4⟩ := HGB.out.on hb010
                go_wp2_with fail
                refine (HGE.out _).mono ?_
                rintro e w11 ⟨rfl, hb11⟩
                have hb911 := th hb10 hb11
                have hb011 := th hb010 hb11
                obtain ⟨_, p0, p1, p2, p3, p4⟩ := HGB.out.on hb011
                obtain ⟨q0, q1, q2, q3, q4, q5, q6⟩ := HSV.out.onB hN1 hb011
                go_wp2_with fail
                refine (HRA1.out _ (ha0.on homR_fine hb011)).mono ?_
                rintro e w12 ⟨rfl, hb12⟩
                have hb912 := th hb911 hb12
                have hb012 := th hb011 hb12
                obtain ⟨_, p0, p1, p2, p3, p4⟩ := HGB.out.on hb012
                obtain ⟨q0, q1, q2, q3, q4, q5, q6⟩ := HSV.out.onB hN1 hb012
                go_wp2_with fail
                refine (RSP.out _ (ha0.on homR_fine hb012)).mono ?_
                rintro e w13 ⟨rfl, hb13⟩
                have hb913 := th hb912 hb13
                have hb013 := th hb012 hb13
                clear q0 q1 q2 q3 q4 q5 q6
                obtain ⟨q0, q1, q2, q3, q4, q5, q6⟩ := HSV.out.onB hN1 hb013
                go_wp2_with fail
                refine (HTW.out _ (ha0.on homR_fine hb013)).mono ?_
                rintro e x1 ⟨hx1, VT, ct, rfl, howx⟩
                obtain ⟨X2, hX2⟩ : ∃ X2, X2 = x1.alloc (.cells #[.int .i64 a.gen, .int .i64 a.epoch, .int .i64 a.pos, .int .i64 a.seq, .int .i64 a.last, .string a.label, .slice VT n ct] 26) := ⟨_, rfl⟩
                have hEX : Below x1.heap.size x1 X2 := by rw [hX2]; exact alloc_below _ _
                have hNX : x1.heap.size < X2.heap.size := by rw [hX2]; simp
                have hvx : Sev X2 x1.heap.size (.int .i64 a.gen) (.int .i64 a.epoch) (.int .i64 a.pos) (.int .i64 a.seq) (.int .i64 a.last) (.string a.label) (.slice VT n ct) := by rw [hX2]; exact Sev.new rfl (Below.refl _ _)
                have hszx := hx1.size
                have howX := howx.below hEX
                obtain ⟨gb0, x0, _, _, _, e00, _, hgl0, _⟩ := howx.spot hzn
                obtain ⟨gb, x, A', n', c', e01, hgB, hgl, hxx, _, _, _, _, hcx, _, hfx, hnext, _⟩ := howX.spot hzn
                rw [e00] at e01
                injection e01 with e01
                injection e01 with e01
                subst e01
                subst e00
                obtain rfl : x = h := by have := HZ.out; rw [hxx] at this; injection this
                have howN := hnext (x.next + 1) HIN1.out
                obtain ⟨X3, hX3⟩ : ∃ X3, X3 = X2.setCell ⟨gb0, z * 3 + 1, none⟩ (.int .i64 (x.next + 1)) := ⟨_, rfl⟩
                rw [← hX3] at howN
                have hneq : x1.heap.size ≠ gb0 := by omega
                have hvx3 : Sev X3 x1.heap.size (.int .i64 a.gen) (.int .i64 a.epoch) (.int .i64 a.pos) (.int .i64 a.seq) (.int .i64 a.last) (.string a.label) (.slice (some ⟨gb0, 0, none⟩) n ct) := by
                  obtain ⟨z0, z1, z2, z3, z4, z5, z6⟩ := hvx
                  rw [hX3]
                  exact ⟨put_cell_other hneq z0, put_cell_other hneq z1, put_cell_other hneq z2, put_cell_other hneq z3, put_cell_other hneq z4, put_cell_other hneq z5, put_cell_other hneq z6⟩
                have hsk3 : Sl homR 3 X3 (Old X3) (some ⟨gb0, 0, none⟩) n ct SH := by rw [HSH.out]; exact howN.read.old_ homR_fine
                have hbx3 : Below w13.heap.size w13 X3 := by rw [hX3]; exact (th hx1 hEX).setCell (by show w13.heap.size ≤ gb0; omega) _
                have hb9x := th hb913 hbx3
                have hb0x := th hb013 hbx3
                have sx6 := hvx.2.2.2.2.2.2
                have I0 : (0 : Int) ≤ (z : Int) := by omega
                have I1 : (z : Int) < (n : Int) := by omega
                have HX3 := hide hX3
                have HVX3 := hide hvx3
                clear hvx howX hnext howN hX3 hvx3 hxx q0 q1 q2 q3 q4 q5 q6
                go_upto_region 21 with fail
                rw [← hX2]
                clear hX2
                go_upto_region 22 with fail
                rw [← HX3.out]
                clear sx6 hcx hfx
                obtain ⟨s0, s1, s2, s3, s4, s5, s6⟩ := HV9.out.on hN9 hb9x
                obtain ⟨t0, t1, t2, t3, t4, t5, t6⟩ := HVX3.out
                go_wp2_with fail
                refine (HKS.out _ _ _ _ _ (hs9.on homR_fine hb9x) hsk3).mono ?_
                rintro e w14 ⟨rfl, hb14⟩
                have hb914 := th hb9x hb14
                have hb014 := th hb0x hb14
                clear s0 s1 s2 s3 s4 s5 s6 t0 t1 t2 t3 t4 t5 t6
                obtain ⟨_, p0, p1, p2, p3, p4⟩ := HGB.out.on hb014
                go_wp2_with fail
                refine (HWH.out _).mono ?_
                rintro e w15 ⟨rfl, hb15⟩
                have hb915 := th hb914 hb15
                have hb015 := th hb014 hb15
                obtain ⟨_, p0, p1, p2, p3, p4⟩ := HGB.out.on hb015
                obtain ⟨q0, q1, q2, q3, q4, q5, q6⟩ := HSV.out.onB hN1 hb015
                go_wp2_with fail
                refine (RAD.out _ (ha0.on homR_fine hb015)).mono ?_
                rintro e w16 ⟨rfl, hb16⟩
                have hb916 := th hb915 hb16
                have hb016 := th hb015 hb16
                clear q0 q1 q2 q3 q4 q5 q6
                obtain ⟨_, p0, p1, p2, p3, p4⟩ := HGB.out.on hb016
                obtain ⟨q0, q1, q2, q3, q4, q5, q6⟩ := HSV.out.onB hN1 hb016
                go_wp2_with fail
                refine (RMV.out _ (ha0.on homR_fine hb016)).mono ?_
                rintro e w17 ⟨hb17, VR, cr, rfl, hsr⟩
                obtain ⟨W18, hW18⟩ : ∃ W18, W18 = w17.alloc (.cells #[.int .i64 a.gen, .int .i64 a.epoch, .int .i64 a.pos, .int .i64 a.seq, .int .i64 a.last, .string a.label, .slice VR n cr] 26) := ⟨_, rfl⟩
                have hE18 : Below w17.heap.size w17 W18 := by rw [hW18]; exact alloc_below _ _
                have hv18 : Sev W18 w17.heap.size (.int .i64 a.gen) (.int .i64 a.epoch) (.int .i64 a.pos) (.int .i64 a.seq) (.int .i64 a.last) (.string a.label) (.slice VR n cr) := by rw [hW18]; exact Sev.new rfl (Below.refl _ _)
                have hr18 := hsr.on homR_fine hE18
                have hb918 := th hb916 (th hb17 hE18)
                have hb018 := th hb016 (th hb17 hE18)
                have HV18 := hide hv18
                clear hv18 p0 p1 p2 p3 p4 q0 q1 q2 q3 q4 q5 q6
                go_upto_region 31 with fail
                rw [← hW18]
                clear hW18
                obtain ⟨m0, m1, m2, m3, m4, m5, m6⟩ := HV7.out.on hN7 (th hb79 hb918)
                obtain ⟨t0, t1, t2, t3, t4, t5, t6⟩ := HV18.out
                go_wp2_with fail
                refine (HKM.out _ _ _ _ _ (hm7.on homR_fine (th hb79 hb918)) hr18).mono ?_
                rintro e w19 ⟨rfl, hb19⟩
                go_wp2_with fail
                refine (wakes11 _ (hT.below (th hb0 (th hb018 hb19)))).mono ?_
                rintro e w20 ⟨rfl, hb20⟩
                go_wp2_with fail
                go_ret
                exact ⟨rfl, th hb0 (th (th hb018 hb19) hb20)⟩
            · obtain rfl : WB = false := by rw [← hWB]; exact decide_eq_false fun e => hisp ((isP_what hG what).2 e)
              clear hWB
              by_cases hF : h.next = g.data + 1 + g.spares
              · have hnw : ¬ PlaceOk g a (z : Int) what := fun e => hisp e.2.2.2
                have HAD := hide (fun V d w hT ha => HAN0.out V d (z : Int) what HL.out hnw w hT ha)
                have HMV := hide (fun V d w hT ha => HMN0.out V d (z : Int) what HL.out hnw w hT ha)
                unfold noAncV at HMV
                obtain rfl : K = 0 := by omega
                have HSK := hide (fun V d w hT ha => HKF0.out V d z HL.out hps h HZ.out hF w hT ha)
                unfold noAncV at HSK
                have q1' : (0 : Int) ≤ (z : Int) := hzz.1
                have q2' : (z : Int) < g.zones := hzz.2
                clear hG hO hps hhom hgd hgs hnx0 hK hnw
                rw [HGT.out] at HGE
                go_enter Tryd.func3, Tryd.ntmps3
                go_wp2_with fail
                rw [← hW0]
                clear p0 p1 p2 p3 p4 q0 q1 q2 q3 q4 q5 q6
                refine (HHV.out _ ha0).mono ?_
                rintro e w1 ⟨rfl, hb1⟩
                obtain ⟨q0, q1, q2, q3, q4, q5, q6⟩ := HSV.out.onB hN1 hb1
                go_wp2_with fail
                refine (HTW.out _ (ha0.on homR_fine hb1)).mono ?_
                rintro e w2 ⟨hb2, VI, ci, rfl, how2⟩
                obtain ⟨W3, hW3⟩ : ∃ W3, W3 = w2.alloc (.cells #[.int .i64 a.gen, .int .i64 a.epoch, .int .i64 a.pos, .int .i64 a.seq, .int .i64 a.last, .string a.label, .slice VI n ci] 26) := ⟨_, rfl⟩
                have hE3 : Below w2.heap.size w2 W3 := by rw [hW3]; exact alloc_below _ _
                have hNI : w2.heap.size < W3.heap.size := by rw [hW3]; simp
                have hvi : Sev W3 w2.heap.size (.int .i64 a.gen) (.int .i64 a.epoch) (.int .i64 a.pos) (.int .i64 a.seq) (.int .i64 a.last) (.string a.label) (.slice VI n ci) := by rw [hW3]; exact Sev.new rfl (Below.refl _ _)
                have HVI := hide hvi
                have hi3 := (how2.read.old_ homR_fine).on homR_fine hE3
                have hb03 := th hb1 (th hb2 hE3)
                clear hvi q0 q1 q2 q3 q4 q5 q6
                go_upto_region 4 with fail
                rw [← hW3]
                clear hW3
                obtain ⟨_, p0, p1, p2, p3, p4⟩ := HGB.out.on hb03
                obtain ⟨r0, r1, r2, r3, r4, r5, r6⟩ := HVI.out.on hNI (Below.refl _ _)
                go_wp2_with fail
                refine (HAD.out _ _ _ (hT.below (th hb0 hb03)) hi3).mono ?_
                rintro e w4 ⟨rfl, hb4⟩
                have hb04 := th hb03 hb4
                obtain ⟨_, p0, p1, p2, p3, p4⟩ := HGB.out.on hb04
                obtain ⟨r0, r1, r2, r3, r4, r5, r6⟩ := HVI.out.on hNI hb4
                go_wp2_with fail
                refine (HSP.out _ _ _ (hT.below (th hb0 hb04)) (hi3.on homR_fine hb4)).mono ?_
                rintro e w5 ⟨rfl, hb5⟩
                have hb05 := th hb04 hb5
                obtain ⟨_, p0, p1, p2, p3, p4⟩ := HGB.out.on hb05
                obtain ⟨r0, r1, r2, r3, r4, r5, r6⟩ := HVI.out.on hNI (th hb4 hb5)
                go_wp2_with fail
                refine (HMV.out _ _ _ (hT.below (th hb0 hb05)) (hi3.on homR_fine (th hb4 hb5))).mono ?_
                rintro e w6 ⟨rfl, hb6⟩
                obtain ⟨W7, hW7⟩ : ∃ W7, W7 = w6.alloc (.cells #[.int .i64 0, .int .i64 0, .int .i64 0, .int .i64 0, .int .i64 0, .string ⟨#[]⟩, .slice none 0 0] 26) := ⟨_, rfl⟩
                have hE7 : Below w6.heap.size w6 W7 := by rw [hW7]; exact alloc_below _ _
                have hN7 : w6.heap.size < W7.heap.size := by rw [hW7]; simp
                have hv7 : Sev W7 w6.heap.size (.int .i64 0) (.int .i64 0) (.int .i64 0) (.int .i64 0) (.int .i64 0) (.string ⟨#[]⟩) (.slice none 0 0) := by rw [hW7]; exact Sev.new rfl (Below.refl _ _)
                have HV7 := hide hv7
                have hb37 := th hb4 (th hb5 (th hb6 hE7))
                have hb07 := th hb03 hb37
                clear hv7 p0 p1 p2 p3 p4 r0 r1 r2 r3 r4 r5 r6
                go_upto_region 7 with fail
                rw [← hW7]
                clear hW7
                obtain ⟨_, p0, p1, p2, p3, p4⟩ := HGB.out.on hb07
                obtain ⟨r0, r1, r2, r3, r4, r5, r6⟩ := HVI.out.on hNI hb37
                go_wp2_with fail
                refine (HSK.out _ _ _ (hT.below (th hb0 hb07)) (hi3.on homR_fine hb37)).mono ?_
                rintro e w8 ⟨rfl, hb8⟩
                obtain ⟨W9, hW9⟩ : ∃ W9, W9 = (w8.alloc (.cells #[.int .i64 0, .int .i64 0, .int .i64 0, .int .i64 0, .int .i64 0, .string ⟨#[]⟩, .slice none 0 0] 26)).alloc (.cells #[.int .i64 0, .int .i64 0, .int .i64 0, .int .i64 0, .int .i64 0, .string ⟨#[]⟩, .slice none 0 0] 26) := ⟨_, rfl⟩
                have hE9 : Below w8.heap.size w8 W9 := by rw [hW9]; exact (alloc_below _ _).alloc (by simp) _
                have hN9 : w8.heap.size < W9.heap.size := by rw [hW9]; simp; omega
                have hN9' : w8.heap.size + 1 < W9.heap.size := by rw [hW9]; simp
                have hv9 : Sev W9 w8.heap.size (.int .i64 0) (.int .i64 0) (.int .i64 0) (.int .i64 0) (.int .i64 0) (.string ⟨#[]⟩) (.slice none 0 0) := by rw [hW9]; exact (Sev.new rfl (Below.refl _ _)).on (by simp) (alloc_below _ _)
                have hv9' : Sev W9 (w8.heap.size + 1) (.int .i64 0) (.int .i64 0) (.int .i64 0) (.int .i64 0) (.int .i64 0) (.string ⟨#[]⟩) (.slice none 0 0) := by rw [hW9]; exact Sev.new (by simp) (Below.refl _ _)
                have HV9 := hide hv9
                have HVN := hide hv9'
                have hb79 := th hb8 hE9
                have hb39 := th hb37 hb79
                have hb09 := th hb03 hb39
                clear hv9 hv9' p0 p1 p2 p3 p4 r0 r1 r2 r3 r4 r5 r6
                go_upto_region 9 with fail
                rw [← hW9]
                clear hW9
                obtain ⟨r0, r1, r2, r3, r4, r5, r6⟩ := HVI.out.on hNI hb39
                obtain ⟨q0, q1, q2, q3, q4, q5, q6⟩ := HSV.out.onB hN1 hb09
                go_wp2_with fail
                refine (HKA.out _ _ _ (hi3.on homR_fine hb39) (ha0.on homR_fine hb09)).mono ?_
                rintro e w10 ⟨rfl, hb10⟩
                have hb010 := th hb09 hb10
                have hb910 := hb10
                clear r0 r1 r2 r3 r4 r5 r6 q0 q1 q2 q3 q4 q5 q6
                obtain ⟨_, p0, p1, p2, p3, p4⟩ := HGB.out.on hb010
                go_wp2_with fail
                refine (HGE.out _).mono ?_
                rintro e w11 ⟨rfl, hb11⟩
                have hb911 := th hb10 hb11
                have hb011 := th hb010 hb11
                obtain ⟨_, p0, p1, p2, p3, p4⟩ := HGB.out.on hb011
                obtain ⟨q0, q1, q2, q3, q4, q5, q6⟩ := HSV.out.onB hN1 hb011
                go_wp2_with fail
                refine (HRA1.out _ (ha0.on homR_fine hb011)).mono ?_
                rintro e w12 ⟨rfl, hb12⟩
                have hb912 := th hb911 hb12
                have hb012 := th hb011 hb12
                obtain ⟨_, p0, p1, p2, p3, p4⟩ := HGB.out.on hb012
                obtain ⟨q0, q1, q2, q3, q4, q5, q6⟩ := HSV.out.onB hN1 hb012
                go_wp2_with fail
                refine (RSP.out _ (ha0.on homR_fine hb012)).mono ?_
                rintro e w13 ⟨rfl, hb13⟩
                have hb913 := th hb912 hb13
                have hb013 := th hb012 hb13
                clear q0 q1 q2 q3 q4 q5 q6
                obtain ⟨s0, s1, s2, s3, s4, s5, s6⟩ := HV9.out.on hN9 hb913
                obtain ⟨n0, n1, n2, n3, n4, n5, n6⟩ := HVN.out.on hN9' hb913
                go_wp2_with fail
                refine (HNN.out _).mono ?_
                rintro e w14 ⟨rfl, hb14⟩
                have hb914 := th hb913 hb14
                have hb014 := th hb013 hb14
                clear s0 s1 s2 s3 s4 s5 s6 n0 n1 n2 n3 n4 n5 n6
                obtain ⟨_, p0, p1, p2, p3, p4⟩ := HGB.out.on hb014
                go_wp2_with fail
                refine (HWH.out _).mono ?_
                rintro e w15 ⟨rfl, hb15⟩
                have hb915 := th hb914 hb15
                have hb015 := th hb014 hb15
                obtain ⟨m0, m1, m2, m3, m4, m5, m6⟩ := HV7.out.on hN7 (th hb79 hb915)
                obtain ⟨n0, n1, n2, n3, n4, n5, n6⟩ := HVN.out.on hN9' hb915
                go_wp2_with fail
                refine (HNN.out _).mono ?_
                rintro e w16 ⟨rfl, hb16⟩
                go_wp2_with fail
                refine (wakes11 _ (hT.below (th hb0 (th hb015 hb16)))).mono ?_
                rintro e w20 ⟨rfl, hb20⟩
                go_wp2_with fail
                go_ret
                exact ⟨rfl, th hb0 (th (th hb015 hb16) hb20)⟩
              · have hnw : ¬ PlaceOk g a (z : Int) what := fun e => hisp e.2.2.2
                have HAD := hide (fun V d w hT ha => HAN0.out V d (z : Int) what HL.out hnw w hT ha)
                have HMV := hide (fun V d w hT ha => HMN0.out V d (z : Int) what HL.out hnw w hT ha)
                unfold noAncV at HMV
                have hlt : h.next < g.data + 1 + g.spares := by omega
                have tK : (K == 0) = false := by simp; omega
                have e1 : IntKind.i64.wrap (h.next + 1) = h.next + 1 := IntWalk.i64_in _ (by omega)
                have HIN1 : Hid (InI (h.next + 1)) := hide ⟨by omega, by omega⟩
                have hzn : z < n := by rw [← HLEN.out]; exact (List.getElem?_eq_some_iff.1 HZ.out).1
                have HSK := hide (fun V d w hT ha => HKY0.out V d z HL.out hps h HZ.out hlt w hT ha)
                obtain ⟨SH, hSH⟩ : ∃ SH, SH = (skipA a z h).homes := ⟨_, rfl⟩
                have hSH2 : SH = a.homes.set z { h with next := h.next + 1 } := hSH
                have HSH := hide hSH2
                have HKS := hide (fun V d V' d' w h1 h2 => HKE0.out (skipA a z h) (skipA a z h) V V' n d n d' w h1 h2 hn6 (fun x hx => by have := (skip_light HL.out HZ.out).2.2 x hx; omega))
                rw [decide_eq_true (rfl : skipA a z h = skipA a z h)] at HKS
                rw [← hSH] at HSK HKS
                unfold skipA at HSK HKS
                dsimp only at HSK HKS
                have q1' : (0 : Int) ≤ (z : Int) := hzz.1
                have q2' : (z : Int) < g.zones := hzz.2
                clear hG hO hps hhom hgd hgs hnx0 hK hnw hlt hSH hSH2
                rw [HGT.out] at HGE
                go_enter Tryd.func3, Tryd.ntmps3
                go_wp2_with fail
                rw [← hW0]
                clear p0 p1 p2 p3 p4 q0 q1 q2 q3 q4 q5 q6
                refine (HHV.out _ ha0).mono ?_
                rintro e w1 ⟨rfl, hb1⟩
                obtain ⟨q0, q1, q2, q3, q4, q5, q6⟩ := HSV.out.onB hN1 hb1
                go_wp2_with fail
                refine (HTW.out _ (ha0.on homR_fine hb1)).mono ?_
                rintro e w2 ⟨hb2, VI, ci, rfl, how2⟩
                obtain ⟨W3, hW3⟩ : ∃ W3, W3 = w2.alloc (.cells #[.int .i64 a.gen, .int .i64 a.epoch, .int .i64 a.pos, .int .i64 a.seq, .int .i64 a.last, .string a.label, .slice VI n ci] 26) := ⟨_, rfl⟩
                have hE3 : Below w2.heap.size w2 W3 := by rw [hW3]; exact alloc_below _ _
                have hNI : w2.heap.size < W3.heap.size := by rw [hW3]; simp
                have hvi : Sev W3 w2.heap.size (.int .i64 a.gen) (.int .i64 a.epoch) (.int .i64 a.pos) (.int .i64 a.seq) (.int .i64 a.last) (.string a.label) (.slice VI n ci) := by rw [hW3]; exact Sev.new rfl (Below.refl _ _)
                have HVI := hide hvi
                have hi3 := (how2.read.old_ homR_fine).on homR_fine hE3
                have hb03 := th hb1 (th hb2 hE3)
                clear hvi q0 q1 q2 q3 q4 q5 q6
                go_upto_region 4 with fail
                rw [← hW3]
                clear hW3
                obtain ⟨_, p0, p1, p2, p3, p4⟩ := HGB.out.on hb03
                obtain ⟨r0, r1, r2, r3, r4, r5, r6⟩ := HVI.out.on hNI (Below.refl _ _)
                go_wp2_with fail
                refine (HAD.out _ _ _ (hT.below (th hb0 hb03)) hi3).mono ?_
                rintro e w4 ⟨rfl, hb4⟩
                have hb04 := th hb03 hb4
                obtain ⟨_, p0, p1, p2, p3, p4⟩ := HGB.out.on hb04
                obtain ⟨r0, r1, r2, r3, r4, r5, r6⟩ := HVI.out.on hNI hb4
                go_wp2_with fail
                refine (HSP.out _ _ _ (hT.below (th hb0 hb04)) (hi3.on homR_fine hb4)).mono ?_
                rintro e w5 ⟨rfl, hb5⟩
                have hb05 := th hb04 hb5
                obtain ⟨_, p0, p1, p2, p3, p4⟩ := HGB.out.on hb05
                obtain ⟨r0, r1, r2, r3, r4, r5, r6⟩ := HVI.out.on hNI (th hb4 hb5)
                go_wp2_with fail
                refine (HMV.out _ _ _ (hT.below (th hb0 hb05)) (hi3.on homR_fine (th hb4 hb5))).mono ?_
                rintro e w6 ⟨rfl, hb6⟩
                obtain ⟨W7, hW7⟩ : ∃ W7, W7 = w6.alloc (.cells #[.int .i64 0, .int .i64 0, .int .i64 0, .int .i64 0, .int .i64 0, .string ⟨#[]⟩, .slice none 0 0] 26) := ⟨_, rfl⟩
                have hE7 : Below w6.heap.size w6 W7 := by rw [hW7]; exact alloc_below _ _
                have hN7 : w6.heap.size < W7.heap.size := by rw [hW7]; simp
                have hv7 : Sev W7 w6.heap.size (.int .i64 0) (.int .i64 0) (.int .i64 0) (.int .i64 0) (.int .i64 0) (.string ⟨#[]⟩) (.slice none 0 0) := by rw [hW7]; exact Sev.new rfl (Below.refl _ _)
                have HV7 := hide hv7
                have hb37 := th hb4 (th hb5 (th hb6 hE7))
                have hb07 := th hb03 hb37
                clear hv7 p0 p1 p2 p3 p4 r0 r1 r2 r3 r4 r5 r6
                go_upto_region 7 with fail
                rw [← hW7]
                clear hW7
                obtain ⟨_, p0, p1, p2, p3, p4⟩ := HGB.out.on hb07
                obtain ⟨r0, r1, r2, r3, r4, r5, r6⟩ := HVI.out.on hNI hb37
                go_wp2_with fail
                refine (HSK.out _ _ _ (hT.below (th hb0 hb07)) (hi3.on homR_fine hb37)).mono ?_
                rintro e w8 ⟨hb8, V8, c8, rfl, how8⟩
                obtain ⟨W9, hW9⟩ : ∃ W9, W9 = (w8.alloc (.cells #[.int .i64 a.gen, .int .i64 a.epoch, .int .i64 a.pos, .int .i64 a.seq, .int .i64 a.last, .string a.label, .slice V8 n c8] 26)).alloc (.cells #[.int .i64 0, .int .i64 0, .int .i64 0, .int .i64 0, .int .i64 0, .string ⟨#[]⟩, .slice none 0 0] 26) := ⟨_, rfl⟩
                have hE9 : Below w8.heap.size w8 W9 := by rw [hW9]; exact (alloc_below _ _).alloc (by simp) _
                have hN9 : w8.heap.size < W9.heap.size := by rw [hW9]; simp; omega
                have hN9' : w8.heap.size + 1 < W9.heap.size := by rw [hW9]; simp
                have hv9 : Sev W9 w8.heap.size (.int .i64 a.gen) (.int .i64 a.epoch) (.int .i64 a.pos) (.int .i64 a.seq) (.int .i64 a.last) (.string a.label) (.slice V8 n c8) := by rw [hW9]; exact (Sev.new rfl (Below.refl _ _)).on (by simp) (alloc_below _ _)
                have hv9' : Sev W9 (w8.heap.size + 1) (.int .i64 0) (.int .i64 0) (.int .i64 0) (.int .i64 0) (.int .i64 0) (.string ⟨#[]⟩) (.slice none 0 0) := by rw [hW9]; exact Sev.new (by simp) (Below.refl _ _)
                have HV9 := hide hv9
                have HVN := hide hv9'
                have hb79 := th hb8 hE9
                have hb39 := th hb37 hb79
                have hb09 := th hb03 hb39
                clear hv9 hv9' p0 p1 p2 p3 p4 r0 r1 r2 r3 r4 r5 r6
                have hs9 := (how8.read.old_ homR_fine).on homR_fine hE9
                go_upto_region 9 with fail
                rw [← hW9]
                clear hW9
                obtain ⟨r0, r1, r2, r3, r4, r5, r6⟩ := HVI.out.on hNI hb39
                obtain ⟨q0, q1, q2, q3, q4, q5, q6⟩ := HSV.out.onB hN1 hb09
                go_wp2_with fail
                refine (HKA.out _ _ _ (hi3.on homR_fine hb39) (ha0.on homR_fine hb09)).mono ?_
                rintro e w10 ⟨rfl, hb10⟩
                have hb010 := th hb09 hb10
                have hb910 := hb10
                clear r0 r1 r2 r3 r4 r5 r6 q0 q1 q2 q3 q4 q5 q6
                obtain ⟨_, p0, p1, p2, p3, p4⟩ := HGB.out.on hb010
                go_wp2_with fail
                refine (HGE.out _).mono ?_
                rintro e w11 ⟨rfl, hb11⟩
                have hb911 := th hb10 hb11
                have hb011 := th hb010 hb11
                obtain ⟨_, p0, p1, p2, p3, p4⟩ := HGB.out.on hb011
                obtain ⟨q0, q1, q2, q3, q4, q5, q6⟩ := HSV.out.onB hN1 hb011
                go_wp2_with fail
                refine (HRA1.out _ (ha0.on homR_fine hb011)).mono ?_
                rintro e w12 ⟨rfl, hb12⟩
                have hb912 := th hb911 hb12
                have hb012 := th hb011 hb12
                obtain ⟨_, p0, p1, p2, p3, p4⟩ := HGB.out.on hb012
                obtain ⟨q0, q1, q2, q3, q4, q5, q6⟩ := HSV.out.onB hN1 hb012
                go_wp2_with fail
                refine (RSP.out _ (ha0.on homR_fine hb012)).mono ?_
                rintro e w13 ⟨rfl, hb13⟩
                have hb913 := th hb912 hb13
                have hb013 := th hb012 hb13
                clear q0 q1 q2 q3 q4 q5 q6
                obtain ⟨q0, q1, q2, q3, q4, q5, q6⟩ := HSV.out.onB hN1 hb013
                go_wp2_with fail
                refine (HTW.out _ (ha0.on homR_fine hb013)).mono ?_
                rintro e x1 ⟨hx1, VT, ct, rfl, howx⟩
                obtain ⟨X2, hX2⟩ : ∃ X2, X2 = x1.alloc (.cells #[.int .i64 a.gen, .int .i64 a.epoch, .int .i64 a.pos, .int .i64 a.seq, .int .i64 a.last, .string a.label, .slice VT n ct] 26) := ⟨_, rfl⟩
                have hEX : Below x1.heap.size x1 X2 := by rw [hX2]; exact alloc_below _ _
                have hNX : x1.heap.size < X2.heap.size := by rw [hX2]; simp
                have hvx : Sev X2 x1.heap.size (.int .i64 a.gen) (.int .i64 a.epoch) (.int .i64 a.pos) (.int .i64 a.seq) (.int .i64 a.last) (.string a.label) (.slice VT n ct) := by rw [hX2]; exact Sev.new rfl (Below.refl _ _)
                have hszx := hx1.size
                have howX := howx.below hEX
                obtain ⟨gb0, x0, _, _, _, e00, _, hgl0, _⟩ := howx.spot hzn
                obtain ⟨gb, x, A', n', c', e01, hgB, hgl, hxx, _, _, _, _, hcx, _, hfx, hnext, _⟩ := howX.spot hzn
                rw [e00] at e01
                injection e01 with e01
                injection e01 with e01
                subst e01
                subst e00
                obtain rfl : x = h := by have := HZ.out; rw [hxx] at this; injection this
                have howN := hnext (x.next + 1) HIN1.out
                obtain ⟨X3, hX3⟩ : ∃ X3, X3 = X2.setCell ⟨gb0, z * 3 + 1, none⟩ (.int .i64 (x.next + 1)) := ⟨_, rfl⟩
                rw [← hX3] at howN
                have hneq : x1.heap.size ≠ gb0 := by omega
                have hvx3 : Sev X3 x1.heap.size (.int .i64 a.gen) (.int .i64 a.epoch) (.int .i64 a.pos) (.int .i64 a.seq) (.int .i64 a.last) (.string a.label) (.slice (some ⟨gb0, 0, none⟩) n ct) := by
                  obtain ⟨z0, z1, z2, z3, z4, z5, z6⟩ := hvx
                  rw [hX3]
                  exact ⟨put_cell_other hneq z0, put_cell_other hneq z1, put_cell_other hneq z2, put_cell_other hneq z3, put_cell_other hneq z4, put_cell_other hneq z5, put_cell_other hneq z6⟩
                have hsk3 : Sl homR 3 X3 (Old X3) (some ⟨gb0, 0, none⟩) n ct SH := by rw [HSH.out]; exact howN.read.old_ homR_fine
                have hbx3 : Below w13.heap.size w13 X3 := by rw [hX3]; exact (th hx1 hEX).setCell (by show w13.heap.size ≤ gb0; omega) _
                have hb9x := th hb913 hbx3
                have hb0x := th hb013 hbx3
                have sx6 := hvx.2.2.2.2.2.2
                have I0 : (0 : Int) ≤ (z : Int) := by omega
                have I1 : (z : Int) < (n : Int) := by omega
                have HX3 := hide hX3
                have HVX3 := hide hvx3
                clear hvx howX hnext howN hX3 hvx3 hxx q0 q1 q2 q3 q4 q5 q6
                go_upto_region 21 with fail
                rw [← hX2]
                clear hX2
                go_upto_region 22 with fail
                rw [← HX3.out]
                clear sx6 hcx hfx
                obtain ⟨s0, s1, s2, s3, s4, s5, s6⟩ := HV9.out.on hN9 hb9x
                obtain ⟨t0, t1, t2, t3, t4, t5, t6⟩ := HVX3.out
                go_wp2_with fail
                refine (HKS.out _ _ _ _ _ (hs9.on homR_fine hb9x) hsk3).mono ?_
                rintro e w14 ⟨rfl, hb14⟩
                have hb914 := th hb9x hb14
                have hb014 := th hb0x hb14
                clear s0 s1 s2 s3 s4 s5 s6 t0 t1 t2 t3 t4 t5 t6
                obtain ⟨_, p0, p1, p2, p3, p4⟩ := HGB.out.on hb014
                go_wp2_with fail
                refine (HWH.out _).mono ?_
                rintro e w15 ⟨rfl, hb15⟩
                have hb915 := th hb914 hb15
                have hb015 := th hb014 hb15
                obtain ⟨m0, m1, m2, m3, m4, m5, m6⟩ := HV7.out.on hN7 (th hb79 hb915)
                obtain ⟨n0, n1, n2, n3, n4, n5, n6⟩ := HVN.out.on hN9' hb915
                go_wp2_with fail
                refine (HNN.out _).mono ?_
                rintro e w16 ⟨rfl, hb16⟩
                go_wp2_with fail
                refine (wakes11 _ (hT.below (th hb0 (th hb015 hb16)))).mono ?_
                rintro e w20 ⟨rfl, hb20⟩
                go_wp2_with fail
                go_ret
                exact ⟨rfl, th hb0 (th (th hb015 hb16) hb20)⟩
          · have hz1' : g.zones ≤ zone := by omega
            have hno : ¬ PlaceOk g a zone what := fun e => hz1 e.2.2.1.2
            have hnoP : ¬ PlaceOk g a zone (-1) := fun e => hz1 e.2.2.1.2
            have HAD := hide (fun V d w hT h => HAN0.out V d zone what HL.out hno w hT h)
            have HSP := hide (fun V d w hT h => HSN0.out V d zone HL.out hnoP w hT h)
            have HMV := hide (fun V d w hT h => HMN0.out V d zone what HL.out hno w hT h)
            have HSK := hide (fun V d w hT h => HKN0.out V d zone HL.out hnoP w hT h)
            unfold noAncV at HMV HSK
            have hz1b : decide (zone < g.zones) = false := decide_eq_false hz1
            clear hno hnoP hG hO hz1'
            rw [HGT.out] at HGE
            have HRA1 := hide (fun w h => HRA0.out HL.out w h)
            go_enter Tryd.func3, Tryd.ntmps3
            go_wp2_with fail
            rw [← hW0]
            clear p0 p1 p2 p3 p4 q0 q1 q2 q3 q4 q5 q6
            refine (HHV.out _ ha0).mono ?_
            rintro e w1 ⟨rfl, hb1⟩
            obtain ⟨q0, q1, q2, q3, q4, q5, q6⟩ := HSV.out.onB hN1 hb1
            go_wp2_with fail
            refine (HTW.out _ (ha0.on homR_fine hb1)).mono ?_
            rintro e w2 ⟨hb2, VI, ci, rfl, how2⟩
            obtain ⟨W3, hW3⟩ : ∃ W3, W3 = w2.alloc (.cells #[.int .i64 a.gen, .int .i64 a.epoch, .int .i64 a.pos, .int .i64 a.seq, .int .i64 a.last, .string a.label, .slice VI n ci] 26) := ⟨_, rfl⟩
            have hE3 : Below w2.heap.size w2 W3 := by rw [hW3]; exact alloc_below _ _
            have hNI : w2.heap.size < W3.heap.size := by rw [hW3]; simp
            have hvi : Sev W3 w2.heap.size (.int .i64 a.gen) (.int .i64 a.epoch) (.int .i64 a.pos) (.int .i64 a.seq) (.int .i64 a.last) (.string a.label) (.slice VI n ci) := by rw [hW3]; exact Sev.new rfl (Below.refl _ _)
            have HVI := hide hvi
            have hi3 := (how2.read.old_ homR_fine).on homR_fine hE3
            have hb03 := th hb1 (th hb2 hE3)
            clear hvi q0 q1 q2 q3 q4 q5 q6
            go_upto_region 4 with fail
            rw [← hW3]
            clear hW3
            obtain ⟨_, p0, p1, p2, p3, p4⟩ := HGB.out.on hb03
            obtain ⟨r0, r1, r2, r3, r4, r5, r6⟩ := HVI.out.on hNI (Below.refl _ _)
            go_wp2_with fail
            refine (HAD.out _ _ _ (hT.below (th hb0 hb03)) hi3).mono ?_
            rintro e w4 ⟨rfl, hb4⟩
            have hb04 := th hb03 hb4
            obtain ⟨_, p0, p1, p2, p3, p4⟩ := HGB.out.on hb04
            obtain ⟨r0, r1, r2, r3, r4, r5, r6⟩ := HVI.out.on hNI hb4
            go_wp2_with fail
            refine (HSP.out _ _ _ (hT.below (th hb0 hb04)) (hi3.on homR_fine hb4)).mono ?_
            rintro e w5 ⟨rfl, hb5⟩
            have hb05 := th hb04 hb5
            obtain ⟨_, p0, p1, p2, p3, p4⟩ := HGB.out.on hb05
            obtain ⟨r0, r1, r2, r3, r4, r5, r6⟩ := HVI.out.on hNI (th hb4 hb5)
            go_wp2_with fail
            refine (HMV.out _ _ _ (hT.below (th hb0 hb05)) (hi3.on homR_fine (th hb4 hb5))).mono ?_
            rintro e w6 ⟨rfl, hb6⟩
            obtain ⟨W7, hW7⟩ : ∃ W7, W7 = w6.alloc (.cells #[.int .i64 0, .int .i64 0, .int .i64 0, .int .i64 0, .int .i64 0, .string ⟨#[]⟩, .slice none 0 0] 26) := ⟨_, rfl⟩
            have hE7 : Below w6.heap.size w6 W7 := by rw [hW7]; exact alloc_below _ _
            have hN7 : w6.heap.size < W7.heap.size := by rw [hW7]; simp
            have hv7 : Sev W7 w6.heap.size (.int .i64 0) (.int .i64 0) (.int .i64 0) (.int .i64 0) (.int .i64 0) (.string ⟨#[]⟩) (.slice none 0 0) := by rw [hW7]; exact Sev.new rfl (Below.refl _ _)
            have HV7 := hide hv7
            have hb37 := th hb4 (th hb5 (th hb6 hE7))
            have hb07 := th hb03 hb37
            clear hv7 p0 p1 p2 p3 p4 r0 r1 r2 r3 r4 r5 r6
            go_upto_region 7 with fail
            rw [← hW7]
            clear hW7
            obtain ⟨_, p0, p1, p2, p3, p4⟩ := HGB.out.on hb07
            obtain ⟨r0, r1, r2, r3, r4, r5, r6⟩ := HVI.out.on hNI hb37
            go_wp2_with fail
            refine (HSK.out _ _ _ (hT.below (th hb0 hb07)) (hi3.on homR_fine hb37)).mono ?_
            rintro e w8 ⟨rfl, hb8⟩
            obtain ⟨W9, hW9⟩ : ∃ W9, W9 = (w8.alloc (.cells #[.int .i64 0, .int .i64 0, .int .i64 0, .int .i64 0, .int .i64 0, .string ⟨#[]⟩, .slice none 0 0] 26)).alloc (.cells #[.int .i64 0, .int .i64 0, .int .i64 0, .int .i64 0, .int .i64 0, .string ⟨#[]⟩, .slice none 0 0] 26) := ⟨_, rfl⟩
            have hE9 : Below w8.heap.size w8 W9 := by rw [hW9]; exact (alloc_below _ _).alloc (by simp) _
            have hN9 : w8.heap.size < W9.heap.size := by rw [hW9]; simp; omega
            have hN9' : w8.heap.size + 1 < W9.heap.size := by rw [hW9]; simp
            have hv9 : Sev W9 w8.heap.size (.int .i64 0) (.int .i64 0) (.int .i64 0) (.int .i64 0) (.int .i64 0) (.string ⟨#[]⟩) (.slice none 0 0) := by rw [hW9]; exact (Sev.new rfl (Below.refl _ _)).on (by simp) (alloc_below _ _)
            have hv9' : Sev W9 (w8.heap.size + 1) (.int .i64 0) (.int .i64 0) (.int .i64 0) (.int .i64 0) (.int .i64 0) (.string ⟨#[]⟩) (.slice none 0 0) := by rw [hW9]; exact Sev.new (by simp) (Below.refl _ _)
            have HV9 := hide hv9
            have HVN := hide hv9'
            have hb79 := th hb8 hE9
            have hb39 := th hb37 hb79
            have hb09 := th hb03 hb39
            clear hv9 hv9' p0 p1 p2 p3 p4 r0 r1 r2 r3 r4 r5 r6
            go_upto_region 9 with fail
            rw [← hW9]
            clear hW9
            obtain ⟨r0, r1, r2, r3, r4, r5, r6⟩ := HVI.out.on hNI hb39
            obtain ⟨q0, q1, q2, q3, q4, q5, q6⟩ := HSV.out.onB hN1 hb09
            go_wp2_with fail
            refine (HKA.out _ _ _ (hi3.on homR_fine hb39) (ha0.on homR_fine hb09)).mono ?_
            rintro e w10 ⟨rfl, hb10⟩
            have hb010 := th hb09 hb10
            have hb910 := hb10
            clear r0 r1 r2 r3 r4 r5 r6 q0 q1 q2 q3 q4 q5 q6
            obtain ⟨_, p0, p1, p2, p3, p4⟩ := HGB.out.on hb010
            go_wp2_with fail
            refine (HGE.out _).mono ?_
            rintro e w11 ⟨rfl, hb11⟩
            have hb911 := th hb10 hb11
            have hb011 := th hb010 hb11
            obtain ⟨_, p0, p1, p2, p3, p4⟩ := HGB.out.on hb011
            obtain ⟨q0, q1, q2, q3, q4, q5, q6⟩ := HSV.out.onB hN1 hb011
            go_wp2_with fail
            refine (HRA1.out _ (ha0.on homR_fine hb011)).mono ?_
            rintro e w12 ⟨rfl, hb12⟩
            have hb912 := th hb911 hb12
            have hb012 := th hb011 hb12
            obtain ⟨_, p0, p1, p2, p3, p4⟩ := HGB.out.on hb012
            obtain ⟨m0, m1, m2, m3, m4, m5, m6⟩ := HV7.out.on hN7 (th hb79 hb912)
            obtain ⟨n0, n1, n2, n3, n4, n5, n6⟩ := HVN.out.on hN9' hb912
            go_wp2_with fail
            refine (HNN.out _).mono ?_
            rintro e w14 ⟨rfl, hb14⟩
            have hb914 := th hb912 hb14
            have hb014 := th hb012 hb14
            clear m0 m1 m2 m3 m4 m5 m6 n0 n1 n2 n3 n4 n5 n6
            obtain ⟨s0, s1, s2, s3, s4, s5, s6⟩ := HV9.out.on hN9 hb914
            obtain ⟨n0, n1, n2, n3, n4, n5, n6⟩ := HVN.out.on hN9' hb914
            go_wp2_with fail
            refine (HNN.out _).mono ?_
            rintro e w15 ⟨rfl, hb15⟩
            go_wp2_with fail
            refine (wakes11 _ (hT.below (th hb0 (th hb014 hb15)))).mono ?_
            rintro e w20 ⟨rfl, hb20⟩
            go_wp2_with fail
            go_ret
            exact ⟨rfl, th hb0 (th (th hb014 hb15) hb20)⟩
        · have hz0' : zone < 0 := by omega
          have hno : ¬ PlaceOk g a zone what := fun e => hz0 e.2.2.1.1
          have hnoP : ¬ PlaceOk g a zone (-1) := fun e => hz0 e.2.2.1.1
          have HAD := hide (fun V d w hT h => HAN0.out V d zone what HL.out hno w hT h)
          have HSP := hide (fun V d w hT h => HSN0.out V d zone HL.out hnoP w hT h)
          have HMV := hide (fun V d w hT h => HMN0.out V d zone what HL.out hno w hT h)
          have HSK := hide (fun V d w hT h => HKN0.out V d zone HL.out hnoP w hT h)
          unfold noAncV at HMV HSK
          clear hno hnoP hz0 hG hO
          rw [HGT.out] at HGE
          have HRA1 := hide (fun w h => HRA0.out HL.out w h)
          go_enter Tryd.func3, Tryd.ntmps3
          go_wp2_with fail
          rw [← hW0]
          clear p0 p1 p2 p3 p4 q0 q1 q2 q3 q4 q5 q6
          refine (HHV.out _ ha0).mono ?_
          rintro e w1 ⟨rfl, hb1⟩
          obtain ⟨q0, q1, q2, q3, q4, q5, q6⟩ := HSV.out.onB hN1 hb1
          go_wp2_with fail
          refine (HTW.out _ (ha0.on homR_fine hb1)).mono ?_
          rintro e w2 ⟨hb2, VI, ci, rfl, how2⟩
          obtain ⟨W3, hW3⟩ : ∃ W3, W3 = w2.alloc (.cells #[.int .i64 a.gen, .int .i64 a.epoch, .int .i64 a.pos, .int .i64 a.seq, .int .i64 a.last, .string a.label, .slice VI n ci] 26) := ⟨_, rfl⟩
          have hE3 : Below w2.heap.size w2 W3 := by rw [hW3]; exact alloc_below _ _
          have hNI : w2.heap.size < W3.heap.size := by rw [hW3]; simp
          have hvi : Sev W3 w2.heap.size (.int .i64 a.gen) (.int .i64 a.epoch) (.int .i64 a.pos) (.int .i64 a.seq) (.int .i64 a.last) (.string a.label) (.slice VI n ci) := by rw [hW3]; exact Sev.new rfl (Below.refl _ _)
          have HVI := hide hvi
          have hi3 := (how2.read.old_ homR_fine).on homR_fine hE3
          have hb03 := th hb1 (th hb2 hE3)
          clear hvi q0 q1 q2 q3 q4 q5 q6
          go_upto_region 4 with fail
          rw [← hW3]
          clear hW3
          obtain ⟨_, p0, p1, p2, p3, p4⟩ := HGB.out.on hb03
          obtain ⟨r0, r1, r2, r3, r4, r5, r6⟩ := HVI.out.on hNI (Below.refl _ _)
          go_wp2_with fail
          refine (HAD.out _ _ _ (hT.below (th hb0 hb03)) hi3).mono ?_
          rintro e w4 ⟨rfl, hb4⟩
          have hb04 := th hb03 hb4
          obtain ⟨_, p0, p1, p2, p3, p4⟩ := HGB.out.on hb04
          obtain ⟨r0, r1, r2, r3, r4, r5, r6⟩ := HVI.out.on hNI hb4
          go_wp2_with fail
          refine (HSP.out _ _ _ (hT.below (th hb0 hb04)) (hi3.on homR_fine hb4)).mono ?_
          rintro e w5 ⟨rfl, hb5⟩
          have hb05 := th hb04 hb5
          obtain ⟨_, p0, p1, p2, p3, p4⟩ := HGB.out.on hb05
          obtain ⟨r0, r1, r2, r3, r4, r5, r6⟩ := HVI.out.on hNI (th hb4 hb5)
          go_wp2_with fail
          refine (HMV.out _ _ _ (hT.below (th hb0 hb05)) (hi3.on homR_fine (th hb4 hb5))).mono ?_
          rintro e w6 ⟨rfl, hb6⟩
          obtain ⟨W7, hW7⟩ : ∃ W7, W7 = w6.alloc (.cells #[.int .i64 0, .int .i64 0, .int .i64 0, .int .i64 0, .int .i64 0, .string ⟨#[]⟩, .slice none 0 0] 26) := ⟨_, rfl⟩
          have hE7 : Below w6.heap.size w6 W7 := by rw [hW7]; exact alloc_below _ _
          have hN7 : w6.heap.size < W7.heap.size := by rw [hW7]; simp
          have hv7 : Sev W7 w6.heap.size (.int .i64 0) (.int .i64 0) (.int .i64 0) (.int .i64 0) (.int .i64 0) (.string ⟨#[]⟩) (.slice none 0 0) := by rw [hW7]; exact Sev.new rfl (Below.refl _ _)
          have HV7 := hide hv7
          have hb37 := th hb4 (th hb5 (th hb6 hE7))
          have hb07 := th hb03 hb37
          clear hv7 p0 p1 p2 p3 p4 r0 r1 r2 r3 r4 r5 r6
          go_upto_region 7 with fail
          rw [← hW7]
          clear hW7
          obtain ⟨_, p0, p1, p2, p3, p4⟩ := HGB.out.on hb07
          obtain ⟨r0, r1, r2, r3, r4, r5, r6⟩ := HVI.out.on hNI hb37
          go_wp2_with fail
          refine (HSK.out _ _ _ (hT.below (th hb0 hb07)) (hi3.on homR_fine hb37)).mono ?_
          rintro e w8 ⟨rfl, hb8⟩
          obtain ⟨W9, hW9⟩ : ∃ W9, W9 = (w8.alloc (.cells #[.int .i64 0, .int .i64 0, .int .i64 0, .int .i64 0, .int .i64 0, .string ⟨#[]⟩, .slice none 0 0] 26)).alloc (.cells #[.int .i64 0, .int .i64 0, .int .i64 0, .int .i64 0, .int .i64 0, .string ⟨#[]⟩, .slice none 0 0] 26) := ⟨_, rfl⟩
          have hE9 : Below w8.heap.size w8 W9 := by rw [hW9]; exact (alloc_below _ _).alloc (by simp) _
          have hN9 : w8.heap.size < W9.heap.size := by rw [hW9]; simp; omega
          have hN9' : w8.heap.size + 1 < W9.heap.size := by rw [hW9]; simp
          have hv9 : Sev W9 w8.heap.size (.int .i64 0) (.int .i64 0) (.int .i64 0) (.int .i64 0) (.int .i64 0) (.string ⟨#[]⟩) (.slice none 0 0) := by rw [hW9]; exact (Sev.new rfl (Below.refl _ _)).on (by simp) (alloc_below _ _)
          have hv9' : Sev W9 (w8.heap.size + 1) (.int .i64 0) (.int .i64 0) (.int .i64 0) (.int .i64 0) (.int .i64 0) (.string ⟨#[]⟩) (.slice none 0 0) := by rw [hW9]; exact Sev.new (by simp) (Below.refl _ _)
          have HV9 := hide hv9
          have HVN := hide hv9'
          have hb79 := th hb8 hE9
          have hb39 := th hb37 hb79
          have hb09 := th hb03 hb39
          clear hv9 hv9' p0 p1 p2 p3 p4 r0 r1 r2 r3 r4 r5 r6
          go_upto_region 9 with fail
          rw [← hW9]
          clear hW9
          obtain ⟨r0, r1, r2, r3, r4, r5, r6⟩ := HVI.out.on hNI hb39
          obtain ⟨q0, q1, q2, q3, q4, q5, q6⟩ := HSV.out.onB hN1 hb09
          go_wp2_with fail
          refine (HKA.out _ _ _ (hi3.on homR_fine hb39) (ha0.on homR_fine hb09)).mono ?_
          rintro e w10 ⟨rfl, hb10⟩
          have hb010 := th hb09 hb10
          have hb910 := hb10
          clear r0 r1 r2 r3 r4 r5 r6 q0 q1 q2 q3 q4 q5 q6
          obtain ⟨_, p0, p1, p2, p3, p4⟩ := HGB.out.on hb010
          go_wp2_with fail
          refine (HGE.out _).mono ?_
          rintro e w11 ⟨rfl, hb11⟩
          have hb911 := th hb10 hb11
          have hb011 := th hb010 hb11
          obtain ⟨_, p0, p1, p2, p3, p4⟩ := HGB.out.on hb011
          obtain ⟨q0, q1, q2, q3, q4, q5, q6⟩ := HSV.out.onB hN1 hb011
          go_wp2_with fail
          refine (HRA1.out _ (ha0.on homR_fine hb011)).mono ?_
          rintro e w12 ⟨rfl, hb12⟩
          have hb912 := th hb911 hb12
          have hb012 := th hb011 hb12
          obtain ⟨_, p0, p1, p2, p3, p4⟩ := HGB.out.on hb012
          obtain ⟨m0, m1, m2, m3, m4, m5, m6⟩ := HV7.out.on hN7 (th hb79 hb912)
          obtain ⟨n0, n1, n2, n3, n4, n5, n6⟩ := HVN.out.on hN9' hb912
          go_wp2_with fail
          refine (HNN.out _).mono ?_
          rintro e w14 ⟨rfl, hb14⟩
          have hb914 := th hb912 hb14
          have hb014 := th hb012 hb14
          clear m0 m1 m2 m3 m4 m5 m6 n0 n1 n2 n3 n4 n5 n6
          obtain ⟨s0, s1, s2, s3, s4, s5, s6⟩ := HV9.out.on hN9 hb914
          obtain ⟨n0, n1, n2, n3, n4, n5, n6⟩ := HVN.out.on hN9' hb914
          go_wp2_with fail
          refine (HNN.out _).mono ?_
          rintro e w15 ⟨rfl, hb15⟩
          go_wp2_with fail
          refine (wakes11 _ (hT.below (th hb0 (th hb014 hb15)))).mono ?_
          rintro e w20 ⟨rfl, hb20⟩
          go_wp2_with fail
          go_ret
          exact ⟨rfl, th hb0 (th (th hb014 hb15) hb20)⟩
      · rw [decide_eq_false hO] at HRA0
        have hno : ¬ PlaceOk g a zone what := fun e => hO e.2.1
        have hnoP : ¬ PlaceOk g a zone (-1) := fun e => hO e.2.1
        have HAD := hide (fun V d w hT h => HAN0.out V d zone what HL.out hno w hT h)
        have HSP := hide (fun V d w hT h => HSN0.out V d zone HL.out hnoP w hT h)
        have HMV := hide (fun V d w hT h => HMN0.out V d zone what HL.out hno w hT h)
        have HSK := hide (fun V d w hT h => HKN0.out V d zone HL.out hnoP w hT h)
        unfold noAncV at HMV HSK
        clear hno hnoP hG hO
        rw [HGT.out] at HGE
        have HRA1 := hide (fun w h => HRA0.out HL.out w h)
        go_enter Tryd.func3, Tryd.ntmps3
        go_wp2_with fail
        rw [← hW0]
        clear p0 p1 p2 p3 p4 q0 q1 q2 q3 q4 q5 q6
        refine (HHV.out _ ha0).mono ?_
        rintro e w1 ⟨rfl, hb1⟩
        obtain ⟨q0, q1, q2, q3, q4, q5, q6⟩ := HSV.out.onB hN1 hb1
        go_wp2_with fail
        refine (HTW.out _ (ha0.on homR_fine hb1)).mono ?_
        rintro e w2 ⟨hb2, VI, ci, rfl, how2⟩
        obtain ⟨W3, hW3⟩ : ∃ W3, W3 = w2.alloc (.cells #[.int .i64 a.gen, .int .i64 a.epoch, .int .i64 a.pos, .int .i64 a.seq, .int .i64 a.last, .string a.label, .slice VI n ci] 26) := ⟨_, rfl⟩
        have hE3 : Below w2.heap.size w2 W3 := by rw [hW3]; exact alloc_below _ _
        have hNI : w2.heap.size < W3.heap.size := by rw [hW3]; simp
        have hvi : Sev W3 w2.heap.size (.int .i64 a.gen) (.int .i64 a.epoch) (.int .i64 a.pos) (.int .i64 a.seq) (.int .i64 a.last) (.string a.label) (.slice VI n ci) := by rw [hW3]; exact Sev.new rfl (Below.refl _ _)
        have HVI := hide hvi
        have hi3 := (how2.read.old_ homR_fine).on homR_fine hE3
        have hb03 := th hb1 (th hb2 hE3)
        clear hvi q0 q1 q2 q3 q4 q5 q6
        go_upto_region 4 with fail
        rw [← hW3]
        clear hW3
        obtain ⟨_, p0, p1, p2, p3, p4⟩ := HGB.out.on hb03
        obtain ⟨r0, r1, r2, r3, r4, r5, r6⟩ := HVI.out.on hNI (Below.refl _ _)
        go_wp2_with fail
        refine (HAD.out _ _ _ (hT.below (th hb0 hb03)) hi3).mono ?_
        rintro e w4 ⟨rfl, hb4⟩
        have hb04 := th hb03 hb4
        obtain ⟨_, p0, p1, p2, p3, p4⟩ := HGB.out.on hb04
        obtain ⟨r0, r1, r2, r3, r4, r5, r6⟩ := HVI.out.on hNI hb4
        go_wp2_with fail
        refine (HSP.out _ _ _ (hT.below (th hb0 hb04)) (hi3.on homR_fine hb4)).mono ?_
        rintro e w5 ⟨rfl, hb5⟩
        have hb05 := th hb04 hb5
        obtain ⟨_, p0, p1, p2, p3, p4⟩ := HGB.out.on hb05
        obtain ⟨r0, r1, r2, r3, r4, r5, r6⟩ := HVI.out.on hNI (th hb4 hb5)
        go_wp2_with fail
        refine (HMV.out _ _ _ (hT.below (th hb0 hb05)) (hi3.on homR_fine (th hb4 hb5))).mono ?_
        rintro e w6 ⟨rfl, hb6⟩
        obtain ⟨W7, hW7⟩ : ∃ W7, W7 = w6.alloc (.cells #[.int .i64 0, .int .i64 0, .int .i64 0, .int .i64 0, .int .i64 0, .string ⟨#[]⟩, .slice none 0 0] 26) := ⟨_, rfl⟩
        have hE7 : Below w6.heap.size w6 W7 := by rw [hW7]; exact alloc_below _ _
        have hN7 : w6.heap.size < W7.heap.size := by rw [hW7]; simp
        have hv7 : Sev W7 w6.heap.size (.int .i64 0) (.int .i64 0) (.int .i64 0) (.int .i64 0) (.int .i64 0) (.string ⟨#[]⟩) (.slice none 0 0) := by rw [hW7]; exact Sev.new rfl (Below.refl _ _)
        have HV7 := hide hv7
        have hb37 := th hb4 (th hb5 (th hb6 hE7))
        have hb07 := th hb03 hb37
        clear hv7 p0 p1 p2 p3 p4 r0 r1 r2 r3 r4 r5 r6
        go_upto_region 7 with fail
        rw [← hW7]
        clear hW7
        obtain ⟨_, p0, p1, p2, p3, p4⟩ := HGB.out.on hb07
        obtain ⟨r0, r1, r2, r3, r4, r5, r6⟩ := HVI.out.on hNI hb37
        go_wp2_with fail
        refine (HSK.out _ _ _ (hT.below (th hb0 hb07)) (hi3.on homR_fine hb37)).mono ?_
        rintro e w8 ⟨rfl, hb8⟩
        obtain ⟨W9, hW9⟩ : ∃ W9, W9 = (w8.alloc (.cells #[.int .i64 0, .int .i64 0, .int .i64 0, .int .i64 0, .int .i64 0, .string ⟨#[]⟩, .slice none 0 0] 26)).alloc (.cells #[.int .i64 0, .int .i64 0, .int .i64 0, .int .i64 0, .int .i64 0, .string ⟨#[]⟩, .slice none 0 0] 26) := ⟨_, rfl⟩
        have hE9 : Below w8.heap.size w8 W9 := by rw [hW9]; exact (alloc_below _ _).alloc (by simp) _
        have hN9 : w8.heap.size < W9.heap.size := by rw [hW9]; simp; omega
        have hN9' : w8.heap.size + 1 < W9.heap.size := by rw [hW9]; simp
        have hv9 : Sev W9 w8.heap.size (.int .i64 0) (.int .i64 0) (.int .i64 0) (.int .i64 0) (.int .i64 0) (.string ⟨#[]⟩) (.slice none 0 0) := by rw [hW9]; exact (Sev.new rfl (Below.refl _ _)).on (by simp) (alloc_below _ _)
        have hv9' : Sev W9 (w8.heap.size + 1) (.int .i64 0) (.int .i64 0) (.int .i64 0) (.int .i64 0) (.int .i64 0) (.string ⟨#[]⟩) (.slice none 0 0) := by rw [hW9]; exact Sev.new (by simp) (Below.refl _ _)
        have HV9 := hide hv9
        have HVN := hide hv9'
        have hb79 := th hb8 hE9
        have hb39 := th hb37 hb79
        have hb09 := th hb03 hb39
        clear hv9 hv9' p0 p1 p2 p3 p4 r0 r1 r2 r3 r4 r5 r6
        go_upto_region 9 with fail
        rw [← hW9]
        clear hW9
        obtain ⟨r0, r1, r2, r3, r4, r5, r6⟩ := HVI.out.on hNI hb39
        obtain ⟨q0, q1, q2, q3, q4, q5, q6⟩ := HSV.out.onB hN1 hb09
        go_wp2_with fail
        refine (HKA.out _ _ _ (hi3.on homR_fine hb39) (ha0.on homR_fine hb09)).mono ?_
        rintro e w10 ⟨rfl, hb10⟩
        have hb010 := th hb09 hb10
        have hb910 := hb10
        clear r0 r1 r2 r3 r4 r5 r6 q0 q1 q2 q3 q4 q5 q6
        obtain ⟨_, p0, p1, p2, p3, p4⟩ := HGB.out.on hb010
        go_wp2_with fail
        refine (HGE.out _).mono ?_
        rintro e w11 ⟨rfl, hb11⟩
        have hb911 := th hb10 hb11
        have hb011 := th hb010 hb11
        obtain ⟨_, p0, p1, p2, p3, p4⟩ := HGB.out.on hb011
        obtain ⟨q0, q1, q2, q3, q4, q5, q6⟩ := HSV.out.onB hN1 hb011
        go_wp2_with fail
        refine (HRA1.out _ (ha0.on homR_fine hb011)).mono ?_
        rintro e w12 ⟨rfl, hb12⟩
        have hb912 := th hb911 hb12
        have hb012 := th hb011 hb12
        obtain ⟨m0, m1, m2, m3, m4, m5, m6⟩ := HV7.out.on hN7 (th hb79 hb912)
        obtain ⟨n0, n1, n2, n3, n4, n5, n6⟩ := HVN.out.on hN9' hb912
        go_wp2_with fail
        refine (HNN.out _).mono ?_
        rintro e w14 ⟨rfl, hb14⟩
        have hb914 := th hb912 hb14
        have hb014 := th hb012 hb14
        clear m0 m1 m2 m3 m4 m5 m6 n0 n1 n2 n3 n4 n5 n6
        obtain ⟨s0, s1, s2, s3, s4, s5, s6⟩ := HV9.out.on hN9 hb914
        obtain ⟨n0, n1, n2, n3, n4, n5, n6⟩ := HVN.out.on hN9' hb914
        go_wp2_with fail
        refine (HNN.out _).mono ?_
        rintro e w15 ⟨rfl, hb15⟩
        go_wp2_with fail
        refine (wakes11 _ (hT.below (th hb0 (th hb014 hb15)))).mono ?_
        rintro e w20 ⟨rfl, hb20⟩
        go_wp2_with fail
        go_ret
        exact ⟨rfl, th hb0 (th (th hb014 hb15) hb20)⟩
    · have HGF : Hid (decide (GeoOk g) = false) := hide (decide_eq_false hG)
      have hno : ¬ PlaceOk g a zone what := fun e => hG e.1
      have hnoP : ¬ PlaceOk g a zone (-1) := fun e => hG e.1
      have HAD := hide (fun V d w hT h => HAN0.out V d zone what HL.out hno w hT h)
      have HSP := hide (fun V d w hT h => HSN0.out V d zone HL.out hnoP w hT h)
      have HMV := hide (fun V d w hT h => HMN0.out V d zone what HL.out hno w hT h)
      have HSK := hide (fun V d w hT h => HKN0.out V d zone HL.out hnoP w hT h)
      unfold noAncV at HMV HSK
      clear hno hnoP hG
      rw [HGF.out] at HGE
      go_enter Tryd.func3, Tryd.ntmps3
      go_wp2_with fail
      rw [← hW0]
      clear p0 p1 p2 p3 p4 q0 q1 q2 q3 q4 q5 q6
      refine (HHV.out _ ha0).mono ?_
      rintro e w1 ⟨rfl, hb1⟩
      obtain ⟨q0, q1, q2, q3, q4, q5, q6⟩ := HSV.out.onB hN1 hb1
      go_wp2_with fail
      refine (HTW.out _ (ha0.on homR_fine hb1)).mono ?_
      rintro e w2 ⟨hb2, VI, ci, rfl, how2⟩
      obtain ⟨W3, hW3⟩ : ∃ W3, W3 = w2.alloc (.cells #[.int .i64 a.gen, .int .i64 a.epoch, .int .i64 a.pos, .int .i64 a.seq, .int .i64 a.last, .string a.label, .slice VI n ci] 26) := ⟨_, rfl⟩
      have hE3 : Below w2.heap.size w2 W3 := by rw [hW3]; exact alloc_below _ _
      have hNI : w2.heap.size < W3.heap.size := by rw [hW3]; simp
      have hvi : Sev W3 w2.heap.size (.int .i64 a.gen) (.int .i64 a.epoch) (.int .i64 a.pos) (.int .i64 a.seq) (.int .i64 a.last) (.string a.label) (.slice VI n ci) := by rw [hW3]; exact Sev.new rfl (Below.refl _ _)
      have HVI := hide hvi
      have hi3 := (how2.read.old_ homR_fine).on homR_fine hE3
      have hb03 := th hb1 (th hb2 hE3)
      clear hvi q0 q1 q2 q3 q4 q5 q6
      go_upto_region 4 with fail
      rw [← hW3]
      clear hW3
      obtain ⟨_, p0, p1, p2, p3, p4⟩ := HGB.out.on hb03
      obtain ⟨r0, r1, r2, r3, r4, r5, r6⟩ := HVI.out.on hNI (Below.refl _ _)
      go_wp2_with fail
      refine (HAD.out _ _ _ (hT.below (th hb0 hb03)) hi3).mono ?_
      rintro e w4 ⟨rfl, hb4⟩
      have hb04 := th hb03 hb4
      obtain ⟨_, p0, p1, p2, p3, p4⟩ := HGB.out.on hb04
      obtain ⟨r0, r1, r2, r3, r4, r5, r6⟩ := HVI.out.on hNI hb4
      go_wp2_with fail
      refine (HSP.out _ _ _ (hT.below (th hb0 hb04)) (hi3.on homR_fine hb4)).mono ?_
      rintro e w5 ⟨rfl, hb5⟩
      have hb05 := th hb04 hb5
      obtain ⟨_, p0, p1, p2, p3, p4⟩ := HGB.out.on hb05
      obtain ⟨r0, r1, r2, r3, r4, r5, r6⟩ := HVI.out.on hNI (th hb4 hb5)
      go_wp2_with fail
      refine (HMV.out _ _ _ (hT.below (th hb0 hb05)) (hi3.on homR_fine (th hb4 hb5))).mono ?_
      rintro e w6 ⟨rfl, hb6⟩
      obtain ⟨W7, hW7⟩ : ∃ W7, W7 = w6.alloc (.cells #[.int .i64 0, .int .i64 0, .int .i64 0, .int .i64 0, .int .i64 0, .string ⟨#[]⟩, .slice none 0 0] 26) := ⟨_, rfl⟩
      have hE7 : Below w6.heap.size w6 W7 := by rw [hW7]; exact alloc_below _ _
      have hN7 : w6.heap.size < W7.heap.size := by rw [hW7]; simp
      have hv7 : Sev W7 w6.heap.size (.int .i64 0) (.int .i64 0) (.int .i64 0) (.int .i64 0) (.int .i64 0) (.string ⟨#[]⟩) (.slice none 0 0) := by rw [hW7]; exact Sev.new rfl (Below.refl _ _)
      have HV7 := hide hv7
      have hb37 := th hb4 (th hb5 (th hb6 hE7))
      have hb07 := th hb03 hb37
      clear hv7 p0 p1 p2 p3 p4 r0 r1 r2 r3 r4 r5 r6
      go_upto_region 7 with fail
      rw [← hW7]
      clear hW7
      obtain ⟨_, p0, p1, p2, p3, p4⟩ := HGB.out.on hb07
      obtain ⟨r0, r1, r2, r3, r4, r5, r6⟩ := HVI.out.on hNI hb37
      go_wp2_with fail
      refine (HSK.out _ _ _ (hT.below (th hb0 hb07)) (hi3.on homR_fine hb37)).mono ?_
      rintro e w8 ⟨rfl, hb8⟩
      obtain ⟨W9, hW9⟩ : ∃ W9, W9 = (w8.alloc (.cells #[.int .i64 0, .int .i64 0, .int .i64 0, .int .i64 0, .int .i64 0, .string ⟨#[]⟩, .slice none 0 0] 26)).alloc (.cells #[.int .i64 0, .int .i64 0, .int .i64 0, .int .i64 0, .int .i64 0, .string ⟨#[]⟩, .slice none 0 0] 26) := ⟨_, rfl⟩
      have hE9 : Below w8.heap.size w8 W9 := by rw [hW9]; exact (alloc_below _ _).alloc (by simp) _
      have hN9 : w8.heap.size < W9.heap.size := by rw [hW9]; simp; omega
      have hN9' : w8.heap.size + 1 < W9.heap.size := by rw [hW9]; simp
      have hv9 : Sev W9 w8.heap.size (.int .i64 0) (.int .i64 0) (.int .i64 0) (.int .i64 0) (.int .i64 0) (.string ⟨#[]⟩) (.slice none 0 0) := by rw [hW9]; exact (Sev.new rfl (Below.refl _ _)).on (by simp) (alloc_below _ _)
      have hv9' : Sev W9 (w8.heap.size + 1) (.int .i64 0) (.int .i64 0) (.int .i64 0) (.int .i64 0) (.int .i64 0) (.string ⟨#[]⟩) (.slice none 0 0) := by rw [hW9]; exact Sev.new (by simp) (Below.refl _ _)
      have HV9 := hide hv9
      have HVN := hide hv9'
      have hb79 := th hb8 hE9
      have hb39 := th hb37 hb79
      have hb09 := th hb03 hb39
      clear hv9 hv9' p0 p1 p2 p3 p4 r0 r1 r2 r3 r4 r5 r6
      go_upto_region 9 with fail
      rw [← hW9]
      clear hW9
      obtain ⟨r0, r1, r2, r3, r4, r5, r6⟩ := HVI.out.on hNI hb39
      obtain ⟨q0, q1, q2, q3, q4, q5, q6⟩ := HSV.out.onB hN1 hb09
      go_wp2_with fail
      refine (HKA.out _ _ _ (hi3.on homR_fine hb39) (ha0.on homR_fine hb09)).mono ?_
      rintro e w10 ⟨rfl, hb10⟩
      have hb010 := th hb09 hb10
      have hb910 := hb10
      clear r0 r1 r2 r3 r4 r5 r6 q0 q1 q2 q3 q4 q5 q6
      obtain ⟨_, p0, p1, p2, p3, p4⟩ := HGB.out.on hb010
      go_wp2_with fail
      refine (HGE.out _).mono ?_
      rintro e w11 ⟨rfl, hb11⟩
      have hb911 := th hb10 hb11
      have hb011 := th hb010 hb11
      obtain ⟨m0, m1, m2, m3, m4, m5, m6⟩ := HV7.out.on hN7 (th hb79 hb911)
      obtain ⟨n0, n1, n2, n3, n4, n5, n6⟩ := HVN.out.on hN9' hb911
      go_wp2_with fail
      refine (HNN.out _).mono ?_
      rintro e w14 ⟨rfl, hb14⟩
      have hb914 := th hb911 hb14
      have hb014 := th hb011 hb14
      clear m0 m1 m2 m3 m4 m5 m6 n0 n1 n2 n3 n4 n5 n6
      obtain ⟨s0, s1, s2, s3, s4, s5, s6⟩ := HV9.out.on hN9 hb914
      obtain ⟨n0, n1, n2, n3, n4, n5, n6⟩ := HVN.out.on hN9' hb914
      go_wp2_with fail
      refine (HNN.out _).mono ?_
      rintro e w15 ⟨rfl, hb15⟩
      go_wp2_with fail
      refine (wakes11 _ (hT.below (th hb0 (th hb014 hb15)))).mono ?_
      rintro e w20 ⟨rfl, hb20⟩
      go_wp2_with fail
      go_ret
      exact ⟨rfl, th hb0 (th (th hb014 hb15) hb20)⟩

theorem law_placeExact {w : World} (hT : Tabs w) {v0 v1 : Value} {g : Geo} {a : Anc} (hg : ArgR geoR w v0 g) (ha : ArgR ancR w v1 a) (zone : Int) (hz : InI zone) (what : Int) (hw : InI what) :
    Calls Tryd.prog 3 #[v0, v1, .int .i64 zone, .int .i64 what] w fun e w' => e = .returned (.bool true) ∧ Below w.heap.size w w' := by
  obtain ⟨rfl, _⟩ := geo_form hg
  obtain ⟨A, n, c, rfl, hin, hs⟩ := anc_form ha
  exact walk_placeExact hT g a A n c zone what hs hin

end Go.Proofs.YtamgpbkakmffiaaDoor
