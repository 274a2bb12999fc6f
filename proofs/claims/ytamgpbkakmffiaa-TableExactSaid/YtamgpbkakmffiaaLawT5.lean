/-
  The walk of the law TableExact.
-/
import Derived.Test.YtamgpbkakmffiaaLawT1
import Derived.Test.YtamgpbkakmffiaaTabG
import Derived.Test.YtamgpbkakmffiaaTabR
import Derived.Test.YtamgpbkakmffiaaPackU
import Derived.Deep.CutRange
import Derived.Deep.DeepCutAuto
namespace Go.Proofs.Ytamgpbkakmffiaa
open Go.RowKit
set_option linter.unusedVariables false
set_option maxRecDepth 100000

theorem lostL_all {d : Nat} {L : List Ent} (h : TabOk (d : Int) L) : lostL L L.length = lostL L d := by
  have hl : L.length = d + 1 := by have := h.1; omega
  rw [hl]
  have hx : L[d]? = some (L[d]'(by omega)) := List.getElem?_eq_getElem (by omega)
  rw [lostL_succ hx, h.2.2 _ (by rw [Int.toNat_natCast]; exact hx), if_neg (by simp), List.append_nil]

set_option maxHeartbeats 8000000 in
theorem tableExact_core {w : World} {A B : Option Addr} {n c m cb : Nat} {L : List Ent} {y : List UInt8} (g : Geo) (hl : Sl entR 3 w (Old w) A n c L) (hy : Bs w B m cb y) :
    Calls Try.prog 5 #[g.v, .agg #[.slice A n c], .slice B m cb] w fun e w' => e = .returned (.bool true) ∧ Below w.heap.size w w' := by
  have hgc := fun w => rgeo_any g w
  have hrt := fun (hG : GeoOk g) w ha hn => rtab_any A n c L g hG w ha hn
  have hrd := fun w h => read_any B m cb y g w h
  have hfs := fun w => first_any g w
  have hrf := fun d hd h4 w => rfirst_any g d hd h4 w
  have hrr := fun d hG hd w h hn => rreadt_any B m cb d y g hG hd w h hn
  obtain ⟨z, q, s, l, a⟩ := g
  obtain ⟨W0, hW0⟩ : ∃ W0, W0 = (w.alloc (.cells #[.int .i64 z, .int .i64 q, .int .i64 s, .int .i64 l, .int .i64 a] 23)).alloc (.cells #[.slice A n c] 26) := ⟨_, rfl⟩
  have hb0 : Below w.heap.size w W0 := by rw [hW0]; exact (alloc_below w _).alloc (by simp) _
  have bx : ∀ W, Below W0.heap.size W0 W →
      (W.cell? ⟨w.heap.size, 0, none⟩ = some (.int .i64 z) ∧ W.cell? ⟨w.heap.size, 1, none⟩ = some (.int .i64 q) ∧ W.cell? ⟨w.heap.size, 2, none⟩ = some (.int .i64 s) ∧ W.cell? ⟨w.heap.size, 3, none⟩ = some (.int .i64 l) ∧ W.cell? ⟨w.heap.size, 4, none⟩ = some (.int .i64 a)) ∧ W.cell? ⟨w.heap.size + 1, 0, none⟩ = some (.slice A n c) ∧ Below w.heap.size w W := fun W hW => by
    subst hW0
    have h := th (alloc_below _ _) hW
    exact ⟨⟨box_cell h 0 _ rfl, box_cell h 1 _ rfl, box_cell h 2 _ rfl, box_cell h 3 _ rfl, box_cell h 4 _ rfl⟩, bx_at2 (by simp) hW 0 _ rfl, th (alloc_below _ _) h⟩
  have BX := hide bx
  have HW0 := hide hW0
  have hl0 := hl.on entR_fine hb0
  have hy0 := hy.on byteR_fine hb0
  have HLEN := hide hl.len
  unfold Geo.v at hgc hrt hrd hfs hrf hrr ⊢
  dsimp only at hgc hrt hrd hfs hrf hrr ⊢
  have HGC := hide hgc
  have HRT := hide hrt
  have HRD := hide hrd
  have HFS := hide hfs
  have HRF := hide hrf
  have HRR := hide hrr
  clear bx hW0 hgc hrt hrd hfs hrf hrr
  by_cases h20 : n ≤ 20
  · by_cases h300 : m ≤ 300
    · have HTT := hide (twintable_any A n c L W0 hl0 (by omega))
      go_enter Try.func5, Try.ntmps5
      go_wp2_with fail
      rw [← HW0.out]
      refine HTT.out.mono ?_
      rintro e w1 ⟨A1, c1, rfl, ho1, hb1⟩
      have hE2 := alloc_below w1 (.cells #[.slice A1 n c1] 26)
      have hb02 := th hb1 hE2
      have hi2 := (ho1.read entR_fine).on entR_fine hE2
      have ki : ∀ W, Below (w1.alloc (.cells #[.slice A1 n c1] 26)).heap.size (w1.alloc (.cells #[.slice A1 n c1] 26)) W → W.cell? ⟨w1.heap.size, 0, none⟩ = some (.slice A1 n c1) := fun W hW => box_cell hW 0 _ rfl
      have KI := hide ki
      obtain ⟨⟨p0, p1, p2, p3, p4⟩, pt, _⟩ := BX.out _ hb02
      clear ki
      go_wp2_with fail
      refine (HFS.out _).mono ?_
      rintro e w3 ⟨hb3, U3, n3, c3, T3, e3, rfl, hu3, hq3⟩
      have HQ3 := hide hq3
      have hE4 := alloc_below w3 (.cells #[.slice U3 n3 c3] 26)
      have hb24 := th hb3 hE4
      have hu4 := (sl_newold entR_fine hu3).on entR_fine hE4
      have kx : ∀ W, Below (w3.alloc (.cells #[.slice U3 n3 c3] 26)).heap.size (w3.alloc (.cells #[.slice U3 n3 c3] 26)) W → W.cell? ⟨w3.heap.size, 0, none⟩ = some (.slice U3 n3 c3) := fun W hW => box_cell hW 0 _ rfl
      have KX := hide kx
      obtain ⟨⟨q0, q1, q2, q3, q4⟩, qt, _⟩ := BX.out _ (th hb02 hb24)
      have ki4 := KI.out _ hb24
      have hi4 := hi2.on entR_fine hb24
      have htb := tbytes_any A1 n c1 L ⟨z, q, s, l, a⟩ _ hi4 (by omega)
      unfold Geo.v TBytesPost at htb
      dsimp only at htb
      have HTB := hide htb
      clear kx hq3 htb
      go_wp2_with fail
      refine HTB.out.mono ?_
      rintro e w5 ⟨hb5, V5, n5, c5, y5, e5, rfl, hs5, hq5⟩
      have HQ5 := hide hq5
      obtain ⟨⟨r0, r1, r2, r3, r4⟩, rt, _⟩ := BX.out _ (th hb02 (th hb24 hb5))
      have hrd5 := HRD.out w5 (hy0.on byteR_fine (th hb02 (th hb24 hb5))) (by omega)
      unfold RdPost at hrd5
      have HR5 := hide hrd5
      clear hq5 hrd5
      go_wp2_with fail
      refine HR5.out.mono ?_
      rintro e w6 ⟨hb6, U6, n6, c6, T6, e6, rfl, hu6, hq6⟩
      have HQ6 := hide hq6
      have hE7 := alloc_below w6 (.cells #[.slice U6 n6 c6] 26)
      have hb47 := th hb5 (th hb6 hE7)
      have hu7 := (sl_newold entR_fine hu6).on entR_fine hE7
      have kz : ∀ W, Below (w6.alloc (.cells #[.slice U6 n6 c6] 26)).heap.size (w6.alloc (.cells #[.slice U6 n6 c6] 26)) W → W.cell? ⟨w6.heap.size, 0, none⟩ = some (.slice U6 n6 c6) := fun W hW => box_cell hW 0 _ rfl
      have KZ := hide kz
      obtain ⟨⟨s0, s1, s2, s3, s4⟩, st, _⟩ := BX.out _ (th hb02 (th hb24 hb47))
      have ki7 := KI.out _ (th hb24 hb47)
      have htl := tlost_any A1 n c1 L ⟨z, q, s, l, a⟩ _ (hi4.on entR_fine hb47) (by omega)
      unfold Geo.v TLostPost at htl
      dsimp only at htl
      have HTL := hide htl
      clear hq6 kz htl
      go_wp2_with fail
      refine HTL.out.mono ?_
      rintro e w8 ⟨hb8, V8, n8, c8, l8, e8, rfl, hs8, hq8⟩
      have HQ8 := hide hq8
      have hE9 := alloc_below w8 (.cells #[.slice none 0 0] 26)
      have hb79 := th hb8 hE9
      have kn : ∀ W, Below (w8.alloc (.cells #[.slice none 0 0] 26)).heap.size (w8.alloc (.cells #[.slice none 0 0] 26)) W → W.cell? ⟨w8.heap.size, 0, none⟩ = some (.slice none 0 0) := fun W hW => box_cell hW 0 _ rfl
      have KN := hide kn
      have hb09 := th hb02 (th hb24 (th hb47 hb79))
      have hb29 := th hb24 (th hb47 hb79)
      have hb49 := th hb47 hb79
      obtain ⟨⟨t0, t1, t2, t3, t4⟩, tt, _⟩ := BX.out _ hb09
      clear hq8 kn
      go_wp2_with fail
      refine (HGC.out _).mono ?_
      rintro e w10 ⟨rfl, hb10⟩
      have hb010 := th hb09 hb10
      have hb210 := th hb29 hb10
      have hb410 := th hb49 hb10
      have hb710 := th hb79 hb10
      obtain ⟨⟨v0, v1, v2, v3, v4⟩, vt, _⟩ := BX.out _ hb010
      have vi := KI.out _ hb210
      have hi10 := hi2.on entR_fine hb210
      by_cases hG : GeoOk ⟨z, q, s, l, a⟩
      · obtain ⟨d, rfl⟩ : ∃ d : Nat, q = (d : Int) := ⟨q.toNat, by have := hG.2.1; dsimp only at this; omega⟩
        have hd4 : 1 ≤ d ∧ d ≤ 4 := by have := hG.2.1; dsimp only at this; omega
        obtain ⟨hd1, hd4⟩ := hd4
        have dg : decide (GeoOk ⟨z, d, s, l, a⟩) = true := decide_eq_true hG
        have h3 : e3 = 0 ∧ T3 = newT d := by
          have h := HQ3.out
          unfold FstQ at h
          rcases h with ⟨h, _⟩ | ⟨_, h1, h2⟩
          · exact absurd hG h
          · exact ⟨h1, h2⟩
        obtain ⟨rfl, hT3⟩ := h3
        have hn3 : n3 = d + 1 := by rw [← hu3.len, hT3]; exact newT_len d
        subst hn3
        have HG := hide hG
        have HT3 := hide hT3
        rw [dg]
        clear hG dg hT3
        have hu10 := hu4.on entR_fine hb410
        have hrf : ∀ W, Below w10.heap.size w10 W → Calls Try.prog 19 #[.agg #[.int .i64 z, .int .i64 d, .int .i64 s, .int .i64 l, .int .i64 a]] W (RFstPost W d) := fun W hW => HRF.out d rfl hd4 W
        have HRF2 := hide hrf
        have hta : ∀ W (V : Option Addr) (cv : Nat), Below w10.heap.size w10 W → Sl entR 3 W (Old W) V (d + 1) cv (newT d) → Calls Try.prog 10 #[.agg #[.slice U3 (d + 1) c3], .agg #[.slice V (d + 1) cv]] W fun e w' => e = .returned (.bool true) ∧ Below W.heap.size W w' := fun W V cv hW hV => by
          have h := table_any U3 V (d + 1) c3 (d + 1) cv T3 (newT d) W (hu10.on entR_fine hW) hV (by omega)
          rwa [decide_eq_true HT3.out] at h
        have HTA := hide hta
        have hcur : Below w10.heap.size w10 w10.drew := (Below.refl _ _).drew
        have hmv : ∀ W, Below w10.heap.size w10 W → (W.cell? ⟨w.heap.size, 0, none⟩ = some (.int .i64 z) ∧ W.cell? ⟨w.heap.size, 1, none⟩ = some (.int .i64 d) ∧ W.cell? ⟨w.heap.size, 2, none⟩ = some (.int .i64 s) ∧ W.cell? ⟨w.heap.size, 3, none⟩ = some (.int .i64 l) ∧ W.cell? ⟨w.heap.size, 4, none⟩ = some (.int .i64 a)) ∧ W.cell? ⟨w3.heap.size, 0, none⟩ = some (.slice U3 (d + 1) c3) := fun W hW => ⟨(BX.out _ (th hb010 hW)).1, KX.out _ (th hb410 hW)⟩
        have HMV := hide hmv
        clear hrf hta hmv
        go_upto_region 11 with fail
        go_cut [108] (fun v wx => v = .bool false ∧ Below w10.heap.size w10 wx)
        case first =>
          go_region_held3 (fun w' => (w'.cell? ⟨w.heap.size, 0, none⟩ = some (.int .i64 z) ∧ w'.cell? ⟨w.heap.size, 1, none⟩ = some (.int .i64 d) ∧ w'.cell? ⟨w.heap.size, 2, none⟩ = some (.int .i64 s) ∧ w'.cell? ⟨w.heap.size, 3, none⟩ = some (.int .i64 l) ∧ w'.cell? ⟨w.heap.size, 4, none⟩ = some (.int .i64 a)) ∧ w'.cell? ⟨w3.heap.size, 0, none⟩ = some (.slice U3 (d + 1) c3)) (exact HMV.out _ hcur) (first
            | (go_at_call 19; refine (HRF2.out _ hcur).mono ?_; rintro e w11 ⟨hb11, A11, c11, rfl, hs11⟩; have hcur := th hcur hb11)
            | (go_at_call 10; refine (HTA.out _ _ _ hcur (sl_newold entR_fine hs11)).mono ?_; rintro e w12 ⟨rfl, hb12⟩; have hcur := th hcur hb12))
          all_goals (go_wp2_with fail; go_meet; exact ⟨rfl, hcur⟩)
        case rest =>
          obtain ⟨rfl, hb11⟩ := hcut
          obtain ⟨w11, hw11⟩ : ∃ w11, w11 = wc := ⟨_, rfl⟩
          subst hw11
          have hb011 := th hb010 hb11
          obtain ⟨⟨f0, f1, f2, f3, f4⟩, ft, _⟩ := BX.out _ hb011
          have hy11 := hy0.on byteR_fine hb011
          have hrr := HRR.out d HG.out rfl w11 hy11 (by omega)
          unfold RTabPost at hrr
          have HRR2 := hide hrr
          clear hrr
          go_wp2_with fail
          refine HRR2.out.mono ?_
          rintro e w12 ⟨hb12', U12, n12, c12, T12, b12, rfl, hu12, hq12⟩
          have hE13 := alloc_below w12 (.cells #[.slice U12 n12 c12] 26)
          have hu13 := (sl_newold entR_fine hu12).on entR_fine hE13
          have hb13 := th hb12' hE13
          have kz13 := KZ.out _ (th hb710 (th hb11 hb13))
          have hz13 := hu7.on entR_fine (th hb710 (th hb11 hb13))
          have HQ12 := hide hq12
          clear hq12
          go_upto_region 14 with fail
          go_cut [132] (fun v wx => v = .bool false ∧ Below (w12.alloc (.cells #[.slice U12 n12 c12] 26)).heap.size (w12.alloc (.cells #[.slice U12 n12 c12] 26)) wx)
          case first =>
            have hq12 := HQ12.out
            have q6 := HQ6.out
            unfold RdQ at q6
            unfold RTabQ at hq12
            dsimp only at q6
            rw [show ((d : Int) + 1).toNat = d + 1 by omega] at q6
            rcases q6 with ⟨h, _⟩ | ⟨_, hr, rfl, rfl⟩ | ⟨_, hr, rfl, rfl⟩
            · exact absurd HG.out h
            · rcases hq12 with ⟨_, rfl, rfl⟩ | ⟨h, _⟩
              · have hl6 := hu6.len
                rw [tabOf_len] at hl6
                subst hl6
                have ht := table_any U6 U12 (d + 1) c6 n12 c12 _ _ _ hz13 hu13 (by omega)
                rw [decide_eq_true rfl] at ht
                have HT := hide ht
                clear ht hr
                go_wp2_with fail
                refine HT.out.mono ?_
                rintro e w14 ⟨rfl, hb14⟩
                go_wp2_with fail
                go_meet
                exact ⟨rfl, hb14⟩
              · exact absurd hr h
            · rcases hq12 with ⟨h, _⟩ | ⟨_, rfl, rfl⟩
              · exact absurd h hr
              · have hl6 := hu6.len
                simp at hl6
                subst hl6
                have ht := table_any U6 U12 0 c6 n12 c12 _ _ _ hz13 hu13 (by omega)
                rw [decide_eq_true rfl] at ht
                have HT := hide ht
                clear ht hr
                go_wp2_with fail
                refine HT.out.mono ?_
                rintro e w14 ⟨rfl, hb14⟩
                go_wp2_with fail
                go_meet
                exact ⟨rfl, hb14⟩
          case rest =>
            obtain ⟨rfl, hb13c⟩ := hcut
            have hb12 := th hb13 hb13c
            clear hu12 hE13 hu13 kz13 hz13
            obtain ⟨w14, hw14⟩ : ∃ w14, w14 = wc := ⟨_, rfl⟩
            subst hw14
            have hb012 := th hb011 hb12
            obtain ⟨⟨g0, g1, g2, g3, g4⟩, gt, _⟩ := BX.out _ hb012
            have hrt := HRT.out HG.out w14 (hl0.on entR_fine hb012) (by omega)
            have hb212 := th hb210 (th hb11 hb12)
            by_cases hT : TabOk d L
            · rw [decide_eq_true hT] at hrt
              have HRT2 := hide hrt
              have h5 : e5 = 0 ∧ y5 = tabL L := by
                have h := HQ5.out
                unfold TBytes at h
                rcases h with ⟨h, _⟩ | ⟨_, h1, h2⟩
                · exact absurd ⟨HG.out, hT⟩ h
                · exact ⟨h1, h2⟩
              have h8 : e8 = 0 ∧ l8 = lostL L d := by
                have h := HQ8.out
                unfold TLost at h
                rcases h with ⟨h, _⟩ | ⟨_, h1, h2⟩
                · exact absurd ⟨HG.out, hT⟩ h
                · exact ⟨h1, by rw [h2]; exact lostL_all hT⟩
              obtain ⟨rfl, hy5⟩ := h5
              obtain ⟨rfl, hl8⟩ := h8
              have hnd : n = d + 1 := by have := hT.1; have := HLEN.out; omega
              subst hnd
              obtain ⟨j0, hj0, hz0, hz1, hz2⟩ := info_parts int_info
              have HHT := hide hT
              have HY5 := hide hy5
              have HL8 := hide hl8
              clear hT hrt hy5 hl8
              go_wp2_with fail
              refine HRT2.out.mono ?_
              rintro e w15 ⟨rfl, hb15⟩
              have hb015 := th hb012 hb15
              have hl15 := hl0.on entR_fine hb015
              go_wp2_with fail
              go_loopw [19, 20] (fun v i wr => ∃ k : Nat, ∃ q : Nat, k ≤ d ∧ q ≤ k ∧ i = .int .i64 k ∧ Ow intR 1 wr w15.heap.size 0 3 v q (lostL L k) ∧ Below w15.heap.size w15 wr) (fun _ i _ => d - (intOf i).toNat)
              case atStart => exact ⟨0, 0, Nat.zero_le _, Nat.le_refl _, rfl, Ow.nil_ _ _ _ _, Below.refl _ _⟩
              case round =>
                obtain ⟨k, q, hk, hqk, rfl, ho, hb⟩ := hrel
                obtain ⟨V0, c0, rfl⟩ := ho.form
                obtain ⟨⟨i0, i1, i2, i3, i4⟩, it, _⟩ := BX.out _ (th hb015 hb)
                by_cases hlt : k < d
                · obtain ⟨ad, x, rfl, hadl, hx, _, _, d0, d1, d2⟩ := at_ent (hl15.on entR_fine hb) (show k < d + 1 by omega)
                  have hnx := lostL_succ hx
                  have hk1 : (k : Int) < (d : Int) + 1 := by omega
                  cases hxl : x.lost with
                  | false =>
                    rw [hxl] at d2 hnx
                    have HNX := hide hnx
                    clear hnx hxl hx
                    go_wp2_with fail
                    go_roundw
                    case rel => exact ⟨k + 1, q, by omega, by omega, by go_num, by rw [HNX.out, if_neg (by simp), List.append_nil]; exact ho, hb⟩
                    case measure => simp [intOf]; omega
                  | true =>
                    rw [hxl] at d2 hnx
                    rw [if_pos rfl] at hnx
                    have HNX := hide hnx
                    clear hnx hxl hx
                    have hb3 := alloc_below wr (.cells #[.int .i64 k] 3)
                    have ho3 := ho.below intR_fine hb3
                    have hb4 := hb.trans (hb3.mono hb.size)
                    have hs4 : w15.heap.size ≤ (wr.alloc (.cells #[.int .i64 k] 3)).heap.size := hb4.size
                    have hlit : Is (wr.alloc (.cells #[.int .i64 k] 3)) (some ⟨wr.heap.size, 0, none⟩) 1 1 [(k : Int)] := lit_ints_at (n := 1) (l := [(k : Int)]) rfl rfl (by omega) (fun z hz => by simp at hz; subst hz; exact ⟨by omega, by omega⟩) rfl
                    go_wp2_with (at_builtin; refine wpList_append_ow _ rfl (.tmp 172) (.tmp 174) _ rfl intR_fine w15.heap.size 0 3 j0 _ 8 Try.underlying47 hj0 hz0 hz1 hz2 rfl (by omega) (.slice V0 q c0) q _ rfl ho3 _ _ 1 1 _ rfl hlit (fun _ _ _ h => h) (by simp only [maxLen]; omega) (by omega) hs4 ?_; intro V5' w5' ho5 hg5 hat5; have hb5' := hb4.trans (below_grown hg5 ho3.lt hs4))
                    rw [← HNX.out] at ho5
                    go_roundw
                    case rel => exact ⟨k + 1, q + 1, by omega, by omega, by go_num, ho5, hb5'⟩
                    case measure => simp [intOf]; omega
                · obtain rfl : k = d := by omega
                  have hb2r := th hb212 (th hb15 hb)
                  have kir := KI.out _ hb2r
                  have hir := hi2.on entR_fine hb2r
                  have hwant := ho.read intR_fine
                  have hvr := hs8.on intR_fine (th hE9 (th hb10 (th hb11 (th hb12 (th hb15 hb)))))
                  have hyr := hs5.on byteR_fine (th hb6 (th hE7 (th hb79 (th hb10 (th hb11 (th hb12 (th hb15 hb)))))))
                  have HC := hide (check_yes (z := z) (s := s) (l := l) (a := a) ⟨HG.out, HHT.out⟩ wr hir (by omega))
                  go_wp2_with fail
                  refine HC.out.mono ?_
                  rintro e w16 ⟨rfl, hb16⟩
                  obtain ⟨_, it16, _⟩ := BX.out _ (th hb015 (th hb hb16))
                  have hl16 := (hl15.on entR_fine hb).on entR_fine hb16
                  have HTB2 := hide (rtbytes_any A (k + 1) c L w16 hl16 (by omega) HHT.out.2.1)
                  go_wp2_with fail
                  refine HTB2.out.mono ?_
                  rintro e w17 ⟨V17, n17, c17, rfl, hs17, hb17⟩
                  have hyr17 := hyr.on byteR_fine (th hb16 hb17)
                  rw [HY5.out] at hyr17
                  have hn17 := hs17.len
                  rw [tabL_len, HLEN.out] at hn17
                  have HBY := hide (bytes_same (tabL L) hyr17 hs17 (by have := hyr17.len; rw [tabL_len, HLEN.out] at this; omega))
                  clear hn17
                  go_wp2_with fail
                  refine HBY.out.mono ?_
                  rintro e w18 ⟨rfl, hb18⟩
                  have hv18 := hvr.on intR_fine (th hb16 (th hb17 hb18))
                  rw [HL8.out] at hv18
                  have hw18 := hwant.on intR_fine (th hb16 (th hb17 hb18))
                  have hin := (ints_any _ _ _ _ _ _ _ _ _ hv18 hw18 (by have := hv18.len; have := lostL_le L k; omega)).mono (fun e w' (h : _ ∧ _) => (⟨h.1, by obtain ⟨q, hq⟩ := h.2; rw [hq]; exact drewN_below _ q⟩ : e = _ ∧ Below w18.heap.size w18 w'))
                  rw [decide_eq_true rfl] at hin
                  have HIN := hide hin
                  clear hin
                  go_wp2_with fail
                  refine HIN.out.mono ?_
                  rintro e w19 ⟨rfl, hb19⟩
                  have hb919 := th hb16 (th hb17 (th hb18 hb19))
                  obtain ⟨_, it19, _⟩ := BX.out _ (th hb015 (th hb hb919))
                  have ki19 := KI.out _ (th hb2r hb919)
                  have htt := table_any A1 A (k + 1) c1 (k + 1) c L L w19 (hir.on entR_fine hb919) ((hl15.on entR_fine hb).on entR_fine hb919) (by omega)
                  rw [decide_eq_true rfl] at htt
                  have HTT2 := hide htt
                  clear htt
                  go_wp2_with fail
                  refine HTT2.out.mono ?_
                  rintro e w20 ⟨rfl, hb20⟩
                  go_wp2_with fail
                  refine (wakes10 _).mono ?_
                  rintro e w21 ⟨rfl, hb21⟩
                  go_wp2_with fail
                  go_ret
                  exact ⟨rfl, th hb0 (th hb015 (th hb (th hb919 (th hb20 hb21))))⟩
            · rw [decide_eq_false hT] at hrt
              have HRT2 := hide hrt
              have h5 : e5 = 1 ∧ n5 = 0 := by
                have h := HQ5.out
                unfold TBytes at h
                rcases h with ⟨_, h1, h2⟩ | ⟨h, _⟩
                · subst h2
                  exact ⟨h1, by simpa using hs5.len.symm⟩
                · exact absurd h.2 hT
              have h8 : e8 = 1 ∧ n8 = 0 := by
                have h := HQ8.out
                unfold TLost at h
                rcases h with ⟨_, h1, h2⟩ | ⟨h, _⟩
                · subst h2
                  exact ⟨h1, by simpa using hs8.len.symm⟩
                · exact absurd h.2 hT
              obtain ⟨rfl, rfl⟩ := h5
              obtain ⟨rfl, rfl⟩ := h8
              have HNO := hide hT
              clear hT hrt
              go_wp2_with fail
              refine HRT2.out.mono ?_
              rintro e w15 ⟨rfl, hb15⟩
              obtain ⟨⟨i0, i1, i2, i3, i4⟩, it, _⟩ := BX.out _ (th hb012 hb15)
              have ki15 := KI.out _ (th hb212 hb15)
              have HC := hide (check_no (z := z) (s := s) (l := l) (a := a) (fun h => HNO.out h.2) w15 (hi2.on entR_fine (th hb212 hb15)) (by omega))
              go_wp2_with fail
              refine HC.out.mono ?_
              rintro e w16 ⟨rfl, hb16⟩
              go_wp2_with fail
              refine (wakes10 _).mono ?_
              rintro e w17 ⟨rfl, hb17⟩
              go_wp2_with fail
              go_ret
              exact ⟨rfl, th hb0 (th hb012 (th hb15 (th hb16 hb17)))⟩
      · have dg : decide (GeoOk ⟨z, q, s, l, a⟩) = false := decide_eq_false hG
        have h3 : e3 = 1 ∧ T3 = [] := by
          have h := HQ3.out
          unfold FstQ at h
          rcases h with ⟨_, h1, h2⟩ | ⟨h, _⟩
          · exact ⟨h1, h2⟩
          · exact absurd h hG
        have h5 : e5 = 1 ∧ n5 = 0 := by
          have h := HQ5.out
          unfold TBytes at h
          rcases h with ⟨_, h1, h2⟩ | ⟨h, _⟩
          · subst h2
            exact ⟨h1, by simpa using hs5.len.symm⟩
          · exact absurd h.1 hG
        have h6 : e6 = 1 ∧ T6 = [] := by
          have h := HQ6.out
          unfold RdQ at h
          rcases h with ⟨_, h1, h2⟩ | ⟨h, _⟩ | ⟨h, _⟩
          · exact ⟨h1, h2⟩
          · exact absurd h hG
          · exact absurd h hG
        have h8 : e8 = 1 ∧ n8 = 0 := by
          have h := HQ8.out
          unfold TLost at h
          rcases h with ⟨_, h1, h2⟩ | ⟨h, _⟩
          · subst h2
            exact ⟨h1, by simpa using hs8.len.symm⟩
          · exact absurd h.1 hG
        obtain ⟨rfl, rfl⟩ := h3
        obtain ⟨rfl, rfl⟩ := h5
        obtain ⟨rfl, rfl⟩ := h6
        obtain ⟨rfl, rfl⟩ := h8
        rw [dg]
        have HC := hide (check_no (fun h => hG h.1) w10 hi10 (by omega))
        clear hG dg
        go_wp2_with fail
        refine HC.out.mono ?_
        rintro e w11 ⟨rfl, hb11⟩
        have kx11 := KX.out _ (th hb410 hb11)
        have kn11 := KN.out _ (th hb10 hb11)
        have ht1 := table_any U3 none n3 c3 0 0 [] [] w11 (hu4.on entR_fine (th hb410 hb11)) (Sl.nil_ _) (by have := hu3.len; simp at this; omega)
        rw [decide_eq_true rfl] at ht1
        have HT1 := hide ht1
        clear ht1
        go_wp2_with fail
        refine HT1.out.mono ?_
        rintro e w12 ⟨rfl, hb12⟩
        have kz12 := KZ.out _ (th hb710 (th hb11 hb12))
        have kn12 := KN.out _ (th hb10 (th hb11 hb12))
        have ht2 := table_any U6 none n6 c6 0 0 [] [] w12 (hu7.on entR_fine (th hb710 (th hb11 hb12))) (Sl.nil_ _) (by have := hu6.len; simp at this; omega)
        rw [decide_eq_true rfl] at ht2
        have HT2 := hide ht2
        clear ht2
        go_wp2_with fail
        refine HT2.out.mono ?_
        rintro e w13 ⟨rfl, hb13⟩
        go_wp2_with fail
        refine (wakes10 _).mono ?_
        rintro e w14 ⟨rfl, hb14⟩
        go_wp2_with fail
        go_ret
        exact ⟨rfl, th hb0 (th hb010 (th hb11 (th hb12 (th hb13 hb14))))⟩
    · have e20 : decide (300 < (m : Int)) = true := by simp; omega
      clear h300
      go_enter Try.func5, Try.ntmps5
      go_wp2_with fail
      go_ret
      exact ⟨rfl, by rw [← HW0.out]; exact hb0⟩
  · have e20 : decide (20 < (n : Int)) = true := by simp; omega
    clear h20
    go_enter Try.func5, Try.ntmps5
    go_wp2_with fail
    go_ret
    exact ⟨rfl, by rw [← HW0.out]; exact hb0⟩

theorem law_tableExact {w : World} {V0 V1 : Value} {g : Geo} {L : List Ent} (hg : ArgR geoR w V0 g) (hl : ArgR tabR w V1 L) {B : Option Addr} {m cb : Nat} {y : List UInt8} (hy : Bs w B m cb y) :
    Calls Try.prog 5 #[V0, V1, .slice B m cb] w fun e w' => e = .returned (.bool true) ∧ Below w.heap.size w w' := by
  obtain ⟨rfl, _⟩ := geo_form hg
  obtain ⟨A, n, c, rfl, hl2⟩ := tab_form hl
  exact tableExact_core g hl2 hy

end Go.Proofs.Ytamgpbkakmffiaa
