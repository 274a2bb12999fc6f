/-
  The walk of the law ZoneExact.
-/
import Derived.Test.YtnieiobpbioeiaaLawZ1
import Derived.Test.YtnieiobpbioeiaaSpot
import Derived.Deep.RegionLaw
namespace Go.Proofs.Ytnieiobpbioeiaa
open Go.RowKit
set_option linter.unusedVariables false
set_option maxRecDepth 100000

theorem nil_len {α : Type} {n : Nat} {l : List α} (h : l.length = n) (h0 : l = []) : n = 0 := by subst h0; exact h.symm

set_option maxHeartbeats 8000000 in
theorem zoneExact_core {w : World} {A B : Option Addr} {n c m cb : Nat} {L : List Ent} {H : List (List UInt8)} (g : Geo) (ha : Sl entR 3 w (Old w) A n c L) (hh : Rs w B m cb H) (at_ : Int) (hat : InI at_) :
    Calls Try.prog 3 #[g.v, .agg #[.slice A n c], .slice B m cb, .int .i64 at_] w fun e w' => e = .returned (.bool true) ∧ Below w.heap.size w w' := by
  have hb0 : Below w.heap.size w ((w.alloc (.cells #[.int .i64 g.zones, .int .i64 g.data, .int .i64 g.spares, .int .i64 g.slots, .int .i64 g.anchors] 23)).alloc (.cells #[.slice A n c] 26)) := (alloc_below w _).alloc (by simp) _
  have BX := hide (boxes_gt (w := w) g (A := A) (n := n) (c := c) 23 26)
  have ha0 := ha.on entR_fine hb0
  have hh0 := hh.on bytesR_fine hb0
  have hve := heavy13 A B n c m cb L H _ ha0 hh0
  have HVE := hide hve
  have hgc := fun w => rgeo_any g w
  have HGC := hide hgc
  clear hve hgc
  unfold Geo.v
  unfold Geo.v at HGC
  obtain ⟨gz, gd, gs, gl, ga⟩ := g
  dsimp only at BX HGC ha0 hh0 HVE hb0 ⊢
  go_enter Try.func3, Try.ntmps3
  go_wp2_with fail
  refine HVE.out.mono ?_
  rintro e w1 ⟨hb1, b, rfl, hq⟩
  cases b with
  | true =>
    clear hq
    go_wp2_with fail
    go_ret
    exact ⟨rfl, th hb0 hb1⟩
  | false =>
    obtain ⟨hl1, hl2, hl3⟩ := hq rfl
    have h8H : ∀ l ∈ H, l.length ≤ 65536 := fun l hl => by have := hl3 l hl; omega
    have H8H := hide h8H
    have ha1 := ha0.on entR_fine hb1
    have hh1 := hh0.on bytesR_fine hb1
    have hnn := ha.len
    have hmm := hh.len
    have hn : n ≤ 20 := by omega
    have hm : m ≤ 20 := by omega
    clear hq hl1 hl2 hl3 hnn hmm h8H
    obtain ⟨x0, x1, x2, x3, x4, xt, _⟩ := BX.out w1 hb1
    go_wp2_with fail
    refine (twintable_any A n c L _ ha1 (by omega)).mono ?_
    rintro e w2 ⟨A2, c2, rfl, ho2, hb2⟩
    have hb12 := th hb1 hb2
    have ha2 := ha1.on entR_fine hb2
    have hh2 := hh1.on bytesR_fine hb2
    go_wp2_with fail
    refine (twinrows_any B m cb H _ hh2 (by omega) H8H.out).mono ?_
    rintro e w3 ⟨B3, c3, rfl, ho3, hb3⟩
    have hb4 := alloc_below w3 (.cells #[.slice A2 n c2] 26)
    have hb14 := th hb12 (th hb3 hb4)
    have ha4 := ha2.on entR_fine (th hb3 hb4)
    have hh4 := hh2.on bytesR_fine (th hb3 hb4)
    have hi4 := (ho2.read entR_fine).on entR_fine (th hb3 hb4)
    have hj4 := (ho3.read bytesR_fine).on bytesR_fine hb4
    have kt : ∀ W, Below (w3.alloc (.cells #[.slice A2 n c2] 26)).heap.size (w3.alloc (.cells #[.slice A2 n c2] 26)) W → W.cell? ⟨w3.heap.size, 0, none⟩ = some (.slice A2 n c2) := fun W hW => box_cell hW 0 _ rfl
    have KT := hide kt
    have hbl := block_any A2 B3 n c2 m c3 L H ⟨gz, gd, gs, gl, ga⟩ _ hi4 hj4 (by omega) (by omega) at_
    unfold Geo.v BlockPost at hbl
    dsimp only at hbl
    have HBL := hide hbl
    obtain ⟨y0, y1, y2, y3, y4, yt, _⟩ := BX.out _ hb14
    clear kt hbl
    go_wp2_with fail
    refine HBL.out.mono ?_
    rintro e w5 ⟨hb5, V5, n5, c5, l5, er5, rfl, hs5, hq5⟩
    have hb15 := th hb14 hb5
    have ha5 := ha4.on entR_fine hb5
    have hh5 := hh4.on bytesR_fine hb5
    have hi5 := hi4.on entR_fine hb5
    have hj5 := hj4.on bytesR_fine hb5
    have HQ5 := hide hq5
    have hl5 := hs5.len
    have HL5 := hide hl5
    have hza := zall_any A2 B3 n c2 m c3 L H ⟨gz, gd, gs, gl, ga⟩ _ hi5 hj5 (by omega) (by omega)
    unfold Geo.v AllPost at hza
    dsimp only at hza
    have HZA := hide hza
    obtain ⟨z0, z1, z2, z3, z4, zt, _⟩ := BX.out _ hb15
    have zu := KT.out _ hb5
    clear hq5 hl5 hza
    go_wp2_with fail
    refine HZA.out.mono ?_
    rintro e w6 ⟨hb6, V6, n6, c6, V6', n6', c6', l6, k6, er6, rfl, hs6, hs6', hq6⟩
    have hb16 := th hb15 hb6
    have ha6 := ha5.on entR_fine hb6
    have hh6 := hh5.on bytesR_fine hb6
    have hi6 := hi5.on entR_fine hb6
    have hj6 := hj5.on bytesR_fine hb6
    have hs56 := hs5.on byteR_fine hb6
    have HQ6 := hide hq6
    have hl6 := hs6.len
    have HL6 := hide hl6
    have hl6' := hs6'.len
    have HL6' := hide hl6'
    have htt := table_any A2 A n c2 n c L L _ hi6 ha6 (by omega)
    rw [decide_eq_true rfl] at htt
    have HTT := hide htt
    obtain ⟨v0, v1, v2, v3, v4, vt, _⟩ := BX.out _ hb16
    have vu := KT.out _ (th hb5 hb6)
    clear hq6 hl6 hl6' htt
    go_wp2_with fail
    refine HTT.out.mono ?_
    rintro e w7 ⟨rfl, hb7⟩
    have hb17 := th hb16 hb7
    have hrr := rows_any B3 B m c3 m cb H H _ (hj6.on bytesR_fine hb7) (hh6.on bytesR_fine hb7) (by omega) H8H.out
    rw [decide_eq_true rfl] at hrr
    have HRR := hide hrr
    clear hrr
    go_wp2_with fail
    refine HRR.out.mono ?_
    rintro e w8 ⟨rfl, hb8⟩
    have hb18 := th hb17 hb8
    obtain ⟨p0, p1, p2, p3, p4, pt, _⟩ := BX.out _ hb18
    clear HBL HZA HTT HRR HVE
    go_wp2_with fail
    refine (HGC.out _).mono ?_
    rintro e w9 ⟨rfl, hb9⟩
    have hb19 := th hb18 hb9
    have hb69 := th hb7 (th hb8 hb9)
    have ha9 := ha6.on entR_fine hb69
    have hh9 := hh6.on bytesR_fine hb69
    obtain ⟨q0, q1, q2, q3, q4, qt, _⟩ := BX.out _ hb19
    have hbad : ¬ (GeoOk ⟨gz, gd, gs, gl, ga⟩ ∧ TabOk gd L) → n5 = 0 ∧ er5 = 1 ∧ n6 = 0 ∧ n6' = 0 ∧ er6 = 1 := fun hno => by
      have q5 := HQ5.out
      have q6 := HQ6.out
      unfold BlockQ at q5
      unfold AllZ at q6
      rcases q5 with ⟨_, h1, h2⟩ | ⟨h, _⟩ | ⟨h, _⟩ | ⟨h, _⟩
      · rcases q6 with ⟨_, h3, h4, h5⟩ | ⟨h, _⟩ | ⟨h, _⟩
        · exact ⟨nil_len HL5.out h2, h1, nil_len HL6.out h4, nil_len HL6'.out h5, h3⟩
        · exact absurd h hno
        · exact absurd h hno
      · exact absurd h hno
      · exact absurd h hno
      · exact absurd h hno
    have HBAD := hide hbad
    clear hbad
    by_cases hG : GeoOk ⟨gz, gd, gs, gl, ga⟩
    · rw [decide_eq_true hG]
      have hta := rtab_any A n c L ⟨gz, gd, gs, gl, ga⟩ hG _ ha9 (by omega)
      unfold Geo.v at hta
      dsimp only at hta
      have HTA := hide hta
      clear hta
      go_wp2_with fail
      refine HTA.out.mono ?_
      rintro e w10 ⟨rfl, hb10⟩
      have hb110 := th hb19 hb10
      by_cases hT : TabOk gd L
      · rw [decide_eq_true hT]
        have ha10 := ha9.on entR_fine hb10
        have hh10 := hh9.on bytesR_fine hb10
        obtain ⟨r0, r1, r2, r3, r4, rt, _⟩ := BX.out _ hb110
        have hha := rhad_any B m cb H ⟨gz, gd, gs, gl, ga⟩ hG _ hh10 (by omega)
        unfold Geo.v at hha
        dsimp only at hha
        have HHA := hide hha
        clear hha
        go_wp2_with fail
        refine HHA.out.mono ?_
        rintro e w11 ⟨rfl, hb11⟩
        have hb111 := th hb110 hb11
        by_cases hH : HadOk gd H
        · rw [decide_eq_true hH]
          obtain ⟨d, rfl⟩ : ∃ d : Nat, gd = (d : Int) := ⟨gd.toNat, by have := hG.2.1; dsimp only at this; omega⟩
          have hd4 : d ≤ 4 := by have := hG.2.1; dsimp only at this; omega
          have q6 := HQ6.out
          unfold AllZ at q6
          rcases q6 with ⟨h, _⟩ | ⟨_, h, _⟩ | ⟨_, _, rfl, rfl, rfl⟩
          · exact absurd ⟨hG, hT⟩ h
          · exact absurd hH h
          · have hn6 := HL6.out
            have hn6' := HL6'.out
            simp at hn6 hn6'
            subst hn6
            subst hn6'
            dsimp only [Int.toNat_natCast] at hs6 hs6'
            have ha11 := ha10.on entR_fine hb11
            have hh11 := hh10.on bytesR_fine hb11
            have hb611 := th hb69 (th hb10 hb11)
            have hs11 := hs6.on bytesR_fine hb611
            have hs11' := hs6'.on boolR_fine hb611
            have hv11 := hs56.on byteR_fine hb611
            have hrk : ∀ (W : World), Below w11.heap.size w11 W → ∀ k : Nat, (k : Int) ≤ (d : Int) → Calls Try.prog 36 #[Geo.v ⟨gz, d, gs, gl, ga⟩, .agg #[.slice A n c], .slice B m cb, .int .i64 k] W (RKnown W (knownL L H k)) := fun W hW k hk => rknown_any (g := ⟨gz, d, gs, gl, ga⟩) hG (ha11.on entR_fine hW) (hh11.on bytesR_fine hW) hT hH k hk
            unfold Geo.v RKnown at hrk
            dsimp only at hrk
            have HRK := hide hrk
            have HG := hide hG
            have HT := hide hT
            have HH := hide hH
            obtain ⟨s0, s1, s2, s3, s4, st, _⟩ := BX.out _ hb111
            clear hrk hG hT hH
            go_wp2_with fail
            go_loopw [16, 17] (fun i _ wr => ∃ k : Nat, k ≤ d + 1 ∧ i = .int .i64 k ∧ Below w11.heap.size w11 wr) (fun i _ _ => d + 1 - (intOf i).toNat)
            case atStart => exact ⟨0, by omega, rfl, Below.refl _ _⟩
            case round =>
              obtain ⟨k, hk, rfl, hb⟩ := hrel
              have hbr := th hb111 hb
              obtain ⟨f0, f1, f2, f3, f4, ft, _⟩ := BX.out wr hbr
              by_cases hlt : k < d + 1
              · go_wp2_with fail
                refine (HRK.out wr hb k (by omega)).mono ?_
                rintro e w12 ⟨hb12', V12, n12, c12, rfl, hs12⟩
                have hbk := th hb hb12'
                obtain ⟨kd, kx, rfl, hkdl, hkx, hkc⟩ := at_bool (hs11'.on boolR_fine hbk) hlt
                obtain ⟨ld, lx, A3, n3, c3', rfl, hldl, hlx, hls, hlc⟩ := at_row (hs11.on bytesR_fine hbk) hlt
                rw [List.getElem?_map, List.getElem?_range hlt] at hkx hlx
                simp only [Option.map_some] at hkx hlx
                injection hkx with hkx
                injection hlx with hlx
                subst hlx
                have hn12 := hs12.len
                have hn3 := hls.len
                have h8 := known_len (L := L) HH.out k
                have hbs := bytes_same _ hls hs12 (by omega)
                have HBS := hide hbs
                clear hbs
                by_cases hK : knownL L H k = []
                · obtain rfl : kx = false := by rw [← hkx]; exact decide_eq_false (fun h => h hK)
                  obtain rfl : n12 = 0 := nil_len hn12 hK
                  clear hkx hn12 hn3 h8 hK
                  go_wp2_with fail
                  refine HBS.out.mono ?_
                  rintro e w13 ⟨rfl, hb13'⟩
                  go_wp2_with fail
                  go_roundw
                  case rel => exact ⟨k + 1, by omega, by go_num, th hbk hb13'⟩
                  case measure => simp [intOf]; omega
                · obtain rfl : kx = true := by rw [← hkx]; exact decide_eq_true hK
                  obtain rfl : n12 = 8 := by
                    rcases h8 with h | h
                    · exact absurd (List.eq_nil_of_length_eq_zero h) hK
                    · omega
                  clear hkx hn12 hn3 h8 hK
                  go_wp2_with fail
                  refine HBS.out.mono ?_
                  rintro e w13 ⟨rfl, hb13'⟩
                  go_wp2_with fail
                  go_roundw
                  case rel => exact ⟨k + 1, by omega, by go_num, th hbk hb13'⟩
                  case measure => simp [intOf]; omega
              · obtain rfl : k = d + 1 := by omega
                have hwa := what_any ⟨gz, d, gs, gl, ga⟩ HG.out at_ wr
                unfold Geo.v at hwa
                dsimp only at hwa
                have HWA := hide hwa
                clear hwa
                go_wp2_with fail
                refine HWA.out.mono ?_
                rintro e w12 ⟨rfl, hb12'⟩
                have hb112 := th hbr hb12'
                have hbk := th hb hb12'
                obtain ⟨i0, i1, i2, i3, i4, it, _⟩ := BX.out w12 hb112
                have q5 := HQ5.out
                unfold BlockQ at q5
                by_cases hw : -1 ≤ at_ ∧ at_ ≤ (d : Int) - 1
                · rw [decide_eq_true hw]
                  rcases q5 with ⟨h, _⟩ | ⟨_, h, _⟩ | ⟨_, _, h, _⟩ | ⟨_, _, _, h1, h2⟩
                  · exact absurd ⟨HG.out, HT.out⟩ h
                  · exact absurd HH.out h
                  · exact absurd ⟨hw.1, by show at_ < (d : Int); have := hw.2; omega⟩ h
                  · obtain ⟨i, hid, hi1, hi2⟩ : ∃ i : Nat, i ≤ d ∧ (if at_ = -1 then (d : Int) else at_) = (i : Int) ∧ (if at_ = -1 then (d : Int).toNat else at_.toNat) = i := by
                      refine ⟨if at_ = -1 then (d : Int).toNat else at_.toNat, ?_, ?_, rfl⟩
                      · split <;> omega
                      · split <;> omega
                    have hga := gat_any ⟨gz, d, gs, gl, ga⟩ at_ w12.drew
                    unfold Geo.v at hga
                    dsimp only at hga h1
                    rw [hi1] at hga
                    rw [hi2] at h1
                    subst h1
                    have HGA := hide hga
                    have HER := hide h2
                    clear hw hga h2 hi1 hi2
                    go_upto_region 22 with fail
                    go_cut [18] (fun v wx => ∃ V nv cv, v = .slice V nv cv ∧ Bs wx V nv cv (knownL L H i) ∧ Below w12.heap.size w12 wx)
                    case first =>
                      go_region_law (first
                        | (go_simp; go_at_call 39; refine HGA.out.mono ?_; rintro e w13 ⟨rfl, hb13'⟩; have hb13 := undrew hb13'; have hb113 := th hb112 hb13; obtain ⟨j0, j1, j2, j3, j4, jt, _⟩ := BX.out w13 hb113)
                        | (go_simp; go_at_call 36; refine (HRK.out w13 (th hbk hb13) i (by omega)).mono ?_; rintro e w14 ⟨hb14', V14, n14, c14, rfl, hs14⟩))
                      all_goals (go_wp2_with fail; go_meet; exact ⟨V14, n14, c14, rfl, hs14, th hb13 hb14'⟩)
                    case rest =>
                      obtain ⟨V14, n14, c14, rfl, hs14, hb14'⟩ := hcut
                      have hn14 := hs14.len
                      have hn5 := HL5.out
                      have h8 := known_len (L := L) HH.out i
                      have hv14 := hv11.on byteR_fine (th hbk hb14')
                      have hbs := bytes_same _ hv14 hs14 (by omega)
                      have HBS := hide hbs
                      clear hbs
                      by_cases hK : knownL L H i = []
                      · obtain rfl : n14 = 0 := nil_len hn14 hK
                        obtain rfl : n5 = 0 := nil_len hn5 hK
                        have he := HER.out
                        rw [if_pos hK] at he
                        subst he
                        clear hn14 hn5 h8 hK
                        go_wp2_with fail
                        refine (wakes13 _).mono ?_
                        rintro e w15 ⟨rfl, hb15'⟩
                        go_wp2_with fail
                        go_ret
                        exact ⟨rfl, th hb0 (th hb112 (th hb14' hb15'))⟩
                      · obtain rfl : n14 = 8 := by
                          rcases h8 with h | h
                          · exact absurd (List.eq_nil_of_length_eq_zero h) hK
                          · omega
                        have he := HER.out
                        rw [if_neg hK] at he
                        subst he
                        clear hn14 hn5 h8 hK
                        go_wp2_with fail
                        refine HBS.out.mono ?_
                        rintro e w15 ⟨rfl, hb15'⟩
                        go_wp2_with fail
                        refine (wakes13 _).mono ?_
                        rintro e w16 ⟨rfl, hb16'⟩
                        go_wp2_with fail
                        go_ret
                        exact ⟨rfl, th hb0 (th hb112 (th hb14' (th hb15' hb16')))⟩
                · rw [decide_eq_false hw]
                  rcases q5 with ⟨h, _⟩ | ⟨_, h, _⟩ | ⟨_, _, _, h1, h2⟩ | ⟨_, _, h, _⟩
                  · exact absurd ⟨HG.out, HT.out⟩ h
                  · exact absurd HH.out h
                  · subst h1
                    obtain rfl : n5 = 0 := nil_len HL5.out h2
                    clear hw h2
                    go_wp2_with fail
                    refine (wakes13 _).mono ?_
                    rintro e w13 ⟨rfl, hb13'⟩
                    go_wp2_with fail
                    go_ret
                    exact ⟨rfl, th hb0 (th hb112 hb13')⟩
                  · exact absurd ⟨h.1, by have h3 : at_ < (d : Int) := h.2; omega⟩ hw
        · rw [decide_eq_false hH]
          have h2 : n5 = 0 ∧ er5 = 2 ∧ n6 = 0 ∧ n6' = 0 ∧ er6 = 2 := by
            have q5 := HQ5.out
            have q6 := HQ6.out
            unfold BlockQ at q5
            unfold AllZ at q6
            rcases q5 with ⟨h, _⟩ | ⟨_, _, h1, h2⟩ | ⟨_, h, _⟩ | ⟨_, h, _⟩
            · exact absurd ⟨hG, hT⟩ h
            · rcases q6 with ⟨h, _⟩ | ⟨_, _, h3, h4, h5⟩ | ⟨_, h, _⟩
              · exact absurd ⟨hG, hT⟩ h
              · exact ⟨nil_len HL5.out h2, h1, nil_len HL6.out h4, nil_len HL6'.out h5, h3⟩
              · exact absurd h hH
            · exact absurd h hH
            · exact absurd h hH
          obtain ⟨rfl, rfl, rfl, rfl, rfl⟩ := h2
          clear hG hT hH
          go_wp2_with fail
          refine (wakes13 _).mono ?_
          rintro e w12 ⟨rfl, hb12'⟩
          go_wp2_with fail
          go_ret
          exact ⟨rfl, th hb0 (th hb111 hb12')⟩
      · rw [decide_eq_false hT]
        obtain ⟨rfl, rfl, rfl, rfl, rfl⟩ := HBAD.out fun h => hT h.2
        clear hG hT
        go_wp2_with fail
        refine (wakes13 _).mono ?_
        rintro e w12 ⟨rfl, hb12'⟩
        go_wp2_with fail
        go_ret
        exact ⟨rfl, th hb0 (th hb110 hb12')⟩
    · rw [decide_eq_false hG]
      obtain ⟨rfl, rfl, rfl, rfl, rfl⟩ := HBAD.out fun h => hG h.1
      clear hG
      go_wp2_with fail
      refine (wakes13 _).mono ?_
      rintro e w12 ⟨rfl, hb12'⟩
      go_wp2_with fail
      go_ret
      exact ⟨rfl, th hb0 (th hb19 hb12')⟩

theorem law_zoneExact {w : World} {V0 V1 : Value} {B : Option Addr} {m cb : Nat} {g : Geo} {L : List Ent} {H : List (List UInt8)} (hg : ArgR geoR w V0 g) (ht : ArgR tabR w V1 L) (hh : Rs w B m cb H) (at_ : Int) (hat : InI at_) :
    Calls Try.prog 3 #[V0, V1, .slice B m cb, .int .i64 at_] w fun e w' => e = .returned (.bool true) ∧ Below w.heap.size w w' := by
  obtain ⟨rfl, _⟩ := geo_form hg
  obtain ⟨A, n, c, rfl, ha⟩ := tab_form ht
  exact zoneExact_core g ha hh at_ hat

end Go.Proofs.Ytnieiobpbioeiaa
