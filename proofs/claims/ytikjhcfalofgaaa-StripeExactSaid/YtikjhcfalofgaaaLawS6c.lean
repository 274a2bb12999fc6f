/-
  The walk of casematelaw14.StripeExact: neither is told.
-/
import Derived.Test.YtikjhcfalofgaaaLawS6
import Derived.Deep.CutBlock
namespace Go.Proofs.Ytikjhcfalofgaaa
open Go.RowKit Go.Lib
set_option linter.unusedVariables false
set_option maxRecDepth 100000

set_option maxHeartbeats 8000000 in
theorem se_00n {w : World} (g : Geo) (s : Int) (hs : InI s) (z : Int) (hz : InI z) {A B C E P : Option Addr} {n c m cb q cq p cp mp cP : Nat} {L : List Ent} {H : List (List UInt8)} {ats : List Int} {bl : List (List UInt8)} {par : List UInt8} (ha : Sl entR 3 w (Old w) A n c L) (hh : Rs w B m cb H) (hc : Is w C q cq ats) (hb : Rs w E p cp bl) (hP : Bs w P mp cP par) (hyes : GeoOk g ∧ TabOk g.data L) (hFz : imErr g z L par ats bl ≠ 0) (hRz : wrErr g L H ats bl s ≠ 0) (hAz : ¬ AtsOk g.data ats) :
    Calls Try.prog 3 #[g.v, .agg #[.slice A n c], .slice B m cb, .slice C q cq, .slice E p cp, .int .i64 s, .int .i64 z, .slice P mp cP] w fun e w' => e = .returned (.bool true) ∧ Below w.heap.size w w' := by
  have hh1 := fun w ha hh => heavy13 A B n c m cb L H w ha hh
  have hh2 := fun w ha hb => heavy13 A E n c p cp L bl w ha hb
  unfold HeavyPost HeavyOut HeavyQ at hh1 hh2
  obtain ⟨R, hR⟩ : ∃ R, R = wrErr g L H ats bl s := ⟨_, rfl⟩
  rw [← hR] at hRz
  obtain ⟨F, hF⟩ : ∃ F, F = imErr g z L par ats bl := ⟨_, rfl⟩
  rw [← hF] at hFz
  obtain ⟨UL, hU0, hU1⟩ : ∃ UL : List Ent, (R = 0 → UL = wrT L H ats bl s g.data.toNat) ∧ (R ≠ 0 → UL = []) := by by_cases h : R = 0; exact ⟨_, fun _ => rfl, fun h2 => absurd h h2⟩; exact ⟨[], fun h2 => absurd h2 h, fun _ => rfl⟩
  obtain ⟨PL, hP0, hP1⟩ : ∃ PL : List UInt8, (R = 0 → PL = parN L H ats bl g.data.toNat) ∧ (R ≠ 0 → PL = []) := by by_cases h : R = 0; exact ⟨_, fun _ => rfl, fun h2 => absurd h h2⟩; exact ⟨[], fun h2 => absurd h2 h, fun _ => rfl⟩
  obtain ⟨IL, hI0, hI1⟩ : ∃ IL : List Sec, (F = 0 → IL = imgL z L par ats bl) ∧ (F ≠ 0 → IL = []) := by by_cases h : F = 0; exact ⟨_, fun _ => rfl, fun h2 => absurd h h2⟩; exact ⟨[], fun h2 => absurd h2 h, fun _ => rfl⟩
  have hws := fun (A B : Option Addr) (c cb : Nat) (w : World) hn hm hq hp ha hh hc hb => write_sym (g := g) (A := A) (B := B) (C := C) (E := E) (n := n) (c := c) (m := m) (cb := cb) (q := q) (cq := cq) (p := p) (cp := cp) (L := L) (H := H) (ats := ats) (bl := bl) s (w := w) ha hh hc hb hn hm hq hp (R := R) (UL := UL) (PL := PL) hR (fun h => ⟨hU0 h, hP0 h⟩) (fun h => ⟨hU1 h, hP1 h⟩)
  have his := fun (A : Option Addr) (c : Nat) (w : World) hn hq hp ha hP hc hb => images_sym (g := g) (A := A) (C := C) (E := E) (P := P) (n := n) (c := c) (q := q) (cq := cq) (p := p) (cp := cp) (m := mp) (cP := cP) (L := L) (ats := ats) (bl := bl) (par := par) z hz (w := w) ha hP hc hb hn hq hp (F := F) (IL := IL) hF hI0 hI1
  have hge := fun w => rgeo_any g w
  have hrt := fun hG w ha hn => rtab_any A n c L g hG w ha hn
  have hrh := fun hG w hh hm => rhad_any B m cb H g hG w hh hm
  have hrw := fun (d : Nat) hG hd hT hH hA hl h8 hs w ha hh hc hb => rwritten_any (g := g) (d := d) hG hd (A := A) (B := B) (C := C) (E := E) (n := n) (c := c) (m := m) (cb := cb) (q := q) (cq := cq) (p := p) (cp := cp) (L := L) (H := H) (ats := ats) (bl := bl) s (w := w) ha hh hc hb hT hH hA hl h8 hs
  have hla := ha.len
  have hlh := hh.len
  have hlc := hc.len
  have hlb := hb.len
  have hlP := hP.len
  obtain ⟨gz, gd, gs, gl, ga⟩ := g
  dsimp only at hyes hAz
  have HAZ := hide hAz
  clear hAz
  have HYES := hide hyes
  have HFZ := hide hFz
  have HRZ := hide hRz
  clear hyes hFz hRz
  unfold Geo.v at *
  dsimp only at hws his hge hrt hrh hrw hU0 hP0
  obtain ⟨W0, hW0⟩ : ∃ W0, W0 = (w.alloc (.cells #[.int .i64 gz, .int .i64 gd, .int .i64 gs, .int .i64 gl, .int .i64 ga] 23)).alloc (.cells #[.slice A n c] 26) := ⟨_, rfl⟩
  have hb0 : Below w.heap.size w W0 := by rw [hW0]; exact (alloc_below w _).alloc (by simp) _
  have hx : ∀ W, Below W0.heap.size W0 W → (W.cell? ⟨w.heap.size, 0, none⟩ = some (.int .i64 gz) ∧ W.cell? ⟨w.heap.size, 1, none⟩ = some (.int .i64 gd) ∧ W.cell? ⟨w.heap.size, 2, none⟩ = some (.int .i64 gs) ∧ W.cell? ⟨w.heap.size, 3, none⟩ = some (.int .i64 gl) ∧ W.cell? ⟨w.heap.size, 4, none⟩ = some (.int .i64 ga)) ∧ W.cell? ⟨w.heap.size + 1, 0, none⟩ = some (.slice A n c) := fun W hW => by
    have h1 : Below (w.alloc (.cells #[.int .i64 gz, .int .i64 gd, .int .i64 gs, .int .i64 gl, .int .i64 ga] 23)).heap.size (w.alloc (.cells #[.int .i64 gz, .int .i64 gd, .int .i64 gs, .int .i64 gl, .int .i64 ga] 23)) W0 := by rw [hW0]; exact alloc_below _ _
    have h3 := th h1 hW
    refine ⟨⟨box_cell h3 0 _ rfl, box_cell h3 1 _ rfl, box_cell h3 2 _ rfl, box_cell h3 3 _ rfl, box_cell h3 4 _ rfl⟩, ?_⟩
    subst hW0
    have := box_cell hW 0 _ rfl
    simpa using this
  have HX := hide hx
  have HH1 := hide hh1
  have HH2 := hide hh2
  have HWS := hide hws
  have HIS := hide his
  have HGE := hide hge
  have HRT := hide hrt
  have HRH := hide hrh
  have HRW := hide hrw
  have HR := hide hR
  have HF := hide hF
  have HU := hide (And.intro hU0 hU1)
  have HPQ := hide (And.intro hP0 hP1)
  have HI := hide (And.intro hI0 hI1)
  have HLA := hide hla
  have HLH := hide hlh
  have HLC := hide hlc
  have HLB := hide hlb
  have HLP := hide hlP
  have ha0 := ha.on entR_fine hb0
  have hh0 := hh.on bytesR_fine hb0
  have hc0 := hc.on intR_fine hb0
  have hbl0 := hb.on bytesR_fine hb0
  have hpp0 := hP.on byteR_fine hb0
  obtain ⟨⟨p0, p1, p2, p3, p4⟩, pt⟩ := hx W0 (Below.refl _ _)
  rw [hW0] at p0 p1 p2 p3 p4 pt
  clear hh1 hh2 hws his hge hrt hrh hrw hx hR hF hU0 hU1 hP0 hP1 hI0 hI1 hla hlh hlc hlb hlP
  go_enter Try.func3, Try.ntmps3
  go_wp2_with fail
  rw [← hW0]
  clear p0 p1 p2 p3 p4 pt hW0
  refine (HH1.out _ ha0 hh0).mono ?_
  rintro e w1 ⟨hb1, b1, rfl, hq1⟩
  obtain ⟨⟨p0, p1, p2, p3, p4⟩, pt⟩ := HX.out w1 hb1
  cases b1 with
  | true =>
    clear hq1
    go_wp2_with fail
    go_ret
    exact ⟨rfl, th hb0 hb1⟩
  | false =>
    obtain ⟨l1, l2, l3⟩ := hq1 rfl
    have hn20 : n ≤ 20 := by rw [← HLA.out]; exact l1
    have hm20 : m ≤ 20 := by rw [← HLH.out]; exact l2
    have HH3 := hide l3
    clear hq1 l1 l2 l3
    go_wp2_with fail
    refine (HH2.out _ (ha0.on entR_fine hb1) (hbl0.on bytesR_fine hb1)).mono ?_
    rintro e w2 ⟨hb2, b2, rfl, hq2⟩
    have hb12 := th hb1 hb2
    cases b2 with
    | true =>
      clear hq2
      go_wp2_with fail
      go_ret
      exact ⟨rfl, th hb0 hb12⟩
    | false =>
      obtain ⟨l1, l2, l3⟩ := hq2 rfl
      have hp20 : p ≤ 20 := by rw [← HLB.out]; exact l2
      have HB3 := hide l3
      clear hq2 l1 l2 l3
      by_cases k1 : (20 : Int) < (q : Int)
      · have k1' : decide (20 < q) = true := by simp; omega
        go_wp2_with fail
        go_ret
        exact ⟨rfl, th hb0 hb12⟩
      · have k1' : decide (20 < q) = false := by simp; omega
        by_cases k2 : (100 : Int) < (mp : Int)
        · have k2' : decide (100 < mp) = true := by simp; omega
          go_wp2_with fail
          go_ret
          exact ⟨rfl, th hb0 hb12⟩
        · have k2' : decide (100 < mp) = false := by simp; omega
          obtain ⟨_, pt⟩ := HX.out w2 hb12
          clear p0 p1 p2 p3 p4
          go_wp2_with fail
          refine (twintable_any A n c L w2 (ha0.on entR_fine hb12) (by omega)).mono ?_
          rintro e w3 ⟨A3, c3, rfl, ho3, hb3⟩
          go_wp2_with fail
          refine (twinrows_any B m cb H w3 (hh0.on bytesR_fine (th hb12 hb3)) (by omega) (fun l hl => by have := HH3.out l hl; omega)).mono ?_
          rintro e w4 ⟨B4, c4, rfl, ho4, hb4⟩
          have hE5 := alloc_below w4 (.cells #[.slice A3 n c3] 26)
          obtain ⟨W5, hW5⟩ : ∃ W5, W5 = w4.alloc (.cells #[.slice A3 n c3] 26) := ⟨_, rfl⟩
          rw [← hW5] at hE5
          have hb05 := th hb12 (th hb3 (th hb4 hE5))
          have hi5 := (ho3.read entR_fine).on entR_fine (th hb4 hE5)
          have hr5 := (ho4.read bytesR_fine).on bytesR_fine hE5
          have hn5 : ∀ W, Below W5.heap.size W5 W → W.cell? ⟨w4.heap.size, 0, none⟩ = some (.slice A3 n c3) := fun W hW => by
            subst hW5
            exact box_cell hW 0 _ rfl
          have HN5 := hide hn5
          obtain ⟨⟨p0, p1, p2, p3, p4⟩, pt⟩ := HX.out W5 hb05
          have n5 := hn5 W5 (Below.refl _ _)
          rw [hW5] at p0 p1 p2 p3 p4 pt n5
          clear hn5
          go_wp2_with fail
          rw [← hW5]
          clear p0 p1 p2 p3 p4 pt n5 hW5
          refine (HWS.out _ _ _ _ _ (by omega) (by omega) (by omega) (by omega) hi5 hr5 (hc0.on intR_fine hb05) (hbl0.on bytesR_fine hb05)).mono ?_
          rintro e w6 ⟨hb6, V6, n6, c6, P6, np6, cP6, rfl, hs6, hp6⟩
          obtain ⟨W7, hW7⟩ : ∃ W7, W7 = w6.alloc (.cells #[.slice V6 n6 c6] 26) := ⟨_, rfl⟩
          have hE7 : Below w6.heap.size w6 W7 := by rw [hW7]; exact alloc_below _ _
          have hb57 := th hb6 hE7
          have hb07 := th hb05 hb57
          have hn7 : ∀ W, Below W7.heap.size W7 W → W.cell? ⟨w6.heap.size, 0, none⟩ = some (.slice V6 n6 c6) := fun W hW => by
            subst hW7
            exact box_cell hW 0 _ rfl
          have HN7 := hide hn7
          obtain ⟨⟨p0, p1, p2, p3, p4⟩, pt⟩ := HX.out W7 hb07
          have n5 := HN5.out W7 hb57
          rw [hW7] at p0 p1 p2 p3 p4 pt n5
          have hs7 := hs6.on entR_fine hE7
          have hp7 := hp6.on byteR_fine hE7
          clear hn7 hs6 hp6
          go_wp2_with fail
          rw [← hW7]
          clear p0 p1 p2 p3 p4 pt n5 hW7
          refine (HIS.out _ _ _ (by omega) (by omega) (by omega) (hi5.on entR_fine hb57) (hpp0.on byteR_fine hb07) (hc0.on intR_fine hb07) (hbl0.on bytesR_fine hb07)).mono ?_
          rintro e w8 ⟨hb8, V8, n8, c8, rfl, hs8⟩
          obtain ⟨W9, hW9⟩ : ∃ W9, W9 = w8.alloc (.cells #[.slice none 0 0] 26) := ⟨_, rfl⟩
          have hE9 : Below w8.heap.size w8 W9 := by rw [hW9]; exact alloc_below _ _
          have hb79 := th hb8 hE9
          have hb09 := th hb07 hb79
          have hn9 : ∀ W, Below W9.heap.size W9 W → W.cell? ⟨w8.heap.size, 0, none⟩ = some (.slice none 0 0) := fun W hW => by
            subst hW9
            exact box_cell hW 0 _ rfl
          have HN9 := hide hn9
          have hs9 := hs8.on secR_fine hE9
          have pt := (HX.out W9 hb09).2
          have n5 := HN5.out W9 (th hb57 hb79)
          rw [hW9] at pt n5
          clear hn9 hs8
          have hta := table_any A3 A n c3 n c L L W9 (hi5.on entR_fine (th hb57 hb79)) (ha0.on entR_fine hb09) (by omega)
          rw [decide_eq_true rfl] at hta
          have HTA := hide hta
          clear hta
          go_wp2_with fail
          rw [← hW9]
          clear pt n5 hW9
          refine HTA.out.mono ?_
          rintro e wA ⟨rfl, hbA⟩
          have hra := rows_any B4 B m c4 m cb H H wA (hr5.on bytesR_fine (th hb57 (th hb79 hbA))) (hh0.on bytesR_fine (th hb09 hbA)) (by omega) (fun l hl => by have := HH3.out l hl; omega)
          rw [decide_eq_true rfl] at hra
          have HRA := hide hra
          clear hra
          go_wp2_with fail
          refine HRA.out.mono ?_
          rintro e wB ⟨rfl, hbB⟩
          have hb9B := th hbA hbB
          have hb0B := th hb09 hb9B
          obtain ⟨⟨p0, p1, p2, p3, p4⟩, pt⟩ := HX.out wB hb0B
          have hge1 := HGE.out wB
          have hG := HYES.out.1
          · rw [decide_eq_true hG] at hge1
            have HG1 := hide hge1
            clear hge1
            go_wp2_with fail
            refine HG1.out.mono ?_
            rintro e wC ⟨rfl, hbC⟩
            have hb0C := th hb0B hbC
            obtain ⟨⟨p0, p1, p2, p3, p4⟩, pt⟩ := HX.out wC hb0C
            have hrt1 := HRT.out hG wC (ha0.on entR_fine hb0C) (by omega)
            have hT := HYES.out.2
            · rw [decide_eq_true hT] at hrt1
              have HT1 := hide hrt1
              clear hrt1
              have hd4 := hG.2.1
              dsimp only at hd4
              obtain ⟨d, rfl⟩ : ∃ d : Nat, gd = (d : Int) := ⟨gd.toNat, by omega⟩
              have hFv : F = if ¬ ((0 ≤ z ∧ z < gz) ∧ AtsOk (d : Int) ats) then 1 else if ¬ ((bl.length = ats.length ∧ ∀ x ∈ bl, x.length = 8) ∧ par.length = 8) then 2 else 0 := by have h := HF.out; unfold imErr at h; rw [if_neg (not_not_intro ⟨hG, hT⟩)] at h; exact h
              have hRv : R = if ¬ HadOk (d : Int) H then 2 else if ¬ (AtsOk (d : Int) ats ∧ NumOk s) then 1 else if ¬ (bl.length = ats.length ∧ ∀ x ∈ bl, x.length = 8) then 2 else 0 := by have h := HR.out; unfold wrErr at h; rw [if_neg (not_not_intro ⟨hG, hT⟩)] at h; exact h
              have HFv := hide hFv
              have HRv := hide hRv
              have HGG := hide hG
              have HTT := hide hT
              obtain ⟨RB, hRB⟩ : ∃ RB, RB = decide (AtsOk (d : Int) ats) := ⟨_, rfl⟩
              obtain ⟨LB, hLB⟩ : ∃ LB, LB = decide (bl.length = ats.length ∧ ∀ x ∈ bl, x.length = 8) := ⟨_, rfl⟩
              have hra2 := fun w hc => rats_any (d : Int) (by omega) C q cq ats w hc
              rw [← hRB] at hra2
              have HRA2 := hide hra2
              have HRB := hide hRB
              have hrbz : RB = false := by rw [hRB]; exact decide_eq_false HAZ.out
              clear hRB
              subst hrbz
              have HLB2 := hide hLB
              clear hFv hRv hra2 hLB hG hT
              go_wp2_with fail
              refine HT1.out.mono ?_
              rintro e wD ⟨rfl, hbD⟩
              have hb0D := th hb0C hbD
              obtain ⟨⟨p0, p1, p2, p3, p4⟩, pt⟩ := HX.out wD hb0D
              go_wp2_with fail
              refine (HRA2.out _ (hc0.on intR_fine hb0D)).mono ?_
              rintro e wE ⟨rfl, hbE⟩
              have hb0E := th hb0D hbE
              have hbr := bright_any E p cp bl wE (hbl0.on bytesR_fine hb0E) (by omega)
              obtain ⟨BB, hBB⟩ : ∃ BB, BB = decide (∀ x ∈ bl, Blk8 x) := ⟨_, rfl⟩
              rw [← hBB] at hbr
              have HBR := hide hbr
              have HBB := hide hBB
              clear hbr hBB p0 p1 p2 p3 p4 pt
              go_upto_region 12 with fail
              go_cut [26] (fun v wx => v = .bool LB ∧ Below wE.heap.size wE wx)
              case first =>
                as_aux_lemma =>
                  by_cases hpq : p = q
                  · subst hpq
                    obtain rfl : LB = BB := by
                      rw [HLB2.out, HBB.out, Bool.eq_iff_iff]
                      simp only [decide_eq_true_eq]
                      exact ⟨fun h => h.2, fun h => ⟨by rw [HLB.out, HLC.out], h⟩⟩
                    go_wp2_with fail
                    refine HBR.out.mono ?_
                    rintro e wY ⟨rfl, rfl⟩
                    go_wp2_with fail
                    go_meet
                    exact ⟨rfl, Below.refl _ _⟩
                  · obtain rfl : LB = false := by rw [HLB2.out]; exact decide_eq_false fun h => hpq (by rw [← HLB.out, ← HLC.out]; exact h.1)
                    have e1 : ((p : Int) == (q : Int)) = false := by simp; omega
                    have e2 : (p == q) = false := by simp; omega
                    clear hpq
                    go_wp2_with fail
                    go_meet
                    exact ⟨rfl, Below.refl _ _⟩
              case rest =>
                obtain ⟨rfl, hbF⟩ := hcut
                obtain ⟨wF, hwF⟩ : ∃ wF, wF = wc := ⟨_, rfl⟩
                subst hwF
                have hb0F := th hb0E hbF
                obtain ⟨⟨p0, p1, p2, p3, p4⟩, pt⟩ := HX.out wF hb0F
                go_upto_block 0 with fail
                go_cut [27] (fun v wx => v = .int .i64 F ∧ Below wF.heap.size wF wx)
                case first =>
                  as_aux_lemma =>
                    by_cases z0 : z < 0
                    · obtain rfl : F = 1 := by have h := HFv.out; rw [if_pos (fun h2 => by have := h2.1; omega)] at h; exact h
                      go_wp2_with fail
                      go_meet
                      exact ⟨rfl, Below.refl _ _⟩
                    · by_cases z1 : gz ≤ z
                      · obtain rfl : F = 1 := by have h := HFv.out; rw [if_pos (fun h2 => by have := h2.1; omega)] at h; exact h
                        go_wp2_with fail
                        go_meet
                        exact ⟨rfl, Below.refl _ _⟩
                      · skip
                        obtain rfl : F = 1 := by have h := HFv.out; rw [if_pos (fun h2 => of_decide_eq_false HRB.out.symm h2.2)] at h; exact h
                        go_wp2_with fail
                        go_meet
                        exact ⟨rfl, Below.refl _ _⟩
                case rest =>
                  obtain ⟨rfl, hbG⟩ := hcut
                  obtain ⟨wG, hwG⟩ : ∃ wG, wG = wc := ⟨_, rfl⟩
                  subst hwG
                  have hb0G := th hb0F hbG
                  obtain ⟨⟨p0, p1, p2, p3, p4⟩, pt⟩ := HX.out wG hb0G
                  have hb9G := th hb9B (th hbC (th hbD (th hbE (th hbF hbG))))
                  go_upto_region 18 with fail
                  go_cut [175] (fun v wx => v = .bool false ∧ Below wG.heap.size wG wx)
                  case first =>
                    as_aux_lemma =>
                      have hF0 : ¬ F = 0 := HFZ.out
                      · obtain rfl := HI.out.2 hF0
                        obtain rfl : n8 = 0 := hs9.len.symm
                        have e1 : (F != 0) = true := by simpa using hF0
                        have e2 : (F == 0) = false := by simpa using hF0
                        clear hF0
                        go_wp2_with fail
                        go_meet
                        exact ⟨rfl, Below.refl _ _⟩
                  case rest =>
                    obtain ⟨rfl, hbH⟩ := hcut
                    obtain ⟨wH, hwH⟩ : ∃ wH, wH = wc := ⟨_, rfl⟩
                    subst hwH
                    have hb0H := th hb0G hbH
                    obtain ⟨⟨p0, p1, p2, p3, p4⟩, pt⟩ := HX.out wH hb0H
                    have hrh1 := HRH.out HGG.out wH (hh0.on bytesR_fine hb0H) (by omega)
                    obtain ⟨HB, hHB⟩ : ∃ HB, HB = decide (HadOk (d : Int) H) := ⟨_, rfl⟩
                    rw [← hHB] at hrh1
                    have HRH1 := hide hrh1
                    have HHB := hide hHB
                    clear hrh1 hHB
                    go_upto_block 1 with fail
                    go_cut [27] (fun v wx => v = .int .i64 R ∧ Below wH.heap.size wH wx)
                    case first =>
                      as_aux_lemma =>
                        go_wp2_with fail
                        refine HRH1.out.mono ?_
                        rintro e wY ⟨rfl, hbY⟩
                        cases HB with
                        | false =>
                          obtain rfl : R = 2 := by have h := HRv.out; rw [if_pos (of_decide_eq_false HHB.out.symm)] at h; exact h
                          go_wp2_with fail
                          go_meet
                          exact ⟨rfl, hbY⟩
                        | true =>
                          have hR2 : R = if ¬ (AtsOk (d : Int) ats ∧ NumOk s) then 1 else if ¬ (bl.length = ats.length ∧ ∀ x ∈ bl, x.length = 8) then 2 else 0 := by have h := HRv.out; rw [if_neg (not_not_intro (of_decide_eq_true HHB.out.symm))] at h; exact h
                          have HR2 := hide hR2
                          clear hR2
                          obtain rfl : R = 1 := by have h := HR2.out; rw [if_pos (fun h2 => of_decide_eq_false HRB.out.symm h2.1)] at h; exact h
                          go_wp2_with fail
                          go_meet
                          exact ⟨rfl, hbY⟩
                    case rest =>
                      obtain ⟨rfl, hbI⟩ := hcut
                      obtain ⟨wI, hwI⟩ : ∃ wI, wI = wc := ⟨_, rfl⟩
                      subst hwI
                      have hb0I := th hb0H hbI
                      have hb9I := th hb9G (th hbH hbI)
                      have hb7I := th hb79 hb9I
                      obtain ⟨⟨p0, p1, p2, p3, p4⟩, pt⟩ := HX.out wI hb0I
                      have hR0 : ¬ R = 0 := HRZ.out
                      · obtain rfl : UL = [] := HU.out.2 hR0
                        obtain rfl : PL = [] := HPQ.out.2 hR0
                        obtain rfl : n6 = 0 := hs7.len.symm
                        obtain rfl : np6 = 0 := hp7.len.symm
                        have e1 : (R != 0) = true := by simpa using hR0
                        have hz := table_any V6 none 0 c6 0 0 [] [] wI (hs7.on entR_fine hb7I) (Sl.nil_ _) (by omega)
                        rw [decide_eq_true rfl] at hz
                        have HZ := hide hz
                        clear hz
                        have n7 := HN7.out wI hb7I
                        have n9 := HN9.out wI hb9I
                        clear hR0 p0 p1 p2 p3 p4 pt
                        go_wp2_with fail
                        refine HZ.out.mono ?_
                        rintro e wY ⟨rfl, hbY⟩
                        go_wp2_with fail
                        refine (wakes14 _).mono ?_
                        rintro e wZ ⟨rfl, hbZ⟩
                        go_wp2_with fail
                        go_ret
                        exact ⟨rfl, th hb0 (th hb0I (th hbY hbZ))⟩

end Go.Proofs.Ytikjhcfalofgaaa
