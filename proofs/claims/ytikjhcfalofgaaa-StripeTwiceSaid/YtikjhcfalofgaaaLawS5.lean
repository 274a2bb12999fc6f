/-
  The walk of casematelaw14.StripeTwice.
-/
import Derived.Test.YtikjhcfalofgaaaStrT
import Derived.Deep.CutBlock
namespace Go.Proofs.Ytikjhcfalofgaaa
open Go.RowKit Go.Lib
set_option linter.unusedVariables false
set_option maxRecDepth 100000

set_option maxHeartbeats 4000000 in
theorem law_stripeTwice {w : World} {B C E : Option Addr} {m cb q cq p cp : Nat} {bB : List (List UInt8)} {ats : List Int} {bl : List (List UInt8)} (zones : Int) (hzones : InI zones) (data : Int) (hdata : InI data) (hB : Rs w B m cb bB) (hc : Is w C q cq ats) (hb : Rs w E p cp bl) (stamp : Int) (hstamp : InI stamp) :
    Calls Try.prog 6 #[.int .i64 zones, .int .i64 data, .slice B m cb, .slice C q cq, .slice E p cp, .int .i64 stamp] w fun e w' => e = .returned (.bool true) ∧ Below w.heap.size w w' := by
  have hsome := some_any zones data 1 0 0 hzones hdata ⟨by omega, by omega⟩ ⟨by omega, by omega⟩ ⟨by omega, by omega⟩ w
  obtain ⟨G, hGe⟩ : ∃ G, G = someG zones data 1 0 0 := ⟨_, rfl⟩
  have hG : GeoOk G := by rw [hGe]; exact someG_ok _ _ _ _ _
  rw [← hGe] at hsome
  clear hGe
  obtain ⟨gz, gd, gs, gl, ga⟩ := G
  obtain ⟨d, rfl⟩ : ∃ d : Nat, gd = (d : Int) := ⟨gd.toNat, by have := hG.2.1; dsimp only at this; omega⟩
  have hd4 : d ≤ 4 := by have := hG.2.1; dsimp only at this; omega
  obtain ⟨s, hse, hs⟩ := um_is stamp 100000 (by omega) (by omega)
  have hse' : wrap64 ((IntKind.u64.wrap stamp).tmod 100000) = (s : Int) := hse
  have hlc := hc.len
  have hlb := hb.len
  unfold Geo.v at hsome
  dsimp only at hsome
  have HSM := hide hsome
  have HG := hide hG
  have HLC := hide hlc
  have HLB := hide hlb
  clear hsome hG hse hlc hlb
  go_enter Try.func6, Try.ntmps6
  go_wp2_with fail
  refine HSM.out.mono ?_
  rintro e w1 ⟨rfl, hb1⟩
  obtain ⟨W2, hW2⟩ : ∃ W2, W2 = w1.alloc (.cells #[.int .i64 gz, .int .i64 d, .int .i64 gs, .int .i64 gl, .int .i64 ga] 23) := ⟨_, rfl⟩
  have hb2 : Below w1.heap.size w1 W2 := by rw [hW2]; exact alloc_below _ _
  have bx : ∀ W, Below W2.heap.size W2 W →
      W.cell? ⟨w1.heap.size, 0, none⟩ = some (.int .i64 gz) ∧ W.cell? ⟨w1.heap.size, 1, none⟩ = some (.int .i64 d) ∧ W.cell? ⟨w1.heap.size, 2, none⟩ = some (.int .i64 gs) ∧ W.cell? ⟨w1.heap.size, 3, none⟩ = some (.int .i64 gl) ∧ W.cell? ⟨w1.heap.size, 4, none⟩ = some (.int .i64 ga) := fun W hW => by
    subst hW2
    exact ⟨box_cell hW 0 _ rfl, box_cell hW 1 _ rfl, box_cell hW 2 _ rfl, box_cell hW 3 _ rfl, box_cell hW 4 _ rfl⟩
  have BX := hide bx
  have hw12 : w1.heap.size < W2.heap.size := by rw [hW2]; simp
  have hb12 := th hb1 hb2
  obtain ⟨p0, p1, p2, p3, p4⟩ := bx _ (Below.refl _ _)
  rw [hW2] at p0 p1 p2 p3 p4
  clear bx
  by_cases k1 : (10 : Int) < (m : Int)
  · have k1' : decide (10 < m) = true := by simp; omega
    go_wp2_with fail
    go_ret
    exact ⟨rfl, by rw [← hW2]; exact hb12⟩
  by_cases k2 : (10 : Int) < (p : Int)
  · have k2' : decide (10 < p) = true := by simp; omega
    have k1' : decide (10 < m) = false := by simp; omega
    go_wp2_with fail
    go_ret
    exact ⟨rfl, by rw [← hW2]; exact hb12⟩
  have k1' : decide (10 < m) = false := by simp; omega
  have k2' : decide (10 < p) = false := by simp; omega
  have hra := rats_any (d : Int) (by omega) C q cq ats W2 (hc.on intR_fine hb12)
  obtain ⟨RB, hRB⟩ : ∃ RB, RB = decide (AtsOk (d : Int) ats) := ⟨_, rfl⟩
  rw [← hRB] at hra
  have HRA := hide hra
  clear hra
  cases RB with
  | false =>
    rw [hW2] at HRA
    clear hRB
    go_wp2_with fail
    refine HRA.out.mono ?_
    rintro e w3 ⟨rfl, hb3⟩
    rw [← hW2] at hb3
    clear p0 p1 p2 p3 p4
    go_wp2_with fail
    go_ret
    exact ⟨rfl, th hb12 hb3⟩
  | true =>
    have HA := hide (of_decide_eq_true hRB.symm)
    have hqd := ats_len HA.out
    rw [HLC.out] at hqd
    rw [hW2] at HRA
    clear hRB
    go_wp2_with fail
    refine HRA.out.mono ?_
    rintro e w3 ⟨rfl, hb3⟩
    rw [← hW2] at hb3
    have hb03 := th hb12 hb3
    clear p0 p1 p2 p3 p4 hW2 HRA
    by_cases hpq : p = q
    case neg =>
      have e1 : ((p : Int) != (q : Int)) = true := by simp; omega
      have e2 : (p != q) = true := by simp; omega
      have e3 : (p == q) = false := by simp; omega
      clear hpq
      go_wp2_with fail
      go_ret
      exact ⟨rfl, hb03⟩
    case pos =>
      subst hpq
      have hbr := bright_any E p cp bl w3 (hb.on bytesR_fine hb03) (by omega)
      obtain ⟨BB, hBB⟩ : ∃ BB, BB = decide (∀ x ∈ bl, Blk8 x) := ⟨_, rfl⟩
      rw [← hBB] at hbr
      have HBR := hide hbr
      clear hbr
      cases BB with
      | false =>
        clear hBB
        go_wp2_with fail
        refine HBR.out.mono ?_
        rintro e wY ⟨rfl, rfl⟩
        go_wp2_with fail
        go_ret
        exact ⟨rfl, hb03⟩
      | true =>
        have H8 : Hid (∀ x ∈ bl, x.length = 8) := hide (of_decide_eq_true hBB.symm)
        clear hBB
        go_wp2_with fail
        refine HBR.out.mono ?_
        rintro e wY ⟨rfl, rfl⟩
        obtain ⟨p0, p1, p2, p3, p4⟩ := BX.out _ hb3
        go_wp2_with fail
        have hfu := full_any ⟨gz, d, gs, gl, ga⟩ d rfl hd4 (0 : Int) (show InI (0 : Int) from ⟨by omega, by omega⟩) (hB.on bytesR_fine hb03) (D := none) (nl := 0) (cl := 0) (F := []) (Sl.nil_ _)
        unfold Geo.v at hfu
        dsimp only at hfu
        have HFU := hide hfu
        clear hfu p0 p1 p2 p3 p4
        refine HFU.out.mono ?_
        rintro e w4 ⟨hb4, A, c, X4, c4, rfl, ht4, ho4⟩
        obtain ⟨L, hL⟩ : ∃ L, L = fullT 0 (fullB d bB []) := ⟨_, rfl⟩
        obtain ⟨H, hH⟩ : ∃ H, H = fullH (fullB d bB []) := ⟨_, rfl⟩
        obtain ⟨Bd, hBd⟩ : ∃ Bd, Bd = blkAt bB := ⟨_, rfl⟩
        have hZ : ZInv d L H Bd := by rw [hL, hH, hBd]; exact zinv_start ⟨by omega, by omega⟩ d bB
        have HZ := hide hZ
        rw [← hL] at ht4
        rw [← hH] at ho4
        obtain ⟨W5, hW5⟩ : ∃ W5, W5 = w4.alloc (.cells #[.slice A (d + 1) c] 26) := ⟨_, rfl⟩
        have hE5 : Below w4.heap.size w4 W5 := by rw [hW5]; exact alloc_below _ _
        have ha5 : Sl entR 3 W5 (Old W5) A (d + 1) c L := (ht4.move entR_fine (S' := Old w4) (fun _ _ => rfl) (fun q hq => hq.2.1)).on entR_fine hE5
        have hr5 := (ho4.read bytesR_fine).on bytesR_fine hE5
        have hb05 := th hb03 (th hb4 hE5)
        have hb25 := th hb3 (th hb4 hE5)
        have hx5 : ∀ W, Below W5.heap.size W5 W → W.cell? ⟨w4.heap.size, 0, none⟩ = some (.slice A (d + 1) c) := fun W hW => by
          subst hW5
          exact box_cell hW 0 _ rfl
        have HX5 := hide hx5
        have x5 := hx5 _ (Below.refl _ _)
        obtain ⟨p0, p1, p2, p3, p4⟩ := BX.out _ hb25
        rw [hW5] at p0 p1 p2 p3 p4 x5
        have hsn : NumOk (1 + (s : Int)) := ⟨by omega, by omega⟩
        have hwr := write_ok (g := ⟨gz, d, gs, gl, ga⟩) (d := d) HG.out rfl (1 + (s : Int)) ha5 hr5 (hc.on intR_fine hb05) (hb.on bytesR_fine hb05) hZ.tabok hZ.hadok HA.out (by rw [HLB.out, HLC.out]) H8.out hsn
        unfold Geo.v at hwr
        dsimp only at hwr
        have hU : ∀ j, j < d + 1 → ∃ s', NumOk s' ∧ (wrT L H ats bl (1 + (s : Int)) d)[j]? = some ⟨s', crc (rowF d (updF Bd ats bl) j), false⟩ := fun j hj => hZ.wr H8.out hsn hj
        have hP : parN L H ats bl d = rowF d (updF Bd ats bl) d := by rw [hZ.par H8.out]; unfold rowF; rw [if_neg (by omega)]
        have HWR := hide hwr
        have HU := hide hU
        have HP := hide hP
        clear hwr hU hP hZ hL hH hBd hx5 ht4 ho4
        go_wp2_with fail
        rw [← hW5]
        clear p0 p1 p2 p3 p4 x5 hW5
        refine HWR.out.mono ?_
        rintro e w6 ⟨V, cV, P6, cP, rfl, hs6, hp6, hb6⟩
        rw [HP.out] at hp6
        obtain ⟨U, hUe⟩ : ∃ U, U = wrT L H ats bl (1 + (s : Int)) d := ⟨_, rfl⟩
        rw [← hUe] at hs6 HU
        clear HWR HP hUe HFU
        obtain ⟨W7, hW7⟩ : ∃ W7, W7 = w6.alloc (.cells #[.slice V (d + 1) cV] 26) := ⟨_, rfl⟩
        have hE7 : Below w6.heap.size w6 W7 := by rw [hW7]; exact alloc_below _ _
        have hb57 := th hb6 hE7
        have hb07 := th hb05 hb57
        have hb27 := th hb25 hb57
        have hs7 := (hs6.old_ entR_fine).on entR_fine hE7
        have hp7 := (hp6.old_ byteR_fine).on byteR_fine hE7
        have hx7 : ∀ W, Below W7.heap.size W7 W → W.cell? ⟨w6.heap.size, 0, none⟩ = some (.slice V (d + 1) cV) ∧ W.cell? ⟨w4.heap.size, 0, none⟩ = some (.slice A (d + 1) c) := fun W hW => by
          refine ⟨?_, HX5.out W (th hb57 hW)⟩
          subst hW7
          exact box_cell hW 0 _ rfl
        have HX7 := hide hx7
        have htr : ∀ W, Below W7.heap.size W7 W → Calls Try.prog 10 #[.slice X4 (d + 1) c4] W fun e w' => ∃ A' c', e = .returned (.slice A' (d + 1) c') ∧ Ow (slR byteR 1) 1 w' W.heap.size W.heap.size 29 (.slice A' (d + 1) c') (d + 1) H ∧ Below W.heap.size W w' := fun W hW =>
          twinrows_any X4 (d + 1) c4 H W (hr5.on bytesR_fine (th hb57 hW)) (by omega) (fun l hl => by rcases HZ.out.hadok.2 l hl with h | h <;> omega)
        have HTR := hide htr
        have ht7 := ha5.on entR_fine hb57
        obtain ⟨y7, x7⟩ := hx7 _ (Below.refl _ _)
        obtain ⟨p0, p1, p2, p3, p4⟩ := BX.out _ hb27
        rw [hW7] at p0 p1 p2 p3 p4 x7 y7
        clear hx7 htr hs6 hp6
        go_upto_region 9 with fail
        rw [← hW7]
        clear p0 p1 p2 p3 p4 x7 y7 hW7
        have hcur := Below.refl W7.heap.size W7
        go_cut [19, 20] (fun v u wx => ∃ gx x5 N, v = .pointer (some ⟨N, 0, none⟩) ∧ u = .slice (some ⟨gx, 0, none⟩) (d + 1) x5 ∧ TwAt W7 d gx x5 N 29 L H A c wx)
        case first =>
          go_wp2_with fail
          go_region_held3 (fun W => W.cell? ⟨w4.heap.size, 0, none⟩ = some (.slice A (d + 1) c)) (first | with_reducible exact (HX7.out _ hcur).2 | with_reducible exact (HX7.out _ hcur.drew).2 | with_reducible exact (HX7.out _ (hcur.setCell (Nat.le_refl _) _)).2 | with_reducible exact (HX7.out _ (hcur.setCell (Nat.le_refl _) _).drew).2 | with_reducible exact (HX7.out _ (th hcur (alloc_below _ _))).2 | with_reducible exact (HX7.out _ (th hcur (alloc_below _ _).drew)).2 | with_reducible exact (HX7.out _ (th hcur ((alloc_below _ _).setCell (Nat.le_refl _) _))).2)
            (first
              | (go_at_call 10; refine Calls.mono (HTR.out (W7) (Below.refl W7.heap.size W7)) ?_; rintro e w8 ⟨X8, x8, rfl, ho8, hb8⟩; have hb78 : Below W7.heap.size W7 w8 := hb8; have hcur := hb78)
              | (go_at_call 10; refine Calls.mono (HTR.out (W7.drew) (Below.refl W7.heap.size W7).drew) ?_; rintro e w8 ⟨X8, x8, rfl, ho8, hb8⟩; have hb78 : Below W7.heap.size W7 w8 := th (Below.refl W7.heap.size W7).drew hb8; have hcur := hb78)
              | (go_at_call 10; refine Calls.mono (HTR.out (W7.alloc (.cells #[.slice none 0 0] 26)) (alloc_below W7 _)) ?_; rintro e w8 ⟨X8, x8, rfl, ho8, hb8⟩; have hbn : Below (W7.alloc (.cells #[.slice none 0 0] 26)).heap.size (W7.alloc (.cells #[.slice none 0 0] 26)) w8 := hb8; have hcur : Below W7.heap.size W7 w8 := th (alloc_below _ _) hbn; have hbc := box_cell hbn 0 _ rfl; have hbf := box_free hbn 0)
              | (go_at_call 10; refine Calls.mono (HTR.out ((W7.alloc (.cells #[.slice none 0 0] 26)).drew) (alloc_below W7 _).drew) ?_; rintro e w8 ⟨X8, x8, rfl, ho8, hb8⟩; have hbn : Below (W7.alloc (.cells #[.slice none 0 0] 26)).heap.size (W7.alloc (.cells #[.slice none 0 0] 26)) w8 := th (Below.refl _ (W7.alloc (.cells #[.slice none 0 0] 26))).drew hb8; have hcur : Below W7.heap.size W7 w8 := th (alloc_below _ _) hbn; have hbc := box_cell hbn 0 _ rfl; have hbf := box_free hbn 0)
              | (go_at_call 10; refine Calls.mono (HTR.out (W7.alloc (.cells #[.slice A (d + 1) c] 26)) (alloc_below W7 _)) ?_; rintro e w8 ⟨X8, x8, rfl, ho8, hb8⟩; have hbs : Below (W7.alloc (.cells #[.slice A (d + 1) c] 26)).heap.size (W7.alloc (.cells #[.slice A (d + 1) c] 26)) w8 := hb8; have hcur : Below W7.heap.size W7 w8 := th (alloc_below _ _) hbs; have hbc := box_cell hbs 0 _ rfl; have hbf := box_free hbs 0)
              | (go_at_call 10; refine Calls.mono (HTR.out ((W7.alloc (.cells #[.slice A (d + 1) c] 26)).drew) (alloc_below W7 _).drew) ?_; rintro e w8 ⟨X8, x8, rfl, ho8, hb8⟩; have hbs : Below (W7.alloc (.cells #[.slice A (d + 1) c] 26)).heap.size (W7.alloc (.cells #[.slice A (d + 1) c] 26)) w8 := th (Below.refl _ (W7.alloc (.cells #[.slice A (d + 1) c] 26))).drew hb8; have hcur : Below W7.heap.size W7 w8 := th (alloc_below _ _) hbs; have hbc := box_cell hbs 0 _ rfl; have hbf := box_free hbs 0))
          all_goals
            go_wp2_with fail
            go_meet
            first
              | (obtain ⟨gx, hgx, htw⟩ := tw_made (eT := 26) hb78 ho8 (Nat.le_refl _) ht7 (Below.refl _ _); exact ⟨gx, x8, _, rfl, by rw [hgx], htw⟩)
              | (obtain ⟨gx, hgx, htw⟩ := tw_made (eT := 26) hb78 ho8 (Nat.le_refl _) ht7 (Below.refl _ _).drew; exact ⟨gx, x8, _, rfl, by rw [hgx], htw⟩)
              | (obtain ⟨gx, hgx, htw⟩ := tw_before hbn ho8 (Nat.le_refl _) ht7 (Below.refl _ _); exact ⟨gx, x8, _, rfl, by rw [hgx], htw⟩)
              | (obtain ⟨gx, hgx, htw⟩ := tw_before hbn ho8 (Nat.le_refl _) ht7 (Below.refl _ _).drew; exact ⟨gx, x8, _, rfl, by rw [hgx], htw⟩)
              | (obtain ⟨gx, hgx, htw⟩ := tw_early hbs ho8 (Nat.le_refl _) ht7 (Below.refl _ _); exact ⟨gx, x8, _, rfl, by rw [hgx], htw⟩)
              | (obtain ⟨gx, hgx, htw⟩ := tw_early hbs ho8 (Nat.le_refl _) ht7 (Below.refl _ _).drew; exact ⟨gx, x8, _, rfl, by rw [hgx], htw⟩)
        case rest =>
          obtain ⟨gx, x5, N, rfl, rfl, htw⟩ := hcut
          obtain ⟨W9, hW9⟩ : ∃ W9, W9 = wc := ⟨_, rfl⟩
          subst hW9
          clear HTR hcur ht7
          go_wp2_with fail
          go_loopw [21] (fun i wr => ∃ k : Nat, ∃ L' H' A' c', k ≤ p ∧ i = .int .i64 k ∧ TwAt W7 d gx x5 N 29 L' H' A' c' wr ∧ Hid (ZInv d L' H' (updF Bd (ats.take k) (bl.take k)))) (fun i _ => p - (RowKit.intOf i).toNat)
          case atStart => exact ⟨0, L, H, A, c, Nat.zero_le _, rfl, htw, hide (by rw [upd_nil]; exact HZ.out)⟩
          case round =>
            obtain ⟨i, L', H', A', c', hi, rfl, htr, hzi⟩ := hrel
            have hb0r := th hb07 htr.bel
            have hb2r := th hb27 htr.bel
            obtain ⟨wo, rfl⟩ : ∃ wo : World, wo = wr := ⟨_, rfl⟩
            by_cases hlt : i < p
            · obtain ⟨ad, a, rfl, hadl, hai, haI, hac⟩ := at_int hc hlt
              obtain ⟨ed, x, A1, n1, c1, rfl, hedl, hxk, hxs, hxc⟩ := at_row hb hlt
              have hx8 := H8.out x (List.mem_of_getElem? hxk)
              obtain rfl : n1 = 8 := by have h1 := hxs.len; omega
              obtain ⟨hone, k, rfl, hkd⟩ := ats_one HA.out hai
              have hsi : NumOk (1 + (s : Int) + (i : Int)) := ⟨by omega, by omega⟩
              have hwr : ∀ W, Below wo.heap.size wo W → Calls Try.prog 11 #[.agg #[.int .i64 gz, .int .i64 d, .int .i64 gs, .int .i64 gl, .int .i64 ga], .agg #[.slice A' (d + 1) c'], .slice (some ⟨gx, 0, none⟩) (d + 1) x5, .slice (some (ad.add i)) 1 (cq - i), .slice (some (ed.add i)) 1 (cp - i), .int .i64 (1 + (s : Int) + (i : Int))] W fun e w' => ∃ V cv P cP, e = .returned (.tuple #[.agg #[.slice V (d + 1) cv], .slice P 8 cP, .int .i64 0]) ∧
                  Sl entR 3 w' (New W.heap.size w') V (d + 1) cv (wrT L' H' [(k : Int)] [x] (1 + (s : Int) + (i : Int)) d) ∧ Sl byteR 1 w' (New W.heap.size w') P 8 cP (parN L' H' [(k : Int)] [x] d) ∧ Below W.heap.size W w' := fun W hW =>
                write_ok (g := ⟨gz, d, gs, gl, ga⟩) (d := d) HG.out rfl (1 + (s : Int) + (i : Int)) (htr.on hW).ents (htr.on hW).rows (one_cut (hc.on intR_fine (th hb0r hW)) hlt hai) (one_cut (hb.on bytesR_fine (th hb0r hW)) hlt hxk) hzi.out.tabok hzi.out.hadok hone rfl (fun y hy => by simp at hy; rw [hy]; exact hx8) hsi
              have hs13 : ∀ W, Below wo.heap.size wo W → (W.cell? ⟨w1.heap.size, 0, none⟩ = some (.int .i64 gz) ∧ W.cell? ⟨w1.heap.size, 1, none⟩ = some (.int .i64 d) ∧ W.cell? ⟨w1.heap.size, 2, none⟩ = some (.int .i64 gs) ∧ W.cell? ⟨w1.heap.size, 3, none⟩ = some (.int .i64 gl) ∧ W.cell? ⟨w1.heap.size, 4, none⟩ = some (.int .i64 ga) ∧ W.cell? ⟨N, 0, none⟩ = some (.slice A' (d + 1) c')) := fun W hW => by
                obtain ⟨h0, h1, h2, h3, h4⟩ := BX.out W (th hb2r hW)
                exact ⟨h0, h1, h2, h3, h4, (htr.on hW).box⟩
              have hzn := hzi.out.step hx8 hkd hsi
              rw [upd_snoc HA.out (by rw [HLB.out, HLC.out]) hai hxk] at hzn
              have HZN := hide hzn
              have HWR := hide hwr
              have HS13 := hide hs13
              have hcp := (hc.cap : p ≤ cq)
              have hbp := (hb.cap : p ≤ cp)
              obtain ⟨j, hj⟩ : ∃ j : Nat, j = i + 1 := ⟨_, rfl⟩
              have C1 : IntKind.i64.wrap ((i : Int) + 1) = (j : Int) := (IntWalk.i64_in _ ⟨by omega, by omega⟩).trans (by omega)
              have C2 : IntKind.i64.wrap (1 + (s : Int) + (i : Int)) = 1 + (s : Int) + (i : Int) := IntWalk.i64_in _ ⟨by omega, by omega⟩
              have B1 : (0 : Int) ≤ (i : Int) := by omega
              have B2 : (j : Int) ≤ (cq : Int) := by omega
              have B3 : (j : Int) ≤ (cp : Int) := by omega
              have B4 : (i : Int) ≤ (j : Int) := by omega
              have B5 : i < cq := by omega
              have B6 : i < cp := by omega
              have B7 : ¬ cq = i := by omega
              have B8 : ¬ cp = i := by omega
              have B9 : j - i = 1 := by omega
              clear hj
              have hcur := Below.refl wo.heap.size wo
              clear hwr hs13 hzn hzi hai hxk hone
              go_upto_region 13 with fail
              go_cut [22, 23, 24] (fun b u f wx => ∃ N2 V2 cV2 P2 cP2, b = .pointer (some ⟨N2, 0, none⟩) ∧ u = .slice P2 8 cP2 ∧ f = .int .i64 0 ∧ wx.cell? ⟨N2, 0, none⟩ = some (.slice V2 (d + 1) cV2) ∧ wo.heap.size ≤ N2 ∧ N2 < wx.heap.size ∧ Sl entR 3 wx (New wo.heap.size wx) V2 (d + 1) cV2 (wrT L' H' [(k : Int)] [x] (1 + (s : Int) + (i : Int)) d) ∧ Sl byteR 1 wx (New wo.heap.size wx) P2 8 cP2 (parN L' H' [(k : Int)] [x] d) ∧ Below wo.heap.size wo wx)
              case first =>
                go_wp2_with fail
                go_region_held3 (fun W => W.cell? ⟨w1.heap.size, 0, none⟩ = some (.int .i64 gz) ∧ W.cell? ⟨w1.heap.size, 1, none⟩ = some (.int .i64 d) ∧ W.cell? ⟨w1.heap.size, 2, none⟩ = some (.int .i64 gs) ∧ W.cell? ⟨w1.heap.size, 3, none⟩ = some (.int .i64 gl) ∧ W.cell? ⟨w1.heap.size, 4, none⟩ = some (.int .i64 ga) ∧ W.cell? ⟨N, 0, none⟩ = some (.slice A' (d + 1) c')) (first | with_reducible exact HS13.out _ hcur | with_reducible exact HS13.out _ hcur.drew | with_reducible exact HS13.out _ (hcur.setCell (Nat.le_refl _) _) | with_reducible exact HS13.out _ (hcur.setCell (Nat.le_refl _) _).drew | with_reducible exact HS13.out _ (th hcur (alloc_below _ _)) | with_reducible exact HS13.out _ (th hcur (alloc_below _ _).drew) | with_reducible exact HS13.out _ (th hcur ((alloc_below _ _).setCell (Nat.le_refl _) _)))
                  (first
                    | (go_at_call 11; refine Calls.mono (HWR.out (wo) (Below.refl wo.heap.size wo)) ?_; rintro e w11 ⟨V2, cV2, P2, cP2, rfl, hs11, hp11, hb11⟩; have hba : Below wo.heap.size wo w11 := hb11; have hcur := hba)
                    | (go_at_call 11; refine Calls.mono (HWR.out (wo.drew) (Below.refl wo.heap.size wo).drew) ?_; rintro e w11 ⟨V2, cV2, P2, cP2, rfl, hs11, hp11, hb11⟩; have hba : Below wo.heap.size wo w11 := th (Below.refl wo.heap.size wo).drew hb11; have hcur := hba)
                    | (go_at_call 11; refine Calls.mono (HWR.out (wo.alloc (.cells #[.slice none 0 0] 26)) (alloc_below wo _)) ?_; rintro e w11 ⟨V2, cV2, P2, cP2, rfl, hs11, hp11, hb11⟩; have hbn : Below (wo.alloc (.cells #[.slice none 0 0] 26)).heap.size (wo.alloc (.cells #[.slice none 0 0] 26)) w11 := hb11; have hcur : Below wo.heap.size wo w11 := th (alloc_below _ _) hbn; have hbc := box_cell hbn 0 _ rfl; have hbf := box_free hbn 0)
                    | (go_at_call 11; refine Calls.mono (HWR.out ((wo.alloc (.cells #[.slice none 0 0] 26)).drew) (alloc_below wo _).drew) ?_; rintro e w11 ⟨V2, cV2, P2, cP2, rfl, hs11, hp11, hb11⟩; have hbn : Below (wo.alloc (.cells #[.slice none 0 0] 26)).heap.size (wo.alloc (.cells #[.slice none 0 0] 26)) w11 := th (Below.refl _ (wo.alloc (.cells #[.slice none 0 0] 26))).drew hb11; have hcur : Below wo.heap.size wo w11 := th (alloc_below _ _) hbn; have hbc := box_cell hbn 0 _ rfl; have hbf := box_free hbn 0))
                all_goals
                  go_wp2_with fail
                  go_meet
                  first
                    | exact ⟨_, V2, cV2, P2, cP2, rfl, rfl, rfl, wr_made (eT := 26) (Nat.le_refl _) hs11 hp11 hba (Below.refl _ _)⟩
                    | exact ⟨_, V2, cV2, P2, cP2, rfl, rfl, rfl, wr_made (eT := 26) (Nat.le_refl _) hs11 hp11 hba (Below.refl _ _).drew⟩
                    | exact ⟨_, V2, cV2, P2, cP2, rfl, rfl, rfl, wr_before hbn (Nat.le_refl _) hs11 hp11 (Below.refl _ _)⟩
                    | exact ⟨_, V2, cV2, P2, cP2, rfl, rfl, rfl, wr_before hbn (Nat.le_refl _) hs11 hp11 (Below.refl _ _).drew⟩
              case rest =>
                obtain ⟨N2, V2, cV2, P2, cP2, rfl, rfl, rfl, hN2, hlo2, hhi2, hs12, hp12, hb1x⟩ := hcut
                obtain ⟨wx, hwx⟩ : ∃ wx, wx = wc := ⟨_, rfl⟩
                subst hwx
                have htx := htr.on hb1x
                have hb0x := th hb0r hb1x
                have hb2x := th hb2r hb1x
                have z1 := hb07.size
                have z2 := hb27.size
                have z3 := htr.gl
                have z4 := htr.nl
                have hadl' : ad.block < w.heap.size := hadl
                have hedl' : ed.block < w.heap.size := hedl
                have cac : wx.cell? (ad.add i) = some (.int .i64 (k : Int)) := (hb0x.cell (by rw [block_of_add]; exact hadl)).trans hac
                have cxc : wx.cell? (ed.add i) = some (.slice A1 8 c1) := (hb0x.cell (by rw [block_of_add]; exact hedl)).trans hxc
                have cgd := (BX.out wx hb2x).2.1
                have hs16 : ∀ W' : World, (∀ b, b ≠ gx → b ≠ N → W'.heap[b]? = wx.heap[b]?) → (W'.cell? (ad.add i) = some (.int .i64 (k : Int)) ∧ W'.cell? ⟨w1.heap.size, 1, none⟩ = some (.int .i64 d) ∧ W'.cell? ⟨N2, 0, none⟩ = some (.slice V2 (d + 1) cV2) ∧ W'.cell? (ed.add i) = some (.slice A1 8 c1)) := fun W' hW' =>
                  ⟨(World.cell?_of_block (hW' _ (by rw [block_of_add]; omega) (by rw [block_of_add]; omega))).trans cac, (World.cell?_of_block (hW' _ (by show w1.heap.size ≠ gx; omega) (by show w1.heap.size ≠ N; omega))).trans cgd, (World.cell?_of_block (hW' _ (by show N2 ≠ gx; omega) (by show N2 ≠ N; omega))).trans hN2, (World.cell?_of_block (hW' _ (by rw [block_of_add]; omega) (by rw [block_of_add]; omega))).trans cxc⟩
                have ht2 : Sl entR 3 wx (Els2 gx N wx) V2 (d + 1) cV2 _ := hs12.move entR_fine (fun _ _ => rfl) (fun b hb' => ⟨hb'.2, by have := hb'.1; omega, by have := hb'.1; omega⟩)
                have hp2 : Sl byteR 1 wx (Els2 gx N wx) P2 8 cP2 _ := hp12.move byteR_fine (fun _ _ => rfl) (fun b hb' => ⟨hb'.2, by have := hb'.1; omega, by have := hb'.1; omega⟩)
                have hx2 : Sl byteR 1 wx (Els2 gx N wx) A1 8 c1 x := hxs.move byteR_fine (fun b hb' => hb0x.block b hb') (fun b hb' => by have h1 : b < w.heap.size := hb'; have h2 := hb0x.size; exact ⟨by omega, by omega, by omega⟩)
                have s1 := htx.box
                have f1 := htx.free
                have hy1 := htx.put_box ht2
                obtain ⟨u2, s2, f2⟩ := hy1.cell (show k < d + 1 by omega)
                have hy2 := hy1.put_row (show k < d + 1 by omega) (hx2.move byteR_fine (fun b hb => put_blk _ _ _ _ hb.2.2) (fun b hb => ⟨by rw [set_size]; exact hb.1, hb.2⟩))
                obtain ⟨u3, s3, f3⟩ := hy2.cell (show d < d + 1 by omega)
                have D1 : (0 : Int) ≤ (k : Int) := by omega
                have D2 : (k : Int) < (d : Int) + 1 := by omega
                have D3 : k < d + 1 := by omega
                have D4 : (d : Int) < (d : Int) + 1 := by omega
                have HS16 := hide hs16
                have HY := hide (fun Wf hf => tw_three (Wf := Wf) htx (show k < d + 1 by omega) ht2 hx2 hp2 hf)
                clear hs16 hy1 hy2 ht2 hp2 hx2 cac cxc cgd
                go_wp2_with fail
                go_region_held3 (fun W => W.cell? (ad.add i) = some (.int .i64 (k : Int)) ∧ W.cell? ⟨w1.heap.size, 1, none⟩ = some (.int .i64 d) ∧ W.cell? ⟨N2, 0, none⟩ = some (.slice V2 (d + 1) cV2) ∧ W.cell? (ed.add i) = some (.slice A1 8 c1)) (first | exact HS16.out _ (fun _ _ _ => rfl) | exact HS16.out _ (fun b h1 h2 => put_blk _ _ _ _ h2) | exact HS16.out _ (fun b h1 h2 => (put_blk _ _ _ _ h1).trans (put_blk _ _ _ _ h2)) | exact HS16.out _ (fun b h1 h2 => (put_blk _ _ _ _ h1).trans ((put_blk _ _ _ _ h1).trans (put_blk _ _ _ _ h2)))) (fail)
                all_goals
                  go_wp2_with fail
                  go_roundw
                  case rel => exact ⟨i + 1, _, _, V2, cV2, by omega, by go_num, (by first | exact HY.out _ (Below.refl _ _) | exact HY.out _ (Below.refl _ _).drew), HZN⟩
                  case measure => (first | omega | (simp [RowKit.intOf]; omega) | (unfold RowKit.intOf; simp; omega) | go_num)
            · obtain rfl : i = p := by omega
              have hzf := hzi.out
              rw [List.take_of_length_le (by rw [HLC.out]; exact Nat.le_refl _), List.take_of_length_le (by rw [HLB.out]; exact Nat.le_refl _)] at hzf
              have HZF := hide hzf
              obtain ⟨xd, y, A2, n2, c2, hxd, _, hyk, hys, hyc⟩ := at_row htr.rows (show d < d + 1 by omega)
              injection hxd with hxd
              subst hxd
              rw [hzf.had d (by omega)] at hyk
              injection hyk with hyk
              subst hyk
              have hsm := bytes_same _ (hp7.on byteR_fine htr.bel) hys (by omega)
              have cgd := (BX.out wo hb2r).2.1
              have x16 := (HX7.out wo htr.bel).1
              have x19 := htr.box
              have HSAME := hide hsm
              rw [show (⟨gx, 0, none⟩ : Addr).add d = ⟨gx, d, none⟩ from by simp [Addr.add_lit]] at hyc
              have D4 : (d : Int) < (d : Int) + 1 := by omega
              clear hsm hzf hys hzi
              go_wp2_with fail
              refine HSAME.out.mono ?_
              rintro e wB ⟨rfl, hbB⟩
              have htB := htr.on hbB
              have hb7B := th htr.bel hbB
              have x16 := (HX7.out wB hb7B).1
              have x19 := htB.box
              go_wp2_with fail
              go_loopw [25] (fun v wr => ∃ k : Nat, k ≤ d + 1 ∧ v = .int .i64 k ∧ Below wB.heap.size wB wr) (fun v _ => d + 1 - (RowKit.intOf v).toNat)
              case atStart => exact ⟨0, Nat.zero_le _, rfl, Below.refl _ _⟩
              case round =>
                obtain ⟨k, hk, rfl, hbr⟩ := hrel
                have hb7r := th hb7B hbr
                have x16 := (HX7.out wr hb7r).1
                have htz := htB.on hbr
                have x19 := htz.box
                by_cases hlk : k < d + 1
                · obtain ⟨vd, e1, rfl, _, he1, _, _, _, v1, v2⟩ := at_ent (hs7.on entR_fine hb7r) hlk
                  obtain ⟨ud, e2, rfl, _, he2, _, _, _, u1, u2⟩ := at_ent htz.ents hlk
                  obtain ⟨t1, _, h1⟩ := HU.out k hlk
                  obtain ⟨t2, _, h2⟩ := HZF.out.tab k hlk
                  rw [h1] at he1
                  rw [h2] at he2
                  injection he1 with he1
                  injection he2 with he2
                  subst he1
                  subst he2
                  dsimp only at v1 v2 u1 u2
                  clear h1 h2
                  go_wp2_with fail
                  go_quiet (fail)
                  go_wp2_with fail
                  go_roundw
                  case rel => exact ⟨k + 1, by omega, by go_num, th hbr (drewN_below _ _)⟩
                  case measure => (first | omega | (simp [RowKit.intOf]; omega) | (unfold RowKit.intOf; simp; omega) | go_num)
                · obtain rfl : k = d + 1 := by omega
                  go_wp2_with fail
                  refine (wakes14 _).mono ?_
                  rintro e w5 ⟨rfl, hb5⟩
                  go_wp2_with fail
                  go_ret
                  exact ⟨rfl, th hb07 (th hb7r hb5)⟩

end Go.Proofs.Ytikjhcfalofgaaa
