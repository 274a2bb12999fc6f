/-
  The walk of the law ZoneSums.
-/
import Derived.Test.YtnieiobpbioeiaaLawZ1
namespace Go.Proofs.Ytnieiobpbioeiaa
open Go.RowKit
set_option linter.unusedVariables false
set_option maxRecDepth 100000

set_option maxHeartbeats 4000000 in
theorem zoneSums_core {w : World} {A B : Option Addr} {n c m cb : Nat} {L : List Ent} {H : List (List UInt8)} (data : Int) (hdata : InI data) (ha : Sl entR 3 w (Old w) A n c L) (hh : Rs w B m cb H) :
    Calls Try.prog 8 #[.int .i64 data, .agg #[.slice A n c], .slice B m cb] w fun e w' => e = .returned (.bool true) ∧ Below w.heap.size w w' := by
  have hb0 := alloc_below w (.cells #[.slice A n c] 26)
  have ha0 := ha.on entR_fine hb0
  have hh0 := hh.on bytesR_fine hb0
  have hsome := some_any 0 data 0 0 0 ⟨by omega, by omega⟩ hdata ⟨by omega, by omega⟩ ⟨by omega, by omega⟩ ⟨by omega, by omega⟩ (w.alloc (.cells #[.slice A n c] 26))
  obtain ⟨G, hGe⟩ : ∃ G, G = someG 0 data 0 0 0 := ⟨_, rfl⟩
  have hG : GeoOk G := by rw [hGe]; exact someG_ok _ _ _ _ _
  rw [← hGe] at hsome
  clear hGe
  obtain ⟨gz, gd, gs, gl, ga⟩ := G
  obtain ⟨d, rfl⟩ : ∃ d : Nat, gd = (d : Int) := ⟨gd.toNat, by have := hG.2.1; dsimp only at this; omega⟩
  have hd4 : d ≤ 4 := by have := hG.2.1; dsimp only at this; omega
  unfold Geo.v at hsome
  dsimp only at hsome
  have HSM := hide hsome
  have HG := hide hG
  clear hsome hG
  go_enter Try.func8, Try.ntmps8
  go_wp2_with fail
  refine HSM.out.mono ?_
  rintro e w1 ⟨rfl, hb1⟩
  have hb2 := alloc_below w1 (.cells #[.int .i64 gz, .int .i64 d, .int .i64 gs, .int .i64 gl, .int .i64 ga] 23)
  have bx : ∀ W, Below (w1.alloc (.cells #[.int .i64 gz, .int .i64 d, .int .i64 gs, .int .i64 gl, .int .i64 ga] 23)).heap.size (w1.alloc (.cells #[.int .i64 gz, .int .i64 d, .int .i64 gs, .int .i64 gl, .int .i64 ga] 23)) W →
      W.cell? ⟨w1.heap.size, 0, none⟩ = some (.int .i64 gz) ∧ W.cell? ⟨w1.heap.size, 1, none⟩ = some (.int .i64 d) ∧ W.cell? ⟨w1.heap.size, 2, none⟩ = some (.int .i64 gs) ∧ W.cell? ⟨w1.heap.size, 3, none⟩ = some (.int .i64 gl) ∧ W.cell? ⟨w1.heap.size, 4, none⟩ = some (.int .i64 ga) ∧ W.cell? ⟨w.heap.size, 0, none⟩ = some (.slice A n c) ∧ Below w.heap.size w W := fun W hW =>
    ⟨box_cell hW 0 _ rfl, box_cell hW 1 _ rfl, box_cell hW 2 _ rfl, box_cell hW 3 _ rfl, box_cell hW 4 _ rfl, box_cell (th hb1 (th hb2 hW)) 0 _ rfl, th hb0 (th hb1 (th hb2 hW))⟩
  have BX := hide bx
  have ha2 := ha0.on entR_fine (th hb1 hb2)
  have hh2 := hh0.on bytesR_fine (th hb1 hb2)
  have hve := heavy13 A B n c m cb L H _ ha2 hh2
  have HVE := hide hve
  obtain ⟨p0, p1, p2, p3, p4, pt, _⟩ := BX.out _ (Below.refl _ _)
  clear bx hve
  go_wp2_with fail
  refine HVE.out.mono ?_
  rintro e w3 ⟨hb3, b, rfl, hq⟩
  cases b with
  | true =>
    clear hq
    go_wp2_with fail
    go_ret
    exact ⟨rfl, (BX.out _ hb3).2.2.2.2.2.2⟩
  | false =>
    obtain ⟨hl1, hl2, hl3⟩ := hq rfl
    have HL3 := hide hl3
    have ha3 := ha2.on entR_fine hb3
    have hh3 := hh2.on bytesR_fine hb3
    have hnn := ha.len
    have hmm := hh.len
    have hn : n ≤ 20 := by omega
    have hm : m ≤ 20 := by omega
    clear hq hl1 hl2 hl3 hnn hmm
    obtain ⟨x0, x1, x2, x3, x4, xt, _⟩ := BX.out w3 hb3
    have hta := rtab_any A n c L ⟨gz, d, gs, gl, ga⟩ HG.out _ ha3 (by omega)
    unfold Geo.v at hta
    dsimp only at hta
    have HTA := hide hta
    clear hta
    go_wp2_with fail
    refine HTA.out.mono ?_
    rintro e w4 ⟨rfl, hb4⟩
    have hb24 := th hb3 hb4
    by_cases hT : TabOk (d : Int) L
    · rw [decide_eq_true hT]
      have ha4 := ha3.on entR_fine hb4
      have hh4 := hh3.on bytesR_fine hb4
      have hha := rhad_any B m cb H ⟨gz, d, gs, gl, ga⟩ HG.out _ hh4 (by omega)
      unfold Geo.v at hha
      dsimp only at hha
      have HHA := hide hha
      have HT := hide hT
      clear hha hT
      obtain ⟨y0, y1, y2, y3, y4, yt, _⟩ := BX.out w4 hb24
      go_wp2_with fail
      refine HHA.out.mono ?_
      rintro e w5 ⟨rfl, hb5⟩
      have hb25 := th hb24 hb5
      by_cases hH : HadOk (d : Int) H
      · rw [decide_eq_true hH]
        have ha5 := ha4.on entR_fine hb5
        have hh5 := hh4.on bytesR_fine hb5
        have hal := all_good (g := ⟨gz, d, gs, gl, ga⟩) ha5 hh5 (by omega) (by omega) HG.out rfl HT.out hH
        unfold Geo.v at hal
        dsimp only at hal
        have HAL := hide hal
        have HH := hide hH
        clear hal hH
        obtain ⟨z0, z1, z2, z3, z4, zt, _⟩ := BX.out w5 hb25
        go_wp2_with fail
        refine HAL.out.mono ?_
        rintro e w6 ⟨V, cv, V', cv', rfl, hsl, hsk, hb6⟩
        have hb26 := th hb25 hb6
        obtain ⟨v0, v1, v2, v3, v4, vt, _⟩ := BX.out w6 hb26
        have ha6 := ha5.on entR_fine hb6
        have hh6 := hh5.on bytesR_fine hb6
        clear HAL
        go_wp2_with fail
        go_loopw [11] (fun i wr => ∃ k : Nat, k ≤ d + 1 ∧ i = .int .i64 k ∧ Below w6.heap.size w6 wr) (fun i _ => d + 1 - (intOf i).toNat)
        case atStart => exact ⟨0, by omega, rfl, Below.refl _ _⟩
        case round =>
          obtain ⟨k, hk, rfl, hb⟩ := hrel
          have hb27 := th hb26 hb
          obtain ⟨f0, f1, f2, f3, f4, ft, _⟩ := BX.out wr hb27
          by_cases hlt : k < d + 1
          · have har := ha6.on entR_fine hb
            have hhr := hh6.on bytesR_fine hb
            have hkn : k < n := by have h1 := HT.out.1; have h2 := ha.len; omega
            have hkm : k < m := by have h1 := HH.out.1; have h2 := hh.len; omega
            obtain ⟨ad, e, rfl, hadl, he, _, _, ec0, ec1, ec2⟩ := at_ent har hkn
            obtain ⟨bd, h, B1, n1, cb1, rfl, hbdl, hhx, hs, hcell⟩ := at_row hhr hkm
            obtain ⟨kd, kx, rfl, hkdl, hkx, hkc⟩ := at_bool (hsk.on boolR_fine hb) hlt
            obtain ⟨ld, lx, A2, n2, c2, rfl, hldl, hlx, hls, hlc⟩ := at_row (hsl.on bytesR_fine hb) hlt
            rw [List.getElem?_map, List.getElem?_range hlt] at hkx hlx
            simp only [Option.map_some] at hkx hlx
            injection hkx with hkx
            injection hlx with hlx
            have hn1 := hs.len
            have hn2 := hls.len
            rcases known_cases HH.out he hhx with ⟨h0, hlo⟩ | ⟨h0, hel, hne, hkh⟩ | ⟨h0, hel, hne, h8, hsum⟩
            · rw [h0] at hkx hlx
              subst hlx
              obtain rfl : kx = false := by rw [← hkx]; rfl
              obtain rfl : n2 = 0 := by simpa using hn2.symm
              cases hel : e.lost with
              | true =>
                rw [hel] at ec2
                clear hkx hn1 hn2 hlo h0 hel he hhx
                go_wp2_with fail
                go_roundw
                case rel => exact ⟨k + 1, by omega, by go_num, hb⟩
                case measure => simp [intOf]; omega
              | false =>
                rw [hel] at ec2 hlo
                have h00 : h = [] := by simpa using hlo
                subst h00
                obtain rfl : n1 = 0 := by simpa using hn1.symm
                clear hkx hn1 hn2 hlo h0 hel he hhx
                go_wp2_with fail
                go_roundw
                case rel => exact ⟨k + 1, by omega, by go_num, hb⟩
                case measure => simp [intOf]; omega
            · obtain rfl : kx = true := by rw [← hkx]; exact decide_eq_true h0
              rw [hkh] at hlx
              subst hlx
              rw [hel] at ec2
              have hp : 0 < n1 := by rw [← hn1]; exact List.length_pos_iff.2 hne
              have hn18 : n2 ≤ 100 := by have := HL3.out h (List.mem_of_getElem? hhx); omega
              have hby : ∀ r, Calls Try.prog 37 #[.slice A2 n2 c2, .slice B1 n1 cb1] (wr.drewN r) fun e w' => e = .returned (.bool true) ∧ ∃ q, w' = (wr.drewN r).drewN q := fun r =>
                (bytes_any A2 B1 n2 c2 n1 cb1 h h (wr.drewN r) (hls.move byteR_fine (fun _ _ => rfl) (fun _ h => h)) (hs.move byteR_fine (fun _ _ => rfl) (fun _ h => h)) (by omega)).mono fun e w' ⟨he, q, hq⟩ => ⟨by simpa using he, q, hq⟩
              have HBY := hide hby
              clear hkx hn1 hn2 h0 hel he hhx hkh hne hby
              go_wp2_with fail
              go_quiet ((go_at_call 37; exact Calls.quiet_of (HBY.out _)))
              go_wp2_with fail
              go_roundw
              case rel => exact ⟨k + 1, by omega, by go_num, th hb (drewN_below _ _)⟩
              case measure => simp [intOf]; omega
            · obtain rfl : kx = true := by rw [← hkx]; exact decide_eq_true h0
              subst hne
              obtain rfl : n1 = 0 := by simpa using hn1.symm
              rw [hel] at ec2
              rw [hlx] at h8 hsum
              obtain rfl : n2 = 8 := by omega
              have hsm : ∀ r, Calls Try.prog 43 #[.slice A2 8 c2] (wr.drewN r) fun e w' => e = .returned (.int .i64 (crc lx)) ∧ w' = wr.drewN r := fun r =>
                (ref_sum (hls.move byteR_fine (w' := wr.drewN r) (S' := Old _) (fun _ _ => rfl) (fun _ h => h)) (by omega)).mono fun e w' ⟨h1, h2⟩ => ⟨h1, h2.symm⟩
              rw [← hsum] at ec1
              have HSM2 := hide hsm
              clear hkx hn1 hn2 h0 hel he hhx hlx h8 hsum hsm
              go_wp2_with fail
              go_quiet ((go_at_call 43; exact Calls.quiet_of_same (HSM2.out _)))
              go_wp2_with fail
              go_roundw
              case rel => exact ⟨k + 1, by omega, by go_num, th hb (drewN_below _ _)⟩
              case measure => simp [intOf]; omega
          · obtain rfl : k = d + 1 := by omega
            go_wp2_with fail
            refine (wakes13 _).mono ?_
            rintro e w8 ⟨rfl, hb8⟩
            go_wp2_with fail
            go_ret
            exact ⟨rfl, (BX.out _ (th hb27 hb8)).2.2.2.2.2.2⟩
      · rw [decide_eq_false hH]
        clear hH
        go_wp2_with fail
        go_ret
        exact ⟨rfl, (BX.out _ hb25).2.2.2.2.2.2⟩
    · rw [decide_eq_false hT]
      clear hT
      go_wp2_with fail
      go_ret
      exact ⟨rfl, (BX.out _ hb24).2.2.2.2.2.2⟩

theorem law_zoneSums {w : World} {V1 : Value} {B : Option Addr} {m cb : Nat} {L : List Ent} {H : List (List UInt8)} (data : Int) (hdata : InI data) (ht : ArgR tabR w V1 L) (hh : Rs w B m cb H) :
    Calls Try.prog 8 #[.int .i64 data, V1, .slice B m cb] w fun e w' => e = .returned (.bool true) ∧ Below w.heap.size w w' := by
  obtain ⟨A, n, c, rfl, ha⟩ := tab_form ht
  exact zoneSums_core data hdata ha hh

end Go.Proofs.Ytnieiobpbioeiaa
