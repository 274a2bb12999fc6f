/-
  The walk of the law ZoneOne.
-/
import Derived.Test.YtnieiobpbioeiaaLawZ1
import Derived.Test.YtnieiobpbioeiaaSpot
namespace Go.Proofs.Ytnieiobpbioeiaa
open Go.RowKit
set_option linter.unusedVariables false
set_option maxRecDepth 100000

theorem set_or {X : List (List UInt8)} {m : Nat} (j : Nat) (h : List UInt8) (hj : (X.set m [])[j]? = some h) : h = [] ∨ X[j]? = some h := by
  rw [List.getElem?_set] at hj
  split at hj
  · split at hj
    · injection hj with hj; exact .inl hj.symm
    · cases hj
  · exact .inr hj

set_option maxHeartbeats 4000000 in
theorem law_zoneOne {w : World} {C D : Option Addr} {nb cb nl cl : Nat} {B : List (List UInt8)} {F : List Bool} (zones : Int) (hzones : InI zones) (data : Int) (hdata : InI data) (hB : Rs w C nb cb B) (hF : Sl boolR 1 w (Old w) D nl cl F) (stamp : Int) (hstamp : InI stamp) (miss : Int) (hmiss : InI miss) :
    Calls Try.prog 4 #[.int .i64 zones, .int .i64 data, .slice C nb cb, .slice D nl cl, .int .i64 stamp, .int .i64 miss] w fun e w' => e = .returned (.bool true) ∧ Below w.heap.size w w' := by
  have hsome := some_any zones data 1 0 0 hzones hdata ⟨by omega, by omega⟩ ⟨by omega, by omega⟩ ⟨by omega, by omega⟩ w
  obtain ⟨G, hGe⟩ : ∃ G, G = someG zones data 1 0 0 := ⟨_, rfl⟩
  have hG : GeoOk G := by rw [hGe]; exact someG_ok _ _ _ _ _
  rw [← hGe] at hsome
  clear hGe
  obtain ⟨gz, gd, gs, gl, ga⟩ := G
  obtain ⟨d, rfl⟩ : ∃ d : Nat, gd = (d : Int) := ⟨gd.toNat, by have := hG.2.1; dsimp only at this; omega⟩
  have hd4 : d ≤ 4 := by have := hG.2.1; dsimp only at this; omega
  obtain ⟨s, hse, hs⟩ := um_is stamp 100000 (by omega) (by omega)
  have hse' : wrap64 ((IntKind.u64.wrap stamp).tmod 100000) = (s : Int) := hse
  obtain ⟨k0, hke, hk0⟩ := um_is miss (d + 1) (by omega) (by omega)
  have hke' : wrap64 ((IntKind.u64.wrap miss).tmod ((d : Int) + 1)) = (k0 : Int) := by rw [← hke]; rfl
  unfold Geo.v at hsome
  dsimp only at hsome
  have HSM := hide hsome
  have HG := hide hG
  clear hsome hG hse hke
  go_enter Try.func4, Try.ntmps4
  go_wp2_with fail
  refine HSM.out.mono ?_
  rintro e w1 ⟨rfl, hb1⟩
  have hb2 := alloc_below w1 (.cells #[.int .i64 gz, .int .i64 d, .int .i64 gs, .int .i64 gl, .int .i64 ga] 23)
  have bx : ∀ W, Below (w1.alloc (.cells #[.int .i64 gz, .int .i64 d, .int .i64 gs, .int .i64 gl, .int .i64 ga] 23)).heap.size (w1.alloc (.cells #[.int .i64 gz, .int .i64 d, .int .i64 gs, .int .i64 gl, .int .i64 ga] 23)) W →
      W.cell? ⟨w1.heap.size, 0, none⟩ = some (.int .i64 gz) ∧ W.cell? ⟨w1.heap.size, 1, none⟩ = some (.int .i64 d) ∧ W.cell? ⟨w1.heap.size, 2, none⟩ = some (.int .i64 gs) ∧ W.cell? ⟨w1.heap.size, 3, none⟩ = some (.int .i64 gl) ∧ W.cell? ⟨w1.heap.size, 4, none⟩ = some (.int .i64 ga) ∧ Below w.heap.size w W := fun W hW =>
    ⟨box_cell hW 0 _ rfl, box_cell hW 1 _ rfl, box_cell hW 2 _ rfl, box_cell hW 3 _ rfl, box_cell hW 4 _ rfl, th hb1 (th hb2 hW)⟩
  have BX := hide bx
  have hb12 := th hb1 hb2
  obtain ⟨p0, p1, p2, p3, p4, _⟩ := BX.out _ (Below.refl _ _)
  clear bx
  by_cases h1 : nb ≤ 10
  · by_cases h2 : nl ≤ 10
    · have hfu := fun r => full_any ⟨gz, d, gs, gl, ga⟩ d rfl hd4 (s : Int) (show InI (s : Int) from ⟨by omega, by omega⟩) ((hB.on bytesR_fine hb12).move bytesR_fine (w' := (w1.alloc (.cells #[.int .i64 gz, .int .i64 d, .int .i64 gs, .int .i64 gl, .int .i64 ga] 23)).drewN r) (S' := Old _) (fun _ _ => rfl) (fun _ h => h)) ((hF.on boolR_fine hb12).move boolR_fine (S' := Old _) (fun _ _ => rfl) (fun _ h => h))
      unfold Geo.v at hfu
      dsimp only at hfu
      have HFU := hide hfu
      clear hfu
      go_wp2_with fail
      go_quiet (fail)
      go_wp2_with fail
      refine (HFU.out _).mono ?_
      rintro e w3 ⟨hb3', A, c, E, c', rfl, ht3, ho3⟩
      have hb3 : Below (w1.alloc (.cells #[.int .i64 gz, .int .i64 d, .int .i64 gs, .int .i64 gl, .int .i64 ga] 23)).heap.size (w1.alloc (.cells #[.int .i64 gz, .int .i64 d, .int .i64 gs, .int .i64 gl, .int .i64 ga] 23)) w3 := th (drewN_below _ _) hb3'
      have hb4 := alloc_below w3 (.cells #[.slice A (d + 1) c] 26)
      obtain ⟨bs, hbs⟩ : ∃ bs, bs = fullB d B F := ⟨_, rfl⟩
      have hbl : bs.length = d := by rw [hbs]; exact fullB_len _ _ _
      have hb8 : ∀ x ∈ bs, x.1.length = 8 := by rw [hbs]; exact fullB_8 _ _ _
      rw [← hbs] at ht3 ho3
      have ha4 : Sl entR 3 (w3.alloc (.cells #[.slice A (d + 1) c] 26)) (Old (w3.alloc (.cells #[.slice A (d + 1) c] 26))) A (d + 1) c (fullT s bs) := (ht3.move entR_fine (S' := Old w3) (fun _ _ => rfl) (fun q hq => hq.2.1)).on entR_fine hb4
      have hr4 := (ho3.read bytesR_fine).on bytesR_fine hb4
      have kt : ∀ W, Below (w3.alloc (.cells #[.slice A (d + 1) c] 26)).heap.size (w3.alloc (.cells #[.slice A (d + 1) c] 26)) W → W.cell? ⟨w3.heap.size, 0, none⟩ = some (.slice A (d + 1) c) := fun W hW => box_cell hW 0 _ rfl
      have KT := hide kt
      have htr := twinrows_any E (d + 1) c' (fullH bs) _ hr4 (by omega) (fun l hl => by rcases fullH_mem hb8 hl with h | h <;> omega)
      have HTR := hide htr
      have hTT : TabOk (d : Int) (fullT s bs) := tab_full ⟨by omega, by omega⟩ hbl
      have hHH : HadOk (d : Int) ((fullH bs).set k0 []) := had_full hb8 hbl (by rw [List.length_set, fullH_len, hbl]) set_or
      have HT := hide hTT
      have HH := hide hHH
      have HB8 := hide hb8
      have HBL := hide hbl
      clear hbs kt htr hTT hHH hb8 hbl
      go_wp2_with fail
      refine HTR.out.mono ?_
      rintro e w5 ⟨X5, x5, rfl, ho5, hb5⟩
      obtain ⟨gx, A1, n1, c1, rfl, hgx, hgxl, xc, xf, ho6⟩ := spot_row ho5 (show k0 < d + 1 by omega)
      have hb46 : Below (w3.alloc (.cells #[.slice A (d + 1) c] 26)).heap.size (w3.alloc (.cells #[.slice A (d + 1) c] 26)) (w5.setCell ⟨gx, k0, none⟩ (.slice none 0 0)) := hb5.setCell hgx _
      have hb26 := th hb3 (th hb4 hb46)
      have ha6 := ha4.on entR_fine hb46
      have hr6 := hr4.on bytesR_fine hb46
      have hh6 := ho6.read bytesR_fine
      obtain ⟨q0, q1, q2, q3, q4, _⟩ := BX.out _ hb26
      have qt := KT.out _ hb46
      have hal := all_good ha6 hh6 (by omega) (by omega) HG.out rfl HT.out HH.out
      unfold Geo.v at hal
      dsimp only at hal
      have HAL := hide hal
      clear hal
      go_wp2_with fail
      refine HAL.out.mono ?_
      rintro e w7 ⟨V, cv, V', cv', rfl, hsl, hsk, hb7⟩
      have hb47 := th hb46 hb7
      have hb27 := th hb3 (th hb4 hb47)
      obtain ⟨v0, v1, v2, v3, v4, _⟩ := BX.out _ hb27
      clear HAL HTR HFU
      go_wp2_with fail
      go_loopw [20] (fun i wr => ∃ k : Nat, k ≤ d + 1 ∧ i = .int .i64 k ∧ Below w7.heap.size w7 wr) (fun i _ => d + 1 - (intOf i).toNat)
      case atStart => exact ⟨0, by omega, rfl, Below.refl _ _⟩
      case round =>
        obtain ⟨k, hk, rfl, hb⟩ := hrel
        have hb48 := th hb47 hb
        have hb28 := th hb3 (th hb4 hb48)
        obtain ⟨f0, f1, f2, f3, f4, _⟩ := BX.out wr hb28
        have ft := KT.out wr hb48
        by_cases hlt : k < d + 1
        · have har := ha6.on entR_fine (th hb7 hb)
          have hrr := hr6.on bytesR_fine (th hb7 hb)
          obtain ⟨ad, e, rfl, hadl, he, _, _, ec0, ec1, ec2⟩ := at_ent har hlt
          obtain ⟨bd, a, B1, n1, cb1, rfl, hbdl, hhx, hsa, hcell⟩ := at_row hrr hlt
          obtain ⟨kd, kx, rfl, hkdl, hkx, hkc⟩ := at_bool (hsk.on boolR_fine hb) hlt
          obtain ⟨ld, lx, A2, n2, c2, rfl, hldl, hlx, hls, hlc⟩ := at_row (hsl.on bytesR_fine hb) hlt
          rw [List.getElem?_map, List.getElem?_range hlt] at hkx hlx
          simp only [Option.map_some] at hkx hlx
          injection hkx with hkx
          injection hlx with hlx
          have hone := known_one (s := s) HB8.out HBL.out k0 hlt
          rw [hhx] at hone
          injection hone with hone
          rw [hone] at hkx hlx
          subst hlx
          have hfl := full_lost HB8.out he hhx
          have hm8 := fullH_mem HB8.out (List.mem_of_getElem? hhx)
          have hn1 := hsa.len
          have hn2 := hls.len
          cases hel : e.lost with
          | true =>
            obtain rfl : kx = false := by rw [← hkx]; exact decide_eq_false fun h => by rw [hfl.1 h] at hel; cases hel
            rw [hel] at ec2
            clear hkx hone hfl hm8 hn1 hn2 hel he hhx
            go_wp2_with fail
            go_quiet (fail)
            go_wp2_with fail
            go_roundw
            case rel => exact ⟨k + 1, by omega, by go_num, th hb (drewN_below _ _)⟩
            case measure => simp [intOf]; omega
          | false =>
            obtain rfl : kx = true := by rw [← hkx]; exact decide_eq_true (hfl.2 hel)
            rw [hel] at ec2
            have hby : ∀ r, Calls Try.prog 37 #[.slice A2 n2 c2, .slice B1 n1 cb1] (wr.drewN r) fun e w' => e = .returned (.bool true) ∧ ∃ q, w' = (wr.drewN r).drewN q := fun r =>
              (bytes_any A2 B1 n2 c2 n1 cb1 a a (wr.drewN r) (hls.move byteR_fine (fun _ _ => rfl) (fun _ h => h)) (hsa.move byteR_fine (fun _ _ => rfl) (fun _ h => h)) (by omega)).mono fun e w' ⟨he, q, hq⟩ => ⟨by simpa using he, q, hq⟩
            have HBY := hide hby
            clear hkx hone hfl hm8 hn1 hn2 hel he hhx hby
            go_wp2_with fail
            go_quiet ((go_at_call 37; exact Calls.quiet_of (HBY.out _)))
            go_wp2_with fail
            go_roundw
            case rel => exact ⟨k + 1, by omega, by go_num, th hb (drewN_below _ _)⟩
            case measure => simp [intOf]; omega
        · obtain rfl : k = d + 1 := by omega
          go_wp2_with fail
          refine (wakes13 _).mono ?_
          rintro e w8 ⟨rfl, hb8⟩
          go_wp2_with fail
          go_ret
          exact ⟨rfl, (BX.out _ (th hb28 hb8)).2.2.2.2.2⟩
    · go_wp2_with fail
      go_ret
      exact ⟨rfl, hb12⟩
  · go_wp2_with fail
    go_ret
    exact ⟨rfl, hb12⟩

end Go.Proofs.Ytnieiobpbioeiaa
