/-
  The walk of the law ZoneAsks.
-/
import Derived.Test.YtnieiobpbioeiaaZLaw
import Derived.Deep.DeepCutAuto
namespace Go.Proofs.Ytnieiobpbioeiaa
open Go.RowKit
set_option linter.unusedVariables false
set_option maxRecDepth 100000

/-- What was handed in, boxed: its cells. -/
theorem boxes_gt {w : World} (g : Geo) {A : Option Addr} {n c : Nat} (eg et : TypeId) : ∀ W, Below ((w.alloc (.cells #[.int .i64 g.zones, .int .i64 g.data, .int .i64 g.spares, .int .i64 g.slots, .int .i64 g.anchors] eg)).alloc (.cells #[.slice A n c] et)).heap.size ((w.alloc (.cells #[.int .i64 g.zones, .int .i64 g.data, .int .i64 g.spares, .int .i64 g.slots, .int .i64 g.anchors] eg)).alloc (.cells #[.slice A n c] et)) W →
    W.cell? ⟨w.heap.size, 0, none⟩ = some (.int .i64 g.zones) ∧ W.cell? ⟨w.heap.size, 1, none⟩ = some (.int .i64 g.data) ∧ W.cell? ⟨w.heap.size, 2, none⟩ = some (.int .i64 g.spares) ∧ W.cell? ⟨w.heap.size, 3, none⟩ = some (.int .i64 g.slots) ∧ W.cell? ⟨w.heap.size, 4, none⟩ = some (.int .i64 g.anchors) ∧ W.cell? ⟨w.heap.size + 1, 0, none⟩ = some (.slice A n c) ∧ Below w.heap.size w W := fun W hW =>
  have h := th (alloc_below _ _) hW
  ⟨box_cell h 0 _ rfl, box_cell h 1 _ rfl, box_cell h 2 _ rfl, box_cell h 3 _ rfl, box_cell h 4 _ rfl, bx_at (by simp) hW 0 _ rfl, th (alloc_below _ _) h⟩

/-- A block asked for, of what is right. -/
def BlkG (K : List UInt8) (nv : Nat) (err : Int) : Prop := (K = [] ∧ nv = 0 ∧ err = 13) ∨ (K.length = 8 ∧ nv = 8 ∧ err = 0)
theorem block_gen {A B : Option Addr} {n c m cb i : Nat} {L : List Ent} {H : List (List UInt8)} {g : Geo} {w : World} (ha : Sl entR 3 w (Old w) A n c L) (hh : Rs w B m cb H) (hn : n ≤ 65536) (hm : m ≤ 65536) (hg : GeoOk g) (hT : TabOk g.data L) (hH : HadOk g.data H) {k : Int} (hk0 : -1 ≤ k) (hk1 : k < g.data) (hi : (if k = -1 then g.data.toNat else k.toNat) = i) :
    Calls Try.prog 28 #[g.v, .agg #[.slice A n c], .slice B m cb, .int .i64 k] w fun e w' => ∃ V nv cv err, e = .returned (.tuple #[.slice V nv cv, .int .i64 err]) ∧ Bs w' V nv cv (knownL L H i) ∧ Below w.heap.size w w' ∧ BlkG (knownL L H i) nv err := by
  rcases known_len (L := L) hH i with h | h
  · have h0 := List.eq_nil_of_length_eq_zero h
    refine (block_none ha hh hn hm hg hT hH hk0 hk1 (by rw [hi]; exact h0)).mono ?_
    rintro e w' ⟨V, cv, rfl, hs, hb⟩
    exact ⟨V, 0, cv, 13, rfl, by rw [h0]; exact hs, hb, .inl ⟨h0, rfl, rfl⟩⟩
  · refine (block_known ha hh hn hm hg hT hH hk0 hk1 rfl (by rw [hi]; exact h)).mono ?_
    rintro e w' ⟨V, cv, rfl, hs, hb⟩
    rw [hi] at hs
    exact ⟨V, 8, cv, 0, rfl, hs, hb, .inr ⟨h, rfl, rfl⟩⟩

set_option maxHeartbeats 4000000 in
theorem zoneAsks_core {w : World} {A B : Option Addr} {n c m cb : Nat} {L : List Ent} {H : List (List UInt8)} (g : Geo) (ha : Sl entR 3 w (Old w) A n c L) (hh : Rs w B m cb H) (at_ : Int) (hat : InI at_) :
    Calls Try.prog 6 #[g.v, .agg #[.slice A n c], .slice B m cb, .int .i64 at_] w fun e w' => e = .returned (.bool true) ∧ Below w.heap.size w w' := by
  have hb0 : Below w.heap.size w ((w.alloc (.cells #[.int .i64 g.zones, .int .i64 g.data, .int .i64 g.spares, .int .i64 g.slots, .int .i64 g.anchors] 23)).alloc (.cells #[.slice A n c] 26)) := (alloc_below w _).alloc (by simp) _
  have BX := hide (boxes_gt (w := w) g (A := A) (n := n) (c := c) 23 26)
  have ha0 := ha.on entR_fine hb0
  have hh0 := hh.on bytesR_fine hb0
  have hve := heavy13 A B n c m cb L H _ ha0 hh0
  have HVE := hide hve
  have hgc := fun w => rgeo_any g w
  have HGC := hide hgc
  clear hve hgc
  unfold Geo.v
  unfold Geo.v at HGC
  obtain ⟨gz, gd, gs, gl, ga⟩ := g
  dsimp only at BX HGC ha0 hh0 HVE hb0 ⊢
  go_enter Try.func6, Try.ntmps6
  go_wp2_with fail
  refine HVE.out.mono ?_
  rintro e w1 ⟨hb1, b, rfl, hq⟩
  cases b with
  | true =>
    clear hq
    go_wp2_with fail
    go_ret
    exact ⟨rfl, th hb0 hb1⟩
  | false =>
    obtain ⟨hl1, hl2, hl3⟩ := hq rfl
    have HL3 := hide hl3
    have ha1 := ha0.on entR_fine hb1
    have hh1 := hh0.on bytesR_fine hb1
    have hnn := ha.len
    have hmm := hh.len
    have hn : n ≤ 20 := by omega
    have hm : m ≤ 20 := by omega
    clear hq hl1 hl2 hl3 hnn hmm
    obtain ⟨x0, x1, x2, x3, x4, xt, _⟩ := BX.out w1 hb1
    go_wp2_with fail
    refine (HGC.out _).mono ?_
    rintro e w2 ⟨rfl, hb2⟩
    by_cases hG : GeoOk ⟨gz, gd, gs, gl, ga⟩
    · rw [decide_eq_true hG]
      have hb12 := th hb1 hb2
      have ha2 := ha1.on entR_fine hb2
      have hh2 := hh1.on bytesR_fine hb2
      have hta := rtab_any A n c L ⟨gz, gd, gs, gl, ga⟩ hG _ ha2 (by omega)
      unfold Geo.v at hta
      dsimp only at hta
      have HTA := hide hta
      clear hta
      obtain ⟨y0, y1, y2, y3, y4, yt, _⟩ := BX.out w2 hb12
      go_wp2_with fail
      refine HTA.out.mono ?_
      rintro e w3 ⟨rfl, hb3⟩
      by_cases hT : TabOk gd L
      · rw [decide_eq_true hT]
        have hb13 := th hb12 hb3
        have ha3 := ha2.on entR_fine hb3
        have hh3 := hh2.on bytesR_fine hb3
        have hha := rhad_any B m cb H ⟨gz, gd, gs, gl, ga⟩ hG _ hh3 (by omega)
        unfold Geo.v at hha
        dsimp only at hha
        have HHA := hide hha
        clear hha
        obtain ⟨z0, z1, z2, z3, z4, zt, _⟩ := BX.out w3 hb13
        go_wp2_with fail
        refine HHA.out.mono ?_
        rintro e w4 ⟨rfl, hb4⟩
        by_cases hH : HadOk gd H
        · rw [decide_eq_true hH]
          have hb14 := th hb13 hb4
          have ha4 := ha3.on entR_fine hb4
          have hh4 := hh3.on bytesR_fine hb4
          obtain ⟨d, rfl⟩ : ∃ d : Nat, gd = (d : Int) := ⟨gd.toNat, by have := hG.2.1; dsimp only at this; omega⟩
          have hd4 : d ≤ 4 := by have := hG.2.1; dsimp only at this; omega
          have hal := all_good ha4 hh4 (by omega) (by omega) hG rfl hT hH
          unfold Geo.v at hal
          dsimp only at hal
          have HAL := hide hal
          have HG := hide hG
          have HT := hide hT
          have HH := hide hH
          clear hal hG hT hH
          obtain ⟨v0, v1, v2, v3, v4, vt, _⟩ := BX.out w4 hb14
          go_wp2_with fail
          refine HAL.out.mono ?_
          rintro e w5 ⟨V, cv, V', cv', rfl, hsl, hsk, hb5⟩
          have hb15 := th hb14 hb5
          obtain ⟨u0, t1, t2, t3, t4, tt, _⟩ := BX.out w5 hb15
          obtain ⟨k, he, hk⟩ := um_is at_ (d + 1) (by omega) (by omega)
          have he' : wrap64 ((IntKind.u64.wrap at_).tmod ((d : Int) + 1)) = (k : Int) := by rw [← he]; rfl
          obtain ⟨i, hid, hik⟩ : ∃ i : Nat, i < d + 1 ∧ (if (k : Int) - 1 = -1 then (d : Int).toNat else ((k : Int) - 1).toNat) = i := ⟨_, by split <;> omega, rfl⟩
          have hki : k = 0 ∧ i = d ∨ k = i + 1 := by split at hik <;> omega
          have ha5 := ha4.on entR_fine hb5
          have hh5 := hh4.on bytesR_fine hb5
          have hbl := block_gen ha5 hh5 (by omega) (by omega) HG.out HT.out HH.out (k := (k : Int) - 1) (by omega) (by show (k : Int) - 1 < (d : Int); omega) hik
          unfold Geo.v at hbl
          dsimp only at hbl
          obtain ⟨K0, hK0⟩ : ∃ K0, K0 = knownL L H i := ⟨_, rfl⟩
          rw [← hK0] at hbl
          have HBL := hide hbl
          have HKI := hide hki
          have HK0 := hide hK0
          clear hbl hki hik he hK0
          go_wp2_with fail
          refine HBL.out.mono ?_
          rintro e w6 ⟨V6, nv, cv6, err, rfl, hs6, hb6, hq⟩
          have HQ := hide hq
          have hb16 := th hb15 hb6
          obtain ⟨f0, f1, f2, f3, f4, ft, _⟩ := BX.out w6 hb16
          clear hq he'
          go_upto_if 84 with fail
          go_cut [14] (fun v wx => v = .int .i64 i ∧ wx = w6)
          case first =>
            rcases HKI.out with ⟨rfl, rfl⟩ | hk1
            · go_wp2_with fail
              go_meet
              exact ⟨rfl, rfl⟩
            · have e3 : ((k : Int) - 1 == -1) = false := by simp; omega
              have HK1 := hide hk1
              clear hk1
              go_wp2_with fail
              go_meet
              refine ⟨?_, rfl⟩
              have := HK1.out
              congr 1
              omega
          case rest =>
            obtain ⟨rfl, rfl⟩ := hcut
            obtain ⟨kd, kx, rfl, hkdl, hkx, hkc⟩ := at_bool (hsk.on boolR_fine hb6) hid
            obtain ⟨ld, lx, A2, n2, c2, rfl, hldl, hlx, hls, hlc⟩ := at_row (hsl.on bytesR_fine hb6) hid
            rw [List.getElem?_map, List.getElem?_range hid] at hkx hlx
            simp only [Option.map_some] at hkx hlx
            injection hkx with hkx
            injection hlx with hlx
            rw [← HK0.out] at hkx hlx
            subst hlx
            have hn2 := hls.len
            have ha6 := ha5.on entR_fine hb6
            have hh6 := hh5.on bytesR_fine hb6
            clear HBL
            rcases HQ.out with ⟨h0, rfl, rfl⟩ | ⟨h8, rfl, rfl⟩
            · rw [h0] at hkx hn2
              obtain rfl : kx = false := by rw [← hkx]; rfl
              obtain rfl : n2 = 0 := by simpa using hn2.symm
              have hb1 := block_arg ha6 hh6 (by omega) (by omega) HG.out HT.out HH.out (k := (d : Int)) (by show ¬ (-1 ≤ (d : Int) ∧ (d : Int) < (d : Int)); omega)
              unfold Geo.v at hb1
              dsimp only at hb1
              have HB1 := hide hb1
              clear hb1 hkx hn2 h0
              go_wp2_with fail
              refine HB1.out.mono ?_
              rintro e w7 ⟨V7, cv7, rfl, hs7, hb7⟩
              have ha7 := ha6.on entR_fine hb7
              have hh7 := hh6.on bytesR_fine hb7
              have hb2 := block_arg ha7 hh7 (by omega) (by omega) HG.out HT.out HH.out (k := -2) (by omega)
              unfold Geo.v at hb2
              dsimp only at hb2
              have HB2 := hide hb2
              have hb17 := th hb16 hb7
              obtain ⟨g0, g1, g2, g3, g4, gt, _⟩ := BX.out w7 hb17
              clear hb2
              go_wp2_with fail
              refine HB2.out.mono ?_
              rintro e w8 ⟨V8, cv8, rfl, hs8, hb8⟩
              go_wp2_with fail
              refine (wakes13 _).mono ?_
              rintro e w9 ⟨rfl, hb9⟩
              go_wp2_with fail
              go_ret
              exact ⟨rfl, th hb0 (th hb17 (th hb8 hb9))⟩
            · have hne : knownL L H i ≠ [] := by rw [← HK0.out]; exact ne_nil8 h8
              rw [HK0.out] at hkx
              obtain rfl : kx = true := by rw [← hkx]; exact decide_eq_true hne
              obtain rfl : n2 = 8 := by omega
              have hby := bytes_same K0 hs6 hls (by omega)
              have HBY := hide hby
              clear hkx hn2 h8 hne hby
              go_wp2_with fail
              refine HBY.out.mono ?_
              rintro e w7 ⟨rfl, hb7⟩
              have ha7 := ha6.on entR_fine hb7
              have hh7 := hh6.on bytesR_fine hb7
              have hb1 := block_arg ha7 hh7 (by omega) (by omega) HG.out HT.out HH.out (k := (d : Int)) (by show ¬ (-1 ≤ (d : Int) ∧ (d : Int) < (d : Int)); omega)
              unfold Geo.v at hb1
              dsimp only at hb1
              have HB1 := hide hb1
              have hb17 := th hb16 hb7
              obtain ⟨g0, g1, g2, g3, g4, gt, _⟩ := BX.out w7 hb17
              have hkc7 := (hb7.cell (by rw [block_of_add]; exact hkdl)).trans hkc
              clear hb1
              go_wp2_with fail
              refine HB1.out.mono ?_
              rintro e w8 ⟨V8, cv8, rfl, hs8, hb8⟩
              have ha8 := ha7.on entR_fine hb8
              have hh8 := hh7.on bytesR_fine hb8
              have hb2 := block_arg ha8 hh8 (by omega) (by omega) HG.out HT.out HH.out (k := -2) (by omega)
              unfold Geo.v at hb2
              dsimp only at hb2
              have HB2 := hide hb2
              have hb18 := th hb17 hb8
              obtain ⟨i0, i1, i2, i3, i4, it, _⟩ := BX.out w8 hb18
              clear hb2
              go_wp2_with fail
              refine HB2.out.mono ?_
              rintro e w9 ⟨V9, cv9, rfl, hs9, hb9⟩
              go_wp2_with fail
              refine (wakes13 _).mono ?_
              rintro e w10 ⟨rfl, hb10⟩
              go_wp2_with fail
              go_ret
              exact ⟨rfl, th hb0 (th hb18 (th hb9 hb10))⟩
        · rw [decide_eq_false hH]
          clear hH hT hG
          go_wp2_with fail
          go_ret
          exact ⟨rfl, th hb0 (th hb13 hb4)⟩
      · rw [decide_eq_false hT]
        clear hT hG
        go_wp2_with fail
        go_ret
        exact ⟨rfl, th hb0 (th hb12 hb3)⟩
    · rw [decide_eq_false hG]
      clear hG
      go_wp2_with fail
      go_ret
      exact ⟨rfl, th hb0 (th hb1 hb2)⟩

theorem law_zoneAsks {w : World} {V0 V1 : Value} {B : Option Addr} {m cb : Nat} {g : Geo} {L : List Ent} {H : List (List UInt8)} (hg : ArgR geoR w V0 g) (ht : ArgR tabR w V1 L) (hh : Rs w B m cb H) (at_ : Int) (hat : InI at_) :
    Calls Try.prog 6 #[V0, V1, .slice B m cb, .int .i64 at_] w fun e w' => e = .returned (.bool true) ∧ Below w.heap.size w w' := by
  obtain ⟨rfl, _⟩ := geo_form hg
  obtain ⟨A, n, c, rfl, ha⟩ := tab_form ht
  exact zoneAsks_core g ha hh at_ hat

end Go.Proofs.Ytnieiobpbioeiaa
