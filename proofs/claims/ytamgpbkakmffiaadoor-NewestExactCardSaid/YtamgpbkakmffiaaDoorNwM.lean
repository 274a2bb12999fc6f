/-
  The walk of casematelaw09.NewestExact: the rest of the leaves, joined.
-/
import Derived.Test.YtamgpbkakmffiaaDoorNwK
namespace Go.Proofs.YtamgpbkakmffiaaDoor
open Go.RowKit Go.Lib
set_option linter.unusedVariables false
set_option maxRecDepth 100000

set_option maxHeartbeats 16000000 in
theorem ne_0len1 {w : World} (hT : Tabs w) (g : Geo) (a : Anc) (x : Gt) (A B D : Option Addr) (n c nb cb na ca : Nat) (L : List Gt) (addr i : Int) (hl : Sl gotR 2 w (Old w) A n c L) (hxe : InI x.err) (hx : Bs w B nb cb x.bytes) (ha : Sl homR 3 w (Old w) D na ca a.homes) (hin : a.In) (hi : InI i) (HH1 : heavyG L = false) (HH2 : nb ≤ 300) (HH3 : heavyA a = false) (hg : GeoOk g) (had : ¬ (0 ≤ addr ∧ addr ≤ 65535)) (hln : (n : Int) ≠ g.anchors) (hck : AncOk g a ∧ 0 ≤ i ∧ i ≤ g.anchors - 1) :
    Calls Tryd.prog 12 #[g.v, .slice A n c, .agg #[.int .i64 x.err, .slice B nb cb], .int .i64 addr, a.v (.slice D na ca), .int .i64 i] w fun e w' => e = .returned (.bool true) ∧ Below w.heap.size w w' := by
  have HHV := hide fun w h => heavyg_any A n c L w h
  have HHX := hide fun N (w : World) (h : Sl gotR 2 w (Old w) (some ⟨N, 0, none⟩) 1 1 [x]) => heavyg_any (some ⟨N, 0, none⟩) 1 1 [x] w h
  have hxl := hx.len
  rw [heavyG_ok (L := [x]) (by show 1 ≤ 80; omega) (fun j y hj hy => by have := List.mem_of_getElem? hy; simp at this; subst this; omega)] at HHX
  rw [HH1] at HHV
  have HHA := hide fun w h => heavya_any a D na ca w h
  rw [HH3] at HHA
  have HL := hide (heavyA_light HH3)
  have HGL := hide (heavyG_no HH1)
  have hn80 : n ≤ 80 := by have := HGL.out.1; have := hl.len; omega
  have HKT := hide fun w h => katg_any A n c L w h (by omega) (fun y hy => by have := HGL.out.2 y hy; omega)
  have HKG := hide fun (V : Option Addr) (q : Nat) (w : World) (h : Sl gotR 2 w (Old w) V n q L) (h2 : Sl gotR 2 w (Old w) A n c L) => gots_true V A n q c L w h h2 (by omega) (fun y hy => by have := HGL.out.2 y hy; omega)
  have HSY := hide fun w hT h => nsays_sym g x.err B nb cb x.bytes addr w hT h (by omega)
  have HGE := hide fun w => rgeo_any g w
  rw [decide_eq_true hg] at HGE
  have HNN := hide fun (V : Option Addr) (m q : Nat) (w : World) (h : Sl homR 3 w (Old w) V m q noAnc.homes) => keepa_same9 (x := noAnc) (B := none) (m := 0) (d := 0) h (Sl.nil_ _) no_light
  obtain ⟨W0, hW0⟩ : ∃ W0, W0 = ((w.alloc (.cells #[.int .i64 g.zones, .int .i64 g.data, .int .i64 g.spares, .int .i64 g.slots, .int .i64 g.anchors] 23)).alloc (.cells #[.int .i64 x.err, .slice B nb cb] 78)).alloc (.cells #[.int .i64 a.gen, .int .i64 a.epoch, .int .i64 a.pos, .int .i64 a.seq, .int .i64 a.last, .string a.label, .slice D na ca] 26) := ⟨_, rfl⟩
  have hb0 : Below w.heap.size w W0 := by rw [hW0]; exact ((alloc_below w _).alloc (by simp) _).alloc (by simp; omega) _
  have hl0 := hl.on gotR_fine hb0
  have hx0 := hx.on byteR_fine hb0
  have ha0 := ha.on homR_fine hb0
  have hgb : GeoAt W0 w.heap.size g := by rw [hW0]; exact (GeoAt.new w g 23).on ((alloc_below _ _).alloc (by simp) _)
  have hxb : ∀ W, Below W0.heap.size W0 W → W.cell? ⟨w.heap.size + 1, 0, none⟩ = some (.int .i64 x.err) ∧ W.cell? ⟨w.heap.size + 1, 1, none⟩ = some (.slice B nb cb) := fun W hW => by
    have h0 : W0.cell? ⟨w.heap.size + 1, 0, none⟩ = some (.int .i64 x.err) ∧ W0.cell? ⟨w.heap.size + 1, 1, none⟩ = some (.slice B nb cb) := by
      rw [hW0]
      exact ⟨bx_at2 (by simp) (alloc_below _ _) 0 _ rfl, bx_at2 (by simp) (alloc_below _ _) 1 _ rfl⟩
    have hs : w.heap.size + 1 < W0.heap.size := by rw [hW0]; simp
    exact ⟨(hW.cell (p := ⟨w.heap.size + 1, 0, none⟩) hs).trans h0.1, (hW.cell (p := ⟨w.heap.size + 1, 1, none⟩) hs).trans h0.2⟩
  have hsv : Sev W0 (w.heap.size + 1 + 1) (.int .i64 a.gen) (.int .i64 a.epoch) (.int .i64 a.pos) (.int .i64 a.seq) (.int .i64 a.last) (.string a.label) (.slice D na ca) := by rw [hW0]; exact Sev.new (by simp) (Below.refl _ _)
  have hN2 : w.heap.size + 1 + 1 < W0.heap.size := by rw [hW0]; simp
  have HSV := hide hsv
  have HGB := hide hgb
  have HXB := hide hxb
  clear hgb hxb hsv hl hx ha HH1 HH3 hxl
  have HSL := hide (says_light g x.err x.bytes addr)
  obtain ⟨SA, hSA⟩ : ∃ SA, SA = sA (saysN g x.err x.bytes addr) := ⟨_, rfl⟩
  obtain ⟨SR, hSR⟩ : ∃ SR, SR = sR (saysN g x.err x.bytes addr) := ⟨_, rfl⟩
  rw [← hSA, ← hSR] at HSY
  rw [← hSA] at HSL
  have HRS := hide fun w h => rsays_any g hg x.err B nb cb x.bytes addr w h (by omega)
  rw [← hSA, ← hSR] at HRS
  have hnone : saysN g x.err x.bytes addr = none := if_neg fun h => had h.2.1
  rw [hnone] at hSA hSR
  obtain rfl : SA = noAnc := hSA
  obtain rfl : SR = false := hSR
  have hadr : addr < 0 ∨ 65535 < addr := by omega
  clear hnone
  have HPI := hide fun (V : Option Addr) (q : Nat) (w : World) (hT : Tabs w) (h : Sl gotR 2 w (Old w) V n q L) => npick_len g hg V n q w hln
  have hln1 : ((n : Int) != g.anchors) = true := by simpa using hln
  have hln2 : ¬ (n : Int) = g.anchors := hln
  unfold noAncW at HPI
  obtain ⟨ii, rfl⟩ : ∃ ii : Nat, i = (ii : Int) := ⟨i.toNat, by omega⟩
  have hga := hg.2.2.2.2
  have HCE := hide fun w hT h => ncell_yes g a D na ca ii w hT h hin HL.out ⟨hg, hck.1, hck.2.1, hck.2.2⟩
  have HRC := hide fun w h => rancell_yes hg hck.1 (i := ii) (by omega) (A := D) (n := na) (c := ca) (w := w) h
  have HRA := hide fun w h => ranchor_any g hg a D na ca w h hin HL.out
  rw [decide_eq_true hck.1] at HRA
  have i0 : ¬ (ii : Int) < 0 := by omega
  have i1 : ¬ g.anchors ≤ (ii : Int) := by omega
  obtain ⟨M, hM⟩ : ∃ M, M = (ancL a).length + 11 := ⟨_, rfl⟩
  have hM9 : M ≤ 200 := by have := (anc_room hg hck.1).2; omega
  obtain ⟨CB, hCB⟩ : ∃ CB, CB = sealL ii a.gen.toNat (ancL a) := ⟨_, rfl⟩
  rw [← hM, ← hCB] at HCE HRC
  have HBB := hide fun (V U : Option Addr) (q u : Nat) (w : World) (h : Bs w V M q CB) (h2 : Bs w U M u CB) => (bytes_any V U M q M u CB CB w h h2 (by omega)).mono (fun e w' (hh : e = .returned (.bool (decide (CB = CB))) ∧ ∃ q, w' = w.drewN q) => (⟨by rw [hh.1, decide_eq_true rfl], by obtain ⟨_, q, rfl⟩ := hh; exact drewN_below _ q⟩ : e = .returned (.bool true) ∧ Below w.heap.size w w'))
  clear hM hCB hga hck hi
  clear hin HH2
  unfold Geo.v at *
  unfold Anc.v at *
  unfold noAnc at *
  dsimp only at *
  rcases hadr with hadr | hadr
  all_goals
    have adn : ¬ addr < 0 ∨ addr < 0 := by omega
    first
      | (have ad0 : ¬ addr < 0 := by omega; skip)
      | skip
    go_enter Tryd.func12, Tryd.ntmps12
    go_upto_region 1 with fail
    rw [← hW0]
    clear hW0
    go_wp2_with fail
    with_reducible refine (HHV.out _ hl0).mono ?_
    rintro e w1 ⟨rfl, rfl⟩
    obtain ⟨x0, x1⟩ := HXB.out _ (Below.refl _ _)
    obtain ⟨W1, hW1⟩ : ∃ W1, W1 = W0.alloc (.cells #[.int .i64 x.err, .slice B nb cb] 78) := ⟨_, rfl⟩
    have hE1 : Below W0.heap.size W0 W1 := by rw [hW1]; exact alloc_below _ _
    have hlx : Sl gotR 2 W1 (Old W1) (some ⟨W0.heap.size, 0, none⟩) 1 1 [x] := by rw [hW1]; exact lit_got1 _ rfl hx0 hxe
    go_wp2_with fail
    rw [← hW1]
    clear hW1 x0 x1
    with_reducible refine (HHX.out _ _ hlx).mono ?_
    rintro e w1 ⟨rfl, rfl⟩
    obtain ⟨q0, q1, q2, q3, q4, q5, q6⟩ := HSV.out.onB hN2 hE1
    go_wp2_with fail
    with_reducible refine (HHA.out _ (ha0.on homR_fine hE1)).mono ?_
    rintro e w2 ⟨rfl, hb2⟩
    have hb02 := th hE1 hb2
    clear q0 q1 q2 q3 q4 q5 q6
    go_wp2_with fail
    with_reducible refine (HKT.out _ (hl0.on gotR_fine hb02)).mono ?_
    rintro e w3 ⟨hb3, VI, ci, rfl, hin3⟩
    have hb03 := th hb02 hb3
    obtain ⟨_, p0, p1, p2, p3, p4⟩ := HGB.out.on hb03
    obtain ⟨x0, x1⟩ := HXB.out _ hb03
    go_wp2_with fail
    with_reducible refine (HSY.out _ (hT.below (th hb0 hb03)) (hx0.on byteR_fine hb03)).mono ?_
    rintro e w4 ⟨hb4, V4, m4, c4, rfl, hs4⟩
    obtain ⟨W5, hW5⟩ : ∃ W5, W5 = w4.alloc (.cells #[.int .i64 0, .int .i64 0, .int .i64 0, .int .i64 0, .int .i64 0, .string ⟨#[]⟩, .slice V4 m4 c4] 26) := ⟨_, rfl⟩
    have hE5 : Below w4.heap.size w4 W5 := by rw [hW5]; exact alloc_below _ _
    have hN5 : w4.heap.size < W5.heap.size := by rw [hW5]; simp
    have hv5 : Sev W5 w4.heap.size (.int .i64 0) (.int .i64 0) (.int .i64 0) (.int .i64 0) (.int .i64 0) (.string ⟨#[]⟩) (.slice V4 m4 c4) := by rw [hW5]; exact Sev.new rfl (Below.refl _ _)
    have HVS := hide hv5
    have hs5 := hs4.on homR_fine hE5
    have hb35 := th hb4 hE5
    have hb05 := th hb03 hb35
    clear hv5 p0 p1 p2 p3 p4
    clear x0 x1
    go_upto_region 5 with fail
    rw [← hW5]
    clear hW5
    obtain ⟨_, p0, p1, p2, p3, p4⟩ := HGB.out.on hb05
    go_wp2_with fail
    with_reducible refine (HPI.out _ _ _ (hT.below (th hb0 hb05)) (hin3.on gotR_fine hb35)).mono ?_
    rintro e w6 ⟨rfl, hb6⟩
    have hp6 : Sl homR 3 w6 (Old w6) none 0 0 noAnc.homes := Sl.nil_ _
    obtain ⟨W7, hW7⟩ : ∃ W7, W7 = w6.alloc (.cells #[.int .i64 0, .int .i64 0, .int .i64 0, .int .i64 0, .int .i64 0, .string ⟨#[]⟩, .slice none 0 0] 26) := ⟨_, rfl⟩
    have hE7 : Below w6.heap.size w6 W7 := by rw [hW7]; exact alloc_below _ _
    have hN7 : w6.heap.size < W7.heap.size := by rw [hW7]; simp
    have hv7 : Sev W7 w6.heap.size (.int .i64 0) (.int .i64 0) (.int .i64 0) (.int .i64 0) (.int .i64 0) (.string ⟨#[]⟩) (.slice none 0 0) := by rw [hW7]; exact Sev.new rfl (Below.refl _ _)
    have HVP := hide hv7
    have hp7 := hp6.on homR_fine hE7
    have hb57 := th hb6 hE7
    have hb07 := th hb05 hb57
    clear hv7 p0 p1 p2 p3 p4
    go_upto_region 6 with fail
    rw [← hW7]
    clear hW7
    obtain ⟨_, p0, p1, p2, p3, p4⟩ := HGB.out.on hb07
    obtain ⟨q0, q1, q2, q3, q4, q5, q6⟩ := HSV.out.onB hN2 hb07
    go_wp2_with fail
    with_reducible refine (HCE.out _ (hT.below (th hb0 hb07)) (ha0.on homR_fine hb07)).mono ?_
    rintro e w8 ⟨V8, c8, rfl, ho8, hb8⟩
    have hc8 := ho8.read byteR_fine
    obtain ⟨W9, hW9⟩ : ∃ W9, W9 = w8.alloc (.cells #[.int .i64 0, .int .i64 0, .int .i64 0, .int .i64 0, .int .i64 0, .string ⟨#[]⟩, .slice none 0 0] 26) := ⟨_, rfl⟩
    have hE9 : Below w8.heap.size w8 W9 := by rw [hW9]; exact alloc_below _ _
    have hN9 : w8.heap.size < W9.heap.size := by rw [hW9]; simp
    have hv9 : Sev W9 w8.heap.size (.int .i64 0) (.int .i64 0) (.int .i64 0) (.int .i64 0) (.int .i64 0) (.string ⟨#[]⟩) (.slice none 0 0) := by rw [hW9]; exact Sev.new rfl (Below.refl _ _)
    have HVN := hide hv9
    have hb79 := th hb8 hE9
    have hb59 := th hb57 hb79
    have hb39 := th hb35 hb59
    have hb09 := th hb03 hb39
    clear hv9 p0 p1 p2 p3 p4
    clear q0 q1 q2 q3 q4 q5 q6
    go_upto_region 8 with fail
    rw [← hW9]
    clear hW9
    go_wp2_with fail
    with_reducible refine (HKG.out _ _ _ (hin3.on gotR_fine hb39) (hl0.on gotR_fine hb09)).mono ?_
    rintro e w10 ⟨rfl, hq10⟩
    have hb910 : Below W9.heap.size W9 w10 := by obtain ⟨q, rfl⟩ := hq10; exact drewN_below _ q
    clear hq10
    have hb010 := th hb09 hb910
    obtain ⟨_, p0, p1, p2, p3, p4⟩ := HGB.out.on hb010
    go_wp2_with fail
    with_reducible refine (HGE.out _).mono ?_
    rintro e w11 ⟨rfl, hb11⟩
    have hb911 := th hb910 hb11
    have hb011 := th hb010 hb11
    clear p0 p1 p2 p3 p4
    obtain ⟨_, p0, p1, p2, p3, p4⟩ := HGB.out.on hb011
    obtain ⟨x0, x1⟩ := HXB.out _ hb011
    go_wp2_with fail
    with_reducible refine (HRS.out _ (hx0.on byteR_fine hb011)).mono ?_
    rintro e w12 ⟨hb12, V12, m12, c12, rfl, hs12⟩
    obtain ⟨W13, hW13⟩ : ∃ W13, W13 = w12.alloc (.cells #[.int .i64 0, .int .i64 0, .int .i64 0, .int .i64 0, .int .i64 0, .string ⟨#[]⟩, .slice V12 m12 c12] 26) := ⟨_, rfl⟩
    have hE13 : Below w12.heap.size w12 W13 := by rw [hW13]; exact alloc_below _ _
    have hN13 : w12.heap.size < W13.heap.size := by rw [hW13]; simp
    have hv13 : Sev W13 w12.heap.size (.int .i64 0) (.int .i64 0) (.int .i64 0) (.int .i64 0) (.int .i64 0) (.string ⟨#[]⟩) (.slice V12 m12 c12) := by rw [hW13]; exact Sev.new rfl (Below.refl _ _)
    have hf13 : ∀ k, W13.frozen? ⟨w12.heap.size, k, none⟩ = false := fun k => by rw [hW13]; exact box_free (Below.refl _ _) k
    have hb913 := th hb911 (th hb12 hE13)
    have hb013 := th hb011 (th hb12 hE13)
    have hw13 := (hs12.old_ homR_fine).on homR_fine hE13
    clear p0 p1 p2 p3 p4
    clear x0 x1
    go_upto_region 13 with fail
    rw [← hW13]
    clear hW13
    have hpu := put7_sev hv13 (.int .i64 0) (.int .i64 0) (.int .i64 0) (.int .i64 0) (.int .i64 0) (.string ⟨#[]⟩) (.slice none 0 0)
    have hpb := put7_below (Below.refl W13.heap.size W13) (show W13.heap.size ≤ W13.heap.size from Nat.le_refl _) (.int .i64 0) (.int .i64 0) (.int .i64 0) (.int .i64 0) (.int .i64 0) (.string ⟨#[]⟩) (.slice none 0 0)
    obtain ⟨W14, hW14⟩ : ∃ W14, W14 = put7 W13 w12.heap.size (.int .i64 0) (.int .i64 0) (.int .i64 0) (.int .i64 0) (.int .i64 0) (.string ⟨#[]⟩) (.slice none 0 0) := ⟨_, rfl⟩
    have hb1314 : Below w12.heap.size w12 W14 := by rw [hW14]; exact put7_below hE13 (Nat.le_refl _) _ _ _ _ _ _ _
    have hN14 : w12.heap.size < W14.heap.size := Nat.lt_of_lt_of_le hN13 (by rw [hW14]; unfold put7; simp only [set_size]; exact Nat.le_refl _)
    have HVT : Hid (Sev W14 w12.heap.size (.int .i64 0) (.int .i64 0) (.int .i64 0) (.int .i64 0) (.int .i64 0) (.string ⟨#[]⟩) (.slice none 0 0)) := hide (by rw [hW14]; exact hpu)
    have hb914 := th hb911 (th hb12 hb1314)
    have hb014 := th hb011 (th hb12 hb1314)
    have g0 := hf13 0
    have g1 := hf13 1
    have g2 := hf13 2
    have g3 := hf13 3
    have g4 := hf13 4
    have g5 := hf13 5
    have g6 := hf13 6
    obtain ⟨t0, t1, t2, t3, t4, t5, t6⟩ := hv13
    unfold put7 at hW14
    clear hpu hpb hf13
    obtain ⟨n0, n1, n2, n3, n4, n5, n6⟩ := HVN.out.on hN9 hb913
    go_upto_region 15 with fail
    rw [← hW14]
    clear hW14 t0 t1 t2 t3 t4 t5 t6 g0 g1 g2 g3 g4 g5 g6 n0 n1 n2 n3 n4 n5 n6
    obtain ⟨t0, t1, t2, t3, t4, t5, t6⟩ := HVT.out
    obtain ⟨s0, s1, s2, s3, s4, s5, s6⟩ := HVS.out.on hN5 (th hb59 hb914)
    go_wp2_with fail
    with_reducible refine (HNN.out _ _ _ _ (hs5.on homR_fine (th hb59 hb914))).mono ?_
    rintro e w15 ⟨rfl, hb15⟩
    have hb914 := th hb914 hb15
    have hb014 := th hb014 hb15
    clear t0 t1 t2 t3 t4 t5 t6
    clear s0 s1 s2 s3 s4 s5 s6
    obtain ⟨_, p0, p1, p2, p3, p4⟩ := HGB.out.on hb014
    obtain ⟨r0, r1, r2, r3, r4, r5, r6⟩ := HVP.out.on hN7 (th hb79 hb914)
    obtain ⟨n0, n1, n2, n3, n4, n5, n6⟩ := HVN.out.on hN9 hb914
    go_wp2_with fail
    with_reducible refine (HNN.out _ _ _ _ (hp7.on homR_fine (th hb79 hb914))).mono ?_
    rintro e w16 ⟨rfl, hb16⟩
    have hb916 := th hb914 hb16
    have hb016 := th hb014 hb16
    clear r0 r1 r2 r3 r4 r5 r6
    clear n0 n1 n2 n3 n4 n5 n6
    clear p0 p1 p2 p3 p4
    obtain ⟨_, p0, p1, p2, p3, p4⟩ := HGB.out.on hb016
    obtain ⟨q0, q1, q2, q3, q4, q5, q6⟩ := HSV.out.onB hN2 hb016
    go_wp2_with fail
    with_reducible refine (HRA.out _ (ha0.on homR_fine hb016)).mono ?_
    rintro e w17 ⟨rfl, hb17⟩
    have hb917 := th hb916 hb17
    have hb017 := th hb016 hb17
    clear p0 p1 p2 p3 p4
    clear q0 q1 q2 q3 q4 q5 q6
    obtain ⟨_, p0, p1, p2, p3, p4⟩ := HGB.out.on hb017
    obtain ⟨q0, q1, q2, q3, q4, q5, q6⟩ := HSV.out.onB hN2 hb017
    go_wp2_with fail
    with_reducible refine (HRC.out _ (ha0.on homR_fine hb017)).mono ?_
    rintro e w18 ⟨hb18, V18, c18, rfl, hs18⟩
    have hb018 := th hb017 hb18
    clear p0 p1 p2 p3 p4
    clear q0 q1 q2 q3 q4 q5 q6
    go_wp2_with fail
    with_reducible refine (HBB.out _ _ _ _ _ (hc8.on byteR_fine (th hE9 (th hb917 hb18))) hs18).mono ?_
    rintro e w19 ⟨rfl, hb19⟩
    have hb019 := th hb018 hb19
    go_wp2_with fail
    with_reducible refine (wakes09 _ (hT.below (th hb0 hb019))).mono ?_
    rintro e w30 ⟨rfl, hb30⟩
    go_wp2_with fail
    go_ret
    exact ⟨rfl, th hb0 (th hb019 hb30)⟩

set_option maxHeartbeats 16000000 in
theorem ne_0len0 {w : World} (hT : Tabs w) (g : Geo) (a : Anc) (x : Gt) (A B D : Option Addr) (n c nb cb na ca : Nat) (L : List Gt) (addr i : Int) (hl : Sl gotR 2 w (Old w) A n c L) (hxe : InI x.err) (hx : Bs w B nb cb x.bytes) (ha : Sl homR 3 w (Old w) D na ca a.homes) (hin : a.In) (hi : InI i) (HH1 : heavyG L = false) (HH2 : nb ≤ 300) (HH3 : heavyA a = false) (hg : GeoOk g) (had : ¬ (0 ≤ addr ∧ addr ≤ 65535)) (hln : (n : Int) ≠ g.anchors) (hck : ¬ (AncOk g a ∧ 0 ≤ i ∧ i ≤ g.anchors - 1)) :
    Calls Tryd.prog 12 #[g.v, .slice A n c, .agg #[.int .i64 x.err, .slice B nb cb], .int .i64 addr, a.v (.slice D na ca), .int .i64 i] w fun e w' => e = .returned (.bool true) ∧ Below w.heap.size w w' := by
  have HHV := hide fun w h => heavyg_any A n c L w h
  have HHX := hide fun N (w : World) (h : Sl gotR 2 w (Old w) (some ⟨N, 0, none⟩) 1 1 [x]) => heavyg_any (some ⟨N, 0, none⟩) 1 1 [x] w h
  have hxl := hx.len
  rw [heavyG_ok (L := [x]) (by show 1 ≤ 80; omega) (fun j y hj hy => by have := List.mem_of_getElem? hy; simp at this; subst this; omega)] at HHX
  rw [HH1] at HHV
  have HHA := hide fun w h => heavya_any a D na ca w h
  rw [HH3] at HHA
  have HL := hide (heavyA_light HH3)
  have HGL := hide (heavyG_no HH1)
  have hn80 : n ≤ 80 := by have := HGL.out.1; have := hl.len; omega
  have HKT := hide fun w h => katg_any A n c L w h (by omega) (fun y hy => by have := HGL.out.2 y hy; omega)
  have HKG := hide fun (V : Option Addr) (q : Nat) (w : World) (h : Sl gotR 2 w (Old w) V n q L) (h2 : Sl gotR 2 w (Old w) A n c L) => gots_true V A n q c L w h h2 (by omega) (fun y hy => by have := HGL.out.2 y hy; omega)
  have HSY := hide fun w hT h => nsays_sym g x.err B nb cb x.bytes addr w hT h (by omega)
  have HGE := hide fun w => rgeo_any g w
  rw [decide_eq_true hg] at HGE
  have HNN := hide fun (V : Option Addr) (m q : Nat) (w : World) (h : Sl homR 3 w (Old w) V m q noAnc.homes) => keepa_same9 (x := noAnc) (B := none) (m := 0) (d := 0) h (Sl.nil_ _) no_light
  obtain ⟨W0, hW0⟩ : ∃ W0, W0 = ((w.alloc (.cells #[.int .i64 g.zones, .int .i64 g.data, .int .i64 g.spares, .int .i64 g.slots, .int .i64 g.anchors] 23)).alloc (.cells #[.int .i64 x.err, .slice B nb cb] 78)).alloc (.cells #[.int .i64 a.gen, .int .i64 a.epoch, .int .i64 a.pos, .int .i64 a.seq, .int .i64 a.last, .string a.label, .slice D na ca] 26) := ⟨_, rfl⟩
  have hb0 : Below w.heap.size w W0 := by rw [hW0]; exact ((alloc_below w _).alloc (by simp) _).alloc (by simp; omega) _
  have hl0 := hl.on gotR_fine hb0
  have hx0 := hx.on byteR_fine hb0
  have ha0 := ha.on homR_fine hb0
  have hgb : GeoAt W0 w.heap.size g := by rw [hW0]; exact (GeoAt.new w g 23).on ((alloc_below _ _).alloc (by simp) _)
  have hxb : ∀ W, Below W0.heap.size W0 W → W.cell? ⟨w.heap.size + 1, 0, none⟩ = some (.int .i64 x.err) ∧ W.cell? ⟨w.heap.size + 1, 1, none⟩ = some (.slice B nb cb) := fun W hW => by
    have h0 : W0.cell? ⟨w.heap.size + 1, 0, none⟩ = some (.int .i64 x.err) ∧ W0.cell? ⟨w.heap.size + 1, 1, none⟩ = some (.slice B nb cb) := by
      rw [hW0]
      exact ⟨bx_at2 (by simp) (alloc_below _ _) 0 _ rfl, bx_at2 (by simp) (alloc_below _ _) 1 _ rfl⟩
    have hs : w.heap.size + 1 < W0.heap.size := by rw [hW0]; simp
    exact ⟨(hW.cell (p := ⟨w.heap.size + 1, 0, none⟩) hs).trans h0.1, (hW.cell (p := ⟨w.heap.size + 1, 1, none⟩) hs).trans h0.2⟩
  have hsv : Sev W0 (w.heap.size + 1 + 1) (.int .i64 a.gen) (.int .i64 a.epoch) (.int .i64 a.pos) (.int .i64 a.seq) (.int .i64 a.last) (.string a.label) (.slice D na ca) := by rw [hW0]; exact Sev.new (by simp) (Below.refl _ _)
  have hN2 : w.heap.size + 1 + 1 < W0.heap.size := by rw [hW0]; simp
  have HSV := hide hsv
  have HGB := hide hgb
  have HXB := hide hxb
  clear hgb hxb hsv hl hx ha HH1 HH3 hxl
  have HSL := hide (says_light g x.err x.bytes addr)
  obtain ⟨SA, hSA⟩ : ∃ SA, SA = sA (saysN g x.err x.bytes addr) := ⟨_, rfl⟩
  obtain ⟨SR, hSR⟩ : ∃ SR, SR = sR (saysN g x.err x.bytes addr) := ⟨_, rfl⟩
  rw [← hSA, ← hSR] at HSY
  rw [← hSA] at HSL
  have HRS := hide fun w h => rsays_any g hg x.err B nb cb x.bytes addr w h (by omega)
  rw [← hSA, ← hSR] at HRS
  have hnone : saysN g x.err x.bytes addr = none := if_neg fun h => had h.2.1
  rw [hnone] at hSA hSR
  obtain rfl : SA = noAnc := hSA
  obtain rfl : SR = false := hSR
  have hadr : addr < 0 ∨ 65535 < addr := by omega
  clear hnone
  have HPI := hide fun (V : Option Addr) (q : Nat) (w : World) (hT : Tabs w) (h : Sl gotR 2 w (Old w) V n q L) => npick_len g hg V n q w hln
  have hln1 : ((n : Int) != g.anchors) = true := by simpa using hln
  have hln2 : ¬ (n : Int) = g.anchors := hln
  unfold noAncW at HPI
  have HCE := hide fun w hT h => ncell_no g a D na ca i hi w hT h hin HL.out (fun h => hck ⟨h.2.1, h.2.2.1, h.2.2.2⟩)
  have HRA := hide fun w h => ranchor_any g hg a D na ca w h hin HL.out
  clear hin HH2
  unfold Geo.v at *
  unfold Anc.v at *
  unfold noAnc at *
  dsimp only at *
  by_cases hok : AncOk g a
  · rw [decide_eq_true hok] at HRA
    have hii : i < 0 ∨ g.anchors ≤ i := by
      by_cases h : i < 0
      · exact .inl h
      · by_cases h2 : i ≤ g.anchors - 1
        · exact absurd ⟨hok, by omega, h2⟩ hck
        · exact .inr (by omega)
    clear hck hok
    by_cases i0 : i < 0
    · clear hii
      rcases hadr with hadr | hadr
      all_goals
        have adn : ¬ addr < 0 ∨ addr < 0 := by omega
        first
          | (have ad0 : ¬ addr < 0 := by omega; skip)
          | skip
        go_enter Tryd.func12, Tryd.ntmps12
        go_upto_region 1 with fail
        rw [← hW0]
        clear hW0
        go_wp2_with fail
        with_reducible refine (HHV.out _ hl0).mono ?_
        rintro e w1 ⟨rfl, rfl⟩
        obtain ⟨x0, x1⟩ := HXB.out _ (Below.refl _ _)
        obtain ⟨W1, hW1⟩ : ∃ W1, W1 = W0.alloc (.cells #[.int .i64 x.err, .slice B nb cb] 78) := ⟨_, rfl⟩
        have hE1 : Below W0.heap.size W0 W1 := by rw [hW1]; exact alloc_below _ _
        have hlx : Sl gotR 2 W1 (Old W1) (some ⟨W0.heap.size, 0, none⟩) 1 1 [x] := by rw [hW1]; exact lit_got1 _ rfl hx0 hxe
        go_wp2_with fail
        rw [← hW1]
        clear hW1 x0 x1
        with_reducible refine (HHX.out _ _ hlx).mono ?_
        rintro e w1 ⟨rfl, rfl⟩
        obtain ⟨q0, q1, q2, q3, q4, q5, q6⟩ := HSV.out.onB hN2 hE1
        go_wp2_with fail
        with_reducible refine (HHA.out _ (ha0.on homR_fine hE1)).mono ?_
        rintro e w2 ⟨rfl, hb2⟩
        have hb02 := th hE1 hb2
        clear q0 q1 q2 q3 q4 q5 q6
        go_wp2_with fail
        with_reducible refine (HKT.out _ (hl0.on gotR_fine hb02)).mono ?_
        rintro e w3 ⟨hb3, VI, ci, rfl, hin3⟩
        have hb03 := th hb02 hb3
        obtain ⟨_, p0, p1, p2, p3, p4⟩ := HGB.out.on hb03
        obtain ⟨x0, x1⟩ := HXB.out _ hb03
        go_wp2_with fail
        with_reducible refine (HSY.out _ (hT.below (th hb0 hb03)) (hx0.on byteR_fine hb03)).mono ?_
        rintro e w4 ⟨hb4, V4, m4, c4, rfl, hs4⟩
        obtain ⟨W5, hW5⟩ : ∃ W5, W5 = w4.alloc (.cells #[.int .i64 0, .int .i64 0, .int .i64 0, .int .i64 0, .int .i64 0, .string ⟨#[]⟩, .slice V4 m4 c4] 26) := ⟨_, rfl⟩
        have hE5 : Below w4.heap.size w4 W5 := by rw [hW5]; exact alloc_below _ _
        have hN5 : w4.heap.size < W5.heap.size := by rw [hW5]; simp
        have hv5 : Sev W5 w4.heap.size (.int .i64 0) (.int .i64 0) (.int .i64 0) (.int .i64 0) (.int .i64 0) (.string ⟨#[]⟩) (.slice V4 m4 c4) := by rw [hW5]; exact Sev.new rfl (Below.refl _ _)
        have HVS := hide hv5
        have hs5 := hs4.on homR_fine hE5
        have hb35 := th hb4 hE5
        have hb05 := th hb03 hb35
        clear hv5 p0 p1 p2 p3 p4
        clear x0 x1
        go_upto_region 5 with fail
        rw [← hW5]
        clear hW5
        obtain ⟨_, p0, p1, p2, p3, p4⟩ := HGB.out.on hb05
        go_wp2_with fail
        with_reducible refine (HPI.out _ _ _ (hT.below (th hb0 hb05)) (hin3.on gotR_fine hb35)).mono ?_
        rintro e w6 ⟨rfl, hb6⟩
        have hp6 : Sl homR 3 w6 (Old w6) none 0 0 noAnc.homes := Sl.nil_ _
        obtain ⟨W7, hW7⟩ : ∃ W7, W7 = w6.alloc (.cells #[.int .i64 0, .int .i64 0, .int .i64 0, .int .i64 0, .int .i64 0, .string ⟨#[]⟩, .slice none 0 0] 26) := ⟨_, rfl⟩
        have hE7 : Below w6.heap.size w6 W7 := by rw [hW7]; exact alloc_below _ _
        have hN7 : w6.heap.size < W7.heap.size := by rw [hW7]; simp
        have hv7 : Sev W7 w6.heap.size (.int .i64 0) (.int .i64 0) (.int .i64 0) (.int .i64 0) (.int .i64 0) (.string ⟨#[]⟩) (.slice none 0 0) := by rw [hW7]; exact Sev.new rfl (Below.refl _ _)
        have HVP := hide hv7
        have hp7 := hp6.on homR_fine hE7
        have hb57 := th hb6 hE7
        have hb07 := th hb05 hb57
        clear hv7 p0 p1 p2 p3 p4
        go_upto_region 6 with fail
        rw [← hW7]
        clear hW7
        obtain ⟨_, p0, p1, p2, p3, p4⟩ := HGB.out.on hb07
        obtain ⟨q0, q1, q2, q3, q4, q5, q6⟩ := HSV.out.onB hN2 hb07
        go_wp2_with fail
        with_reducible refine (HCE.out _ (hT.below (th hb0 hb07)) (ha0.on homR_fine hb07)).mono ?_
        rintro e w8 ⟨rfl, hb8⟩
        obtain ⟨W9, hW9⟩ : ∃ W9, W9 = w8.alloc (.cells #[.int .i64 0, .int .i64 0, .int .i64 0, .int .i64 0, .int .i64 0, .string ⟨#[]⟩, .slice none 0 0] 26) := ⟨_, rfl⟩
        have hE9 : Below w8.heap.size w8 W9 := by rw [hW9]; exact alloc_below _ _
        have hN9 : w8.heap.size < W9.heap.size := by rw [hW9]; simp
        have hv9 : Sev W9 w8.heap.size (.int .i64 0) (.int .i64 0) (.int .i64 0) (.int .i64 0) (.int .i64 0) (.string ⟨#[]⟩) (.slice none 0 0) := by rw [hW9]; exact Sev.new rfl (Below.refl _ _)
        have HVN := hide hv9
        have hb79 := th hb8 hE9
        have hb59 := th hb57 hb79
        have hb39 := th hb35 hb59
        have hb09 := th hb03 hb39
        clear hv9 p0 p1 p2 p3 p4
        clear q0 q1 q2 q3 q4 q5 q6
        go_upto_region 8 with fail
        rw [← hW9]
        clear hW9
        go_wp2_with fail
        with_reducible refine (HKG.out _ _ _ (hin3.on gotR_fine hb39) (hl0.on gotR_fine hb09)).mono ?_
        rintro e w10 ⟨rfl, hq10⟩
        have hb910 : Below W9.heap.size W9 w10 := by obtain ⟨q, rfl⟩ := hq10; exact drewN_below _ q
        clear hq10
        have hb010 := th hb09 hb910
        obtain ⟨_, p0, p1, p2, p3, p4⟩ := HGB.out.on hb010
        go_wp2_with fail
        with_reducible refine (HGE.out _).mono ?_
        rintro e w11 ⟨rfl, hb11⟩
        have hb911 := th hb910 hb11
        have hb011 := th hb010 hb11
        clear p0 p1 p2 p3 p4
        obtain ⟨_, p0, p1, p2, p3, p4⟩ := HGB.out.on hb011
        obtain ⟨x0, x1⟩ := HXB.out _ hb011
        go_wp2_with fail
        with_reducible refine (HRS.out _ (hx0.on byteR_fine hb011)).mono ?_
        rintro e w12 ⟨hb12, V12, m12, c12, rfl, hs12⟩
        obtain ⟨W13, hW13⟩ : ∃ W13, W13 = w12.alloc (.cells #[.int .i64 0, .int .i64 0, .int .i64 0, .int .i64 0, .int .i64 0, .string ⟨#[]⟩, .slice V12 m12 c12] 26) := ⟨_, rfl⟩
        have hE13 : Below w12.heap.size w12 W13 := by rw [hW13]; exact alloc_below _ _
        have hN13 : w12.heap.size < W13.heap.size := by rw [hW13]; simp
        have hv13 : Sev W13 w12.heap.size (.int .i64 0) (.int .i64 0) (.int .i64 0) (.int .i64 0) (.int .i64 0) (.string ⟨#[]⟩) (.slice V12 m12 c12) := by rw [hW13]; exact Sev.new rfl (Below.refl _ _)
        have hf13 : ∀ k, W13.frozen? ⟨w12.heap.size, k, none⟩ = false := fun k => by rw [hW13]; exact box_free (Below.refl _ _) k
        have hb913 := th hb911 (th hb12 hE13)
        have hb013 := th hb011 (th hb12 hE13)
        have hw13 := (hs12.old_ homR_fine).on homR_fine hE13
        clear p0 p1 p2 p3 p4
        clear x0 x1
        go_upto_region 13 with fail
        rw [← hW13]
        clear hW13
        have hpu := put7_sev hv13 (.int .i64 0) (.int .i64 0) (.int .i64 0) (.int .i64 0) (.int .i64 0) (.string ⟨#[]⟩) (.slice none 0 0)
        have hpb := put7_below (Below.refl W13.heap.size W13) (show W13.heap.size ≤ W13.heap.size from Nat.le_refl _) (.int .i64 0) (.int .i64 0) (.int .i64 0) (.int .i64 0) (.int .i64 0) (.string ⟨#[]⟩) (.slice none 0 0)
        obtain ⟨W14, hW14⟩ : ∃ W14, W14 = put7 W13 w12.heap.size (.int .i64 0) (.int .i64 0) (.int .i64 0) (.int .i64 0) (.int .i64 0) (.string ⟨#[]⟩) (.slice none 0 0) := ⟨_, rfl⟩
        have hb1314 : Below w12.heap.size w12 W14 := by rw [hW14]; exact put7_below hE13 (Nat.le_refl _) _ _ _ _ _ _ _
        have hN14 : w12.heap.size < W14.heap.size := Nat.lt_of_lt_of_le hN13 (by rw [hW14]; unfold put7; simp only [set_size]; exact Nat.le_refl _)
        have HVT : Hid (Sev W14 w12.heap.size (.int .i64 0) (.int .i64 0) (.int .i64 0) (.int .i64 0) (.int .i64 0) (.string ⟨#[]⟩) (.slice none 0 0)) := hide (by rw [hW14]; exact hpu)
        have hb914 := th hb911 (th hb12 hb1314)
        have hb014 := th hb011 (th hb12 hb1314)
        have g0 := hf13 0
        have g1 := hf13 1
        have g2 := hf13 2
        have g3 := hf13 3
        have g4 := hf13 4
        have g5 := hf13 5
        have g6 := hf13 6
        obtain ⟨t0, t1, t2, t3, t4, t5, t6⟩ := hv13
        unfold put7 at hW14
        clear hpu hpb hf13
        obtain ⟨n0, n1, n2, n3, n4, n5, n6⟩ := HVN.out.on hN9 hb913
        go_upto_region 15 with fail
        rw [← hW14]
        clear hW14 t0 t1 t2 t3 t4 t5 t6 g0 g1 g2 g3 g4 g5 g6 n0 n1 n2 n3 n4 n5 n6
        obtain ⟨t0, t1, t2, t3, t4, t5, t6⟩ := HVT.out
        obtain ⟨s0, s1, s2, s3, s4, s5, s6⟩ := HVS.out.on hN5 (th hb59 hb914)
        go_wp2_with fail
        with_reducible refine (HNN.out _ _ _ _ (hs5.on homR_fine (th hb59 hb914))).mono ?_
        rintro e w15 ⟨rfl, hb15⟩
        have hb914 := th hb914 hb15
        have hb014 := th hb014 hb15
        clear t0 t1 t2 t3 t4 t5 t6
        clear s0 s1 s2 s3 s4 s5 s6
        obtain ⟨_, p0, p1, p2, p3, p4⟩ := HGB.out.on hb014
        obtain ⟨r0, r1, r2, r3, r4, r5, r6⟩ := HVP.out.on hN7 (th hb79 hb914)
        obtain ⟨n0, n1, n2, n3, n4, n5, n6⟩ := HVN.out.on hN9 hb914
        go_wp2_with fail
        with_reducible refine (HNN.out _ _ _ _ (hp7.on homR_fine (th hb79 hb914))).mono ?_
        rintro e w16 ⟨rfl, hb16⟩
        have hb916 := th hb914 hb16
        have hb016 := th hb014 hb16
        clear r0 r1 r2 r3 r4 r5 r6
        clear n0 n1 n2 n3 n4 n5 n6
        clear p0 p1 p2 p3 p4
        obtain ⟨_, p0, p1, p2, p3, p4⟩ := HGB.out.on hb016
        obtain ⟨q0, q1, q2, q3, q4, q5, q6⟩ := HSV.out.onB hN2 hb016
        go_wp2_with fail
        with_reducible refine (HRA.out _ (ha0.on homR_fine hb016)).mono ?_
        rintro e w17 ⟨rfl, hb17⟩
        have hb917 := th hb916 hb17
        have hb017 := th hb016 hb17
        clear p0 p1 p2 p3 p4
        clear q0 q1 q2 q3 q4 q5 q6
        obtain ⟨_, p0, p1, p2, p3, p4⟩ := HGB.out.on hb017
        go_wp2_with fail
        with_reducible refine (wakes09 _ (hT.below (th hb0 hb017))).mono ?_
        rintro e w30 ⟨rfl, hb30⟩
        go_wp2_with fail
        go_ret
        exact ⟨rfl, th hb0 (th hb017 hb30)⟩
    · have i1 : g.anchors ≤ i := by rcases hii with h | h; exact absurd h i0; exact h
      clear hii
      rcases hadr with hadr | hadr
      all_goals
        have adn : ¬ addr < 0 ∨ addr < 0 := by omega
        first
          | (have ad0 : ¬ addr < 0 := by omega; skip)
          | skip
        go_enter Tryd.func12, Tryd.ntmps12
        go_upto_region 1 with fail
        rw [← hW0]
        clear hW0
        go_wp2_with fail
        with_reducible refine (HHV.out _ hl0).mono ?_
        rintro e w1 ⟨rfl, rfl⟩
        obtain ⟨x0, x1⟩ := HXB.out _ (Below.refl _ _)
        obtain ⟨W1, hW1⟩ : ∃ W1, W1 = W0.alloc (.cells #[.int .i64 x.err, .slice B nb cb] 78) := ⟨_, rfl⟩
        have hE1 : Below W0.heap.size W0 W1 := by rw [hW1]; exact alloc_below _ _
        have hlx : Sl gotR 2 W1 (Old W1) (some ⟨W0.heap.size, 0, none⟩) 1 1 [x] := by rw [hW1]; exact lit_got1 _ rfl hx0 hxe
        go_wp2_with fail
        rw [← hW1]
        clear hW1 x0 x1
        with_reducible refine (HHX.out _ _ hlx).mono ?_
        rintro e w1 ⟨rfl, rfl⟩
        obtain ⟨q0, q1, q2, q3, q4, q5, q6⟩ := HSV.out.onB hN2 hE1
        go_wp2_with fail
        with_reducible refine (HHA.out _ (ha0.on homR_fine hE1)).mono ?_
        rintro e w2 ⟨rfl, hb2⟩
        have hb02 := th hE1 hb2
        clear q0 q1 q2 q3 q4 q5 q6
        go_wp2_with fail
        with_reducible refine (HKT.out _ (hl0.on gotR_fine hb02)).mono ?_
        rintro e w3 ⟨hb3, VI, ci, rfl, hin3⟩
        have hb03 := th hb02 hb3
        obtain ⟨_, p0, p1, p2, p3, p4⟩ := HGB.out.on hb03
        obtain ⟨x0, x1⟩ := HXB.out _ hb03
        go_wp2_with fail
        with_reducible refine (HSY.out _ (hT.below (th hb0 hb03)) (hx0.on byteR_fine hb03)).mono ?_
        rintro e w4 ⟨hb4, V4, m4, c4, rfl, hs4⟩
        obtain ⟨W5, hW5⟩ : ∃ W5, W5 = w4.alloc (.cells #[.int .i64 0, .int .i64 0, .int .i64 0, .int .i64 0, .int .i64 0, .string ⟨#[]⟩, .slice V4 m4 c4] 26) := ⟨_, rfl⟩
        have hE5 : Below w4.heap.size w4 W5 := by rw [hW5]; exact alloc_below _ _
        have hN5 : w4.heap.size < W5.heap.size := by rw [hW5]; simp
        have hv5 : Sev W5 w4.heap.size (.int .i64 0) (.int .i64 0) (.int .i64 0) (.int .i64 0) (.int .i64 0) (.string ⟨#[]⟩) (.slice V4 m4 c4) := by rw [hW5]; exact Sev.new rfl (Below.refl _ _)
        have HVS := hide hv5
        have hs5 := hs4.on homR_fine hE5
        have hb35 := th hb4 hE5
        have hb05 := th hb03 hb35
        clear hv5 p0 p1 p2 p3 p4
        clear x0 x1
        go_upto_region 5 with fail
        rw [← hW5]
        clear hW5
        obtain ⟨_, p0, p1, p2, p3, p4⟩ := HGB.out.on hb05
        go_wp2_with fail
        with_reducible refine (HPI.out _ _ _ (hT.below (th hb0 hb05)) (hin3.on gotR_fine hb35)).mono ?_
        rintro e w6 ⟨rfl, hb6⟩
        have hp6 : Sl homR 3 w6 (Old w6) none 0 0 noAnc.homes := Sl.nil_ _
        obtain ⟨W7, hW7⟩ : ∃ W7, W7 = w6.alloc (.cells #[.int .i64 0, .int .i64 0, .int .i64 0, .int .i64 0, .int .i64 0, .string ⟨#[]⟩, .slice none 0 0] 26) := ⟨_, rfl⟩
        have hE7 : Below w6.heap.size w6 W7 := by rw [hW7]; exact alloc_below _ _
        have hN7 : w6.heap.size < W7.heap.size := by rw [hW7]; simp
        have hv7 : Sev W7 w6.heap.size (.int .i64 0) (.int .i64 0) (.int .i64 0) (.int .i64 0) (.int .i64 0) (.string ⟨#[]⟩) (.slice none 0 0) := by rw [hW7]; exact Sev.new rfl (Below.refl _ _)
        have HVP := hide hv7
        have hp7 := hp6.on homR_fine hE7
        have hb57 := th hb6 hE7
        have hb07 := th hb05 hb57
        clear hv7 p0 p1 p2 p3 p4
        go_upto_region 6 with fail
        rw [← hW7]
        clear hW7
        obtain ⟨_, p0, p1, p2, p3, p4⟩ := HGB.out.on hb07
        obtain ⟨q0, q1, q2, q3, q4, q5, q6⟩ := HSV.out.onB hN2 hb07
        go_wp2_with fail
        with_reducible refine (HCE.out _ (hT.below (th hb0 hb07)) (ha0.on homR_fine hb07)).mono ?_
        rintro e w8 ⟨rfl, hb8⟩
        obtain ⟨W9, hW9⟩ : ∃ W9, W9 = w8.alloc (.cells #[.int .i64 0, .int .i64 0, .int .i64 0, .int .i64 0, .int .i64 0, .string ⟨#[]⟩, .slice none 0 0] 26) := ⟨_, rfl⟩
        have hE9 : Below w8.heap.size w8 W9 := by rw [hW9]; exact alloc_below _ _
        have hN9 : w8.heap.size < W9.heap.size := by rw [hW9]; simp
        have hv9 : Sev W9 w8.heap.size (.int .i64 0) (.int .i64 0) (.int .i64 0) (.int .i64 0) (.int .i64 0) (.string ⟨#[]⟩) (.slice none 0 0) := by rw [hW9]; exact Sev.new rfl (Below.refl _ _)
        have HVN := hide hv9
        have hb79 := th hb8 hE9
        have hb59 := th hb57 hb79
        have hb39 := th hb35 hb59
        have hb09 := th hb03 hb39
        clear hv9 p0 p1 p2 p3 p4
        clear q0 q1 q2 q3 q4 q5 q6
        go_upto_region 8 with fail
        rw [← hW9]
        clear hW9
        go_wp2_with fail
        with_reducible refine (HKG.out _ _ _ (hin3.on gotR_fine hb39) (hl0.on gotR_fine hb09)).mono ?_
        rintro e w10 ⟨rfl, hq10⟩
        have hb910 : Below W9.heap.size W9 w10 := by obtain ⟨q, rfl⟩ := hq10; exact drewN_below _ q
        clear hq10
        have hb010 := th hb09 hb910
        obtain ⟨_, p0, p1, p2, p3, p4⟩ := HGB.out.on hb010
        go_wp2_with fail
        with_reducible refine (HGE.out _).mono ?_
        rintro e w11 ⟨rfl, hb11⟩
        have hb911 := th hb910 hb11
        have hb011 := th hb010 hb11
        clear p0 p1 p2 p3 p4
        obtain ⟨_, p0, p1, p2, p3, p4⟩ := HGB.out.on hb011
        obtain ⟨x0, x1⟩ := HXB.out _ hb011
        go_wp2_with fail
        with_reducible refine (HRS.out _ (hx0.on byteR_fine hb011)).mono ?_
        rintro e w12 ⟨hb12, V12, m12, c12, rfl, hs12⟩
        obtain ⟨W13, hW13⟩ : ∃ W13, W13 = w12.alloc (.cells #[.int .i64 0, .int .i64 0, .int .i64 0, .int .i64 0, .int .i64 0, .string ⟨#[]⟩, .slice V12 m12 c12] 26) := ⟨_, rfl⟩
        have hE13 : Below w12.heap.size w12 W13 := by rw [hW13]; exact alloc_below _ _
        have hN13 : w12.heap.size < W13.heap.size := by rw [hW13]; simp
        have hv13 : Sev W13 w12.heap.size (.int .i64 0) (.int .i64 0) (.int .i64 0) (.int .i64 0) (.int .i64 0) (.string ⟨#[]⟩) (.slice V12 m12 c12) := by rw [hW13]; exact Sev.new rfl (Below.refl _ _)
        have hf13 : ∀ k, W13.frozen? ⟨w12.heap.size, k, none⟩ = false := fun k => by rw [hW13]; exact box_free (Below.refl _ _) k
        have hb913 := th hb911 (th hb12 hE13)
        have hb013 := th hb011 (th hb12 hE13)
        have hw13 := (hs12.old_ homR_fine).on homR_fine hE13
        clear p0 p1 p2 p3 p4
        clear x0 x1
        go_upto_region 13 with fail
        rw [← hW13]
        clear hW13
        have hpu := put7_sev hv13 (.int .i64 0) (.int .i64 0) (.int .i64 0) (.int .i64 0) (.int .i64 0) (.string ⟨#[]⟩) (.slice none 0 0)
        have hpb := put7_below (Below.refl W13.heap.size W13) (show W13.heap.size ≤ W13.heap.size from Nat.le_refl _) (.int .i64 0) (.int .i64 0) (.int .i64 0) (.int .i64 0) (.int .i64 0) (.string ⟨#[]⟩) (.slice none 0 0)
        obtain ⟨W14, hW14⟩ : ∃ W14, W14 = put7 W13 w12.heap.size (.int .i64 0) (.int .i64 0) (.int .i64 0) (.int .i64 0) (.int .i64 0) (.string ⟨#[]⟩) (.slice none 0 0) := ⟨_, rfl⟩
        have hb1314 : Below w12.heap.size w12 W14 := by rw [hW14]; exact put7_below hE13 (Nat.le_refl _) _ _ _ _ _ _ _
        have hN14 : w12.heap.size < W14.heap.size := Nat.lt_of_lt_of_le hN13 (by rw [hW14]; unfold put7; simp only [set_size]; exact Nat.le_refl _)
        have HVT : Hid (Sev W14 w12.heap.size (.int .i64 0) (.int .i64 0) (.int .i64 0) (.int .i64 0) (.int .i64 0) (.string ⟨#[]⟩) (.slice none 0 0)) := hide (by rw [hW14]; exact hpu)
        have hb914 := th hb911 (th hb12 hb1314)
        have hb014 := th hb011 (th hb12 hb1314)
        have g0 := hf13 0
        have g1 := hf13 1
        have g2 := hf13 2
        have g3 := hf13 3
        have g4 := hf13 4
        have g5 := hf13 5
        have g6 := hf13 6
        obtain ⟨t0, t1, t2, t3, t4, t5, t6⟩ := hv13
        unfold put7 at hW14
        clear hpu hpb hf13
        obtain ⟨n0, n1, n2, n3, n4, n5, n6⟩ := HVN.out.on hN9 hb913
        go_upto_region 15 with fail
        rw [← hW14]
        clear hW14 t0 t1 t2 t3 t4 t5 t6 g0 g1 g2 g3 g4 g5 g6 n0 n1 n2 n3 n4 n5 n6
        obtain ⟨t0, t1, t2, t3, t4, t5, t6⟩ := HVT.out
        obtain ⟨s0, s1, s2, s3, s4, s5, s6⟩ := HVS.out.on hN5 (th hb59 hb914)
        go_wp2_with fail
        with_reducible refine (HNN.out _ _ _ _ (hs5.on homR_fine (th hb59 hb914))).mono ?_
        rintro e w15 ⟨rfl, hb15⟩
        have hb914 := th hb914 hb15
        have hb014 := th hb014 hb15
        clear t0 t1 t2 t3 t4 t5 t6
        clear s0 s1 s2 s3 s4 s5 s6
        obtain ⟨_, p0, p1, p2, p3, p4⟩ := HGB.out.on hb014
        obtain ⟨r0, r1, r2, r3, r4, r5, r6⟩ := HVP.out.on hN7 (th hb79 hb914)
        obtain ⟨n0, n1, n2, n3, n4, n5, n6⟩ := HVN.out.on hN9 hb914
        go_wp2_with fail
        with_reducible refine (HNN.out _ _ _ _ (hp7.on homR_fine (th hb79 hb914))).mono ?_
        rintro e w16 ⟨rfl, hb16⟩
        have hb916 := th hb914 hb16
        have hb016 := th hb014 hb16
        clear r0 r1 r2 r3 r4 r5 r6
        clear n0 n1 n2 n3 n4 n5 n6
        clear p0 p1 p2 p3 p4
        obtain ⟨_, p0, p1, p2, p3, p4⟩ := HGB.out.on hb016
        obtain ⟨q0, q1, q2, q3, q4, q5, q6⟩ := HSV.out.onB hN2 hb016
        go_wp2_with fail
        with_reducible refine (HRA.out _ (ha0.on homR_fine hb016)).mono ?_
        rintro e w17 ⟨rfl, hb17⟩
        have hb917 := th hb916 hb17
        have hb017 := th hb016 hb17
        clear p0 p1 p2 p3 p4
        clear q0 q1 q2 q3 q4 q5 q6
        obtain ⟨_, p0, p1, p2, p3, p4⟩ := HGB.out.on hb017
        go_wp2_with fail
        with_reducible refine (wakes09 _ (hT.below (th hb0 hb017))).mono ?_
        rintro e w30 ⟨rfl, hb30⟩
        go_wp2_with fail
        go_ret
        exact ⟨rfl, th hb0 (th hb017 hb30)⟩
  · rw [decide_eq_false hok] at HRA
    clear hck hok
    rcases hadr with hadr | hadr
    all_goals
      have adn : ¬ addr < 0 ∨ addr < 0 := by omega
      first
        | (have ad0 : ¬ addr < 0 := by omega; skip)
        | skip
      go_enter Tryd.func12, Tryd.ntmps12
      go_upto_region 1 with fail
      rw [← hW0]
      clear hW0
      go_wp2_with fail
      with_reducible refine (HHV.out _ hl0).mono ?_
      rintro e w1 ⟨rfl, rfl⟩
      obtain ⟨x0, x1⟩ := HXB.out _ (Below.refl _ _)
      obtain ⟨W1, hW1⟩ : ∃ W1, W1 = W0.alloc (.cells #[.int .i64 x.err, .slice B nb cb] 78) := ⟨_, rfl⟩
      have hE1 : Below W0.heap.size W0 W1 := by rw [hW1]; exact alloc_below _ _
      have hlx : Sl gotR 2 W1 (Old W1) (some ⟨W0.heap.size, 0, none⟩) 1 1 [x] := by rw [hW1]; exact lit_got1 _ rfl hx0 hxe
      go_wp2_with fail
      rw [← hW1]
      clear hW1 x0 x1
      with_reducible refine (HHX.out _ _ hlx).mono ?_
      rintro e w1 ⟨rfl, rfl⟩
      obtain ⟨q0, q1, q2, q3, q4, q5, q6⟩ := HSV.out.onB hN2 hE1
      go_wp2_with fail
      with_reducible refine (HHA.out _ (ha0.on homR_fine hE1)).mono ?_
      rintro e w2 ⟨rfl, hb2⟩
      have hb02 := th hE1 hb2
      clear q0 q1 q2 q3 q4 q5 q6
      go_wp2_with fail
      with_reducible refine (HKT.out _ (hl0.on gotR_fine hb02)).mono ?_
      rintro e w3 ⟨hb3, VI, ci, rfl, hin3⟩
      have hb03 := th hb02 hb3
      obtain ⟨_, p0, p1, p2, p3, p4⟩ := HGB.out.on hb03
      obtain ⟨x0, x1⟩ := HXB.out _ hb03
      go_wp2_with fail
      with_reducible refine (HSY.out _ (hT.below (th hb0 hb03)) (hx0.on byteR_fine hb03)).mono ?_
      rintro e w4 ⟨hb4, V4, m4, c4, rfl, hs4⟩
      obtain ⟨W5, hW5⟩ : ∃ W5, W5 = w4.alloc (.cells #[.int .i64 0, .int .i64 0, .int .i64 0, .int .i64 0, .int .i64 0, .string ⟨#[]⟩, .slice V4 m4 c4] 26) := ⟨_, rfl⟩
      have hE5 : Below w4.heap.size w4 W5 := by rw [hW5]; exact alloc_below _ _
      have hN5 : w4.heap.size < W5.heap.size := by rw [hW5]; simp
      have hv5 : Sev W5 w4.heap.size (.int .i64 0) (.int .i64 0) (.int .i64 0) (.int .i64 0) (.int .i64 0) (.string ⟨#[]⟩) (.slice V4 m4 c4) := by rw [hW5]; exact Sev.new rfl (Below.refl _ _)
      have HVS := hide hv5
      have hs5 := hs4.on homR_fine hE5
      have hb35 := th hb4 hE5
      have hb05 := th hb03 hb35
      clear hv5 p0 p1 p2 p3 p4
      clear x0 x1
      go_upto_region 5 with fail
      rw [← hW5]
      clear hW5
      obtain ⟨_, p0, p1, p2, p3, p4⟩ := HGB.out.on hb05
      go_wp2_with fail
      with_reducible refine (HPI.out _ _ _ (hT.below (th hb0 hb05)) (hin3.on gotR_fine hb35)).mono ?_
      rintro e w6 ⟨rfl, hb6⟩
      have hp6 : Sl homR 3 w6 (Old w6) none 0 0 noAnc.homes := Sl.nil_ _
      obtain ⟨W7, hW7⟩ : ∃ W7, W7 = w6.alloc (.cells #[.int .i64 0, .int .i64 0, .int .i64 0, .int .i64 0, .int .i64 0, .string ⟨#[]⟩, .slice none 0 0] 26) := ⟨_, rfl⟩
      have hE7 : Below w6.heap.size w6 W7 := by rw [hW7]; exact alloc_below _ _
      have hN7 : w6.heap.size < W7.heap.size := by rw [hW7]; simp
      have hv7 : Sev W7 w6.heap.size (.int .i64 0) (.int .i64 0) (.int .i64 0) (.int .i64 0) (.int .i64 0) (.string ⟨#[]⟩) (.slice none 0 0) := by rw [hW7]; exact Sev.new rfl (Below.refl _ _)
      have HVP := hide hv7
      have hp7 := hp6.on homR_fine hE7
      have hb57 := th hb6 hE7
      have hb07 := th hb05 hb57
      clear hv7 p0 p1 p2 p3 p4
      go_upto_region 6 with fail
      rw [← hW7]
      clear hW7
      obtain ⟨_, p0, p1, p2, p3, p4⟩ := HGB.out.on hb07
      obtain ⟨q0, q1, q2, q3, q4, q5, q6⟩ := HSV.out.onB hN2 hb07
      go_wp2_with fail
      with_reducible refine (HCE.out _ (hT.below (th hb0 hb07)) (ha0.on homR_fine hb07)).mono ?_
      rintro e w8 ⟨rfl, hb8⟩
      obtain ⟨W9, hW9⟩ : ∃ W9, W9 = w8.alloc (.cells #[.int .i64 0, .int .i64 0, .int .i64 0, .int .i64 0, .int .i64 0, .string ⟨#[]⟩, .slice none 0 0] 26) := ⟨_, rfl⟩
      have hE9 : Below w8.heap.size w8 W9 := by rw [hW9]; exact alloc_below _ _
      have hN9 : w8.heap.size < W9.heap.size := by rw [hW9]; simp
      have hv9 : Sev W9 w8.heap.size (.int .i64 0) (.int .i64 0) (.int .i64 0) (.int .i64 0) (.int .i64 0) (.string ⟨#[]⟩) (.slice none 0 0) := by rw [hW9]; exact Sev.new rfl (Below.refl _ _)
      have HVN := hide hv9
      have hb79 := th hb8 hE9
      have hb59 := th hb57 hb79
      have hb39 := th hb35 hb59
      have hb09 := th hb03 hb39
      clear hv9 p0 p1 p2 p3 p4
      clear q0 q1 q2 q3 q4 q5 q6
      go_upto_region 8 with fail
      rw [← hW9]
      clear hW9
      go_wp2_with fail
      with_reducible refine (HKG.out _ _ _ (hin3.on gotR_fine hb39) (hl0.on gotR_fine hb09)).mono ?_
      rintro e w10 ⟨rfl, hq10⟩
      have hb910 : Below W9.heap.size W9 w10 := by obtain ⟨q, rfl⟩ := hq10; exact drewN_below _ q
      clear hq10
      have hb010 := th hb09 hb910
      obtain ⟨_, p0, p1, p2, p3, p4⟩ := HGB.out.on hb010
      go_wp2_with fail
      with_reducible refine (HGE.out _).mono ?_
      rintro e w11 ⟨rfl, hb11⟩
      have hb911 := th hb910 hb11
      have hb011 := th hb010 hb11
      clear p0 p1 p2 p3 p4
      obtain ⟨_, p0, p1, p2, p3, p4⟩ := HGB.out.on hb011
      obtain ⟨x0, x1⟩ := HXB.out _ hb011
      go_wp2_with fail
      with_reducible refine (HRS.out _ (hx0.on byteR_fine hb011)).mono ?_
      rintro e w12 ⟨hb12, V12, m12, c12, rfl, hs12⟩
      obtain ⟨W13, hW13⟩ : ∃ W13, W13 = w12.alloc (.cells #[.int .i64 0, .int .i64 0, .int .i64 0, .int .i64 0, .int .i64 0, .string ⟨#[]⟩, .slice V12 m12 c12] 26) := ⟨_, rfl⟩
      have hE13 : Below w12.heap.size w12 W13 := by rw [hW13]; exact alloc_below _ _
      have hN13 : w12.heap.size < W13.heap.size := by rw [hW13]; simp
      have hv13 : Sev W13 w12.heap.size (.int .i64 0) (.int .i64 0) (.int .i64 0) (.int .i64 0) (.int .i64 0) (.string ⟨#[]⟩) (.slice V12 m12 c12) := by rw [hW13]; exact Sev.new rfl (Below.refl _ _)
      have hf13 : ∀ k, W13.frozen? ⟨w12.heap.size, k, none⟩ = false := fun k => by rw [hW13]; exact box_free (Below.refl _ _) k
      have hb913 := th hb911 (th hb12 hE13)
      have hb013 := th hb011 (th hb12 hE13)
      have hw13 := (hs12.old_ homR_fine).on homR_fine hE13
      clear p0 p1 p2 p3 p4
      clear x0 x1
      go_upto_region 13 with fail
      rw [← hW13]
      clear hW13
      have hpu := put7_sev hv13 (.int .i64 0) (.int .i64 0) (.int .i64 0) (.int .i64 0) (.int .i64 0) (.string ⟨#[]⟩) (.slice none 0 0)
      have hpb := put7_below (Below.refl W13.heap.size W13) (show W13.heap.size ≤ W13.heap.size from Nat.le_refl _) (.int .i64 0) (.int .i64 0) (.int .i64 0) (.int .i64 0) (.int .i64 0) (.string ⟨#[]⟩) (.slice none 0 0)
      obtain ⟨W14, hW14⟩ : ∃ W14, W14 = put7 W13 w12.heap.size (.int .i64 0) (.int .i64 0) (.int .i64 0) (.int .i64 0) (.int .i64 0) (.string ⟨#[]⟩) (.slice none 0 0) := ⟨_, rfl⟩
      have hb1314 : Below w12.heap.size w12 W14 := by rw [hW14]; exact put7_below hE13 (Nat.le_refl _) _ _ _ _ _ _ _
      have hN14 : w12.heap.size < W14.heap.size := Nat.lt_of_lt_of_le hN13 (by rw [hW14]; unfold put7; simp only [set_size]; exact Nat.le_refl _)
      have HVT : Hid (Sev W14 w12.heap.size (.int .i64 0) (.int .i64 0) (.int .i64 0) (.int .i64 0) (.int .i64 0) (.string ⟨#[]⟩) (.slice none 0 0)) := hide (by rw [hW14]; exact hpu)
      have hb914 := th hb911 (th hb12 hb1314)
      have hb014 := th hb011 (th hb12 hb1314)
      have g0 := hf13 0
      have g1 := hf13 1
      have g2 := hf13 2
      have g3 := hf13 3
      have g4 := hf13 4
      have g5 := hf13 5
      have g6 := hf13 6
      obtain ⟨t0, t1, t2, t3, t4, t5, t6⟩ := hv13
      unfold put7 at hW14
      clear hpu hpb hf13
      obtain ⟨n0, n1, n2, n3, n4, n5, n6⟩ := HVN.out.on hN9 hb913
      go_upto_region 15 with fail
      rw [← hW14]
      clear hW14 t0 t1 t2 t3 t4 t5 t6 g0 g1 g2 g3 g4 g5 g6 n0 n1 n2 n3 n4 n5 n6
      obtain ⟨t0, t1, t2, t3, t4, t5, t6⟩ := HVT.out
      obtain ⟨s0, s1, s2, s3, s4, s5, s6⟩ := HVS.out.on hN5 (th hb59 hb914)
      go_wp2_with fail
      with_reducible refine (HNN.out _ _ _ _ (hs5.on homR_fine (th hb59 hb914))).mono ?_
      rintro e w15 ⟨rfl, hb15⟩
      have hb914 := th hb914 hb15
      have hb014 := th hb014 hb15
      clear t0 t1 t2 t3 t4 t5 t6
      clear s0 s1 s2 s3 s4 s5 s6
      obtain ⟨_, p0, p1, p2, p3, p4⟩ := HGB.out.on hb014
      obtain ⟨r0, r1, r2, r3, r4, r5, r6⟩ := HVP.out.on hN7 (th hb79 hb914)
      obtain ⟨n0, n1, n2, n3, n4, n5, n6⟩ := HVN.out.on hN9 hb914
      go_wp2_with fail
      with_reducible refine (HNN.out _ _ _ _ (hp7.on homR_fine (th hb79 hb914))).mono ?_
      rintro e w16 ⟨rfl, hb16⟩
      have hb916 := th hb914 hb16
      have hb016 := th hb014 hb16
      clear r0 r1 r2 r3 r4 r5 r6
      clear n0 n1 n2 n3 n4 n5 n6
      clear p0 p1 p2 p3 p4
      obtain ⟨_, p0, p1, p2, p3, p4⟩ := HGB.out.on hb016
      obtain ⟨q0, q1, q2, q3, q4, q5, q6⟩ := HSV.out.onB hN2 hb016
      go_wp2_with fail
      with_reducible refine (HRA.out _ (ha0.on homR_fine hb016)).mono ?_
      rintro e w17 ⟨rfl, hb17⟩
      have hb917 := th hb916 hb17
      have hb017 := th hb016 hb17
      clear p0 p1 p2 p3 p4
      clear q0 q1 q2 q3 q4 q5 q6
      obtain ⟨_, p0, p1, p2, p3, p4⟩ := HGB.out.on hb017
      go_wp2_with fail
      with_reducible refine (wakes09 _ (hT.below (th hb0 hb017))).mono ?_
      rintro e w30 ⟨rfl, hb30⟩
      go_wp2_with fail
      go_ret
      exact ⟨rfl, th hb0 (th hb017 hb30)⟩

set_option maxHeartbeats 16000000 in
theorem ne_0none1 {w : World} (hT : Tabs w) (g : Geo) (a : Anc) (x : Gt) (A B D : Option Addr) (n c nb cb na ca : Nat) (L : List Gt) (addr i : Int) (hl : Sl gotR 2 w (Old w) A n c L) (hxe : InI x.err) (hx : Bs w B nb cb x.bytes) (ha : Sl homR 3 w (Old w) D na ca a.homes) (hin : a.In) (hi : InI i) (HH1 : heavyG L = false) (HH2 : nb ≤ 300) (HH3 : heavyA a = false) (hg : GeoOk g) (had : ¬ (0 ≤ addr ∧ addr ≤ 65535)) (hln : (n : Int) = g.anchors) (hpk : (pickN g L n).2.2 = false) (hck : AncOk g a ∧ 0 ≤ i ∧ i ≤ g.anchors - 1) :
    Calls Tryd.prog 12 #[g.v, .slice A n c, .agg #[.int .i64 x.err, .slice B nb cb], .int .i64 addr, a.v (.slice D na ca), .int .i64 i] w fun e w' => e = .returned (.bool true) ∧ Below w.heap.size w w' := by
  have HHV := hide fun w h => heavyg_any A n c L w h
  have HHX := hide fun N (w : World) (h : Sl gotR 2 w (Old w) (some ⟨N, 0, none⟩) 1 1 [x]) => heavyg_any (some ⟨N, 0, none⟩) 1 1 [x] w h
  have hxl := hx.len
  rw [heavyG_ok (L := [x]) (by show 1 ≤ 80; omega) (fun j y hj hy => by have := List.mem_of_getElem? hy; simp at this; subst this; omega)] at HHX
  rw [HH1] at HHV
  have HHA := hide fun w h => heavya_any a D na ca w h
  rw [HH3] at HHA
  have HL := hide (heavyA_light HH3)
  have HGL := hide (heavyG_no HH1)
  have hn80 : n ≤ 80 := by have := HGL.out.1; have := hl.len; omega
  have HKT := hide fun w h => katg_any A n c L w h (by omega) (fun y hy => by have := HGL.out.2 y hy; omega)
  have HKG := hide fun (V : Option Addr) (q : Nat) (w : World) (h : Sl gotR 2 w (Old w) V n q L) (h2 : Sl gotR 2 w (Old w) A n c L) => gots_true V A n q c L w h h2 (by omega) (fun y hy => by have := HGL.out.2 y hy; omega)
  have HSY := hide fun w hT h => nsays_sym g x.err B nb cb x.bytes addr w hT h (by omega)
  have HGE := hide fun w => rgeo_any g w
  rw [decide_eq_true hg] at HGE
  have HNN := hide fun (V : Option Addr) (m q : Nat) (w : World) (h : Sl homR 3 w (Old w) V m q noAnc.homes) => keepa_same9 (x := noAnc) (B := none) (m := 0) (d := 0) h (Sl.nil_ _) no_light
  obtain ⟨W0, hW0⟩ : ∃ W0, W0 = ((w.alloc (.cells #[.int .i64 g.zones, .int .i64 g.data, .int .i64 g.spares, .int .i64 g.slots, .int .i64 g.anchors] 23)).alloc (.cells #[.int .i64 x.err, .slice B nb cb] 78)).alloc (.cells #[.int .i64 a.gen, .int .i64 a.epoch, .int .i64 a.pos, .int .i64 a.seq, .int .i64 a.last, .string a.label, .slice D na ca] 26) := ⟨_, rfl⟩
  have hb0 : Below w.heap.size w W0 := by rw [hW0]; exact ((alloc_below w _).alloc (by simp) _).alloc (by simp; omega) _
  have hl0 := hl.on gotR_fine hb0
  have hx0 := hx.on byteR_fine hb0
  have ha0 := ha.on homR_fine hb0
  have hgb : GeoAt W0 w.heap.size g := by rw [hW0]; exact (GeoAt.new w g 23).on ((alloc_below _ _).alloc (by simp) _)
  have hxb : ∀ W, Below W0.heap.size W0 W → W.cell? ⟨w.heap.size + 1, 0, none⟩ = some (.int .i64 x.err) ∧ W.cell? ⟨w.heap.size + 1, 1, none⟩ = some (.slice B nb cb) := fun W hW => by
    have h0 : W0.cell? ⟨w.heap.size + 1, 0, none⟩ = some (.int .i64 x.err) ∧ W0.cell? ⟨w.heap.size + 1, 1, none⟩ = some (.slice B nb cb) := by
      rw [hW0]
      exact ⟨bx_at2 (by simp) (alloc_below _ _) 0 _ rfl, bx_at2 (by simp) (alloc_below _ _) 1 _ rfl⟩
    have hs : w.heap.size + 1 < W0.heap.size := by rw [hW0]; simp
    exact ⟨(hW.cell (p := ⟨w.heap.size + 1, 0, none⟩) hs).trans h0.1, (hW.cell (p := ⟨w.heap.size + 1, 1, none⟩) hs).trans h0.2⟩
  have hsv : Sev W0 (w.heap.size + 1 + 1) (.int .i64 a.gen) (.int .i64 a.epoch) (.int .i64 a.pos) (.int .i64 a.seq) (.int .i64 a.last) (.string a.label) (.slice D na ca) := by rw [hW0]; exact Sev.new (by simp) (Below.refl _ _)
  have hN2 : w.heap.size + 1 + 1 < W0.heap.size := by rw [hW0]; simp
  have HSV := hide hsv
  have HGB := hide hgb
  have HXB := hide hxb
  clear hgb hxb hsv hl hx ha HH1 HH3 hxl
  have HSL := hide (says_light g x.err x.bytes addr)
  obtain ⟨SA, hSA⟩ : ∃ SA, SA = sA (saysN g x.err x.bytes addr) := ⟨_, rfl⟩
  obtain ⟨SR, hSR⟩ : ∃ SR, SR = sR (saysN g x.err x.bytes addr) := ⟨_, rfl⟩
  rw [← hSA, ← hSR] at HSY
  rw [← hSA] at HSL
  have HRS := hide fun w h => rsays_any g hg x.err B nb cb x.bytes addr w h (by omega)
  rw [← hSA, ← hSR] at HRS
  have hnone : saysN g x.err x.bytes addr = none := if_neg fun h => had h.2.1
  rw [hnone] at hSA hSR
  obtain rfl : SA = noAnc := hSA
  obtain rfl : SR = false := hSR
  have hadr : addr < 0 ∨ 65535 < addr := by omega
  clear hnone
  have HPI0 := fun (V : Option Addr) (q : Nat) (w : World) (hT : Tabs w) (h : Sl gotR 2 w (Old w) V n q L) => npick_yes g hg V n q L w hT h hln (fun y hy => by have := HGL.out.2 y hy; omega)
  have HNW0 := fun w h => rnewest_any g hg A n c L w h (by omega) (fun y hy => by have := HGL.out.2 y hy; omega)
  have hln1 : ((n : Int) != g.anchors) = false := by simpa using hln
  have HLNE := hide hln
  have HPL := hide (pick_light g L n)
  have hpn : pickN g L n = (noAnc, 0, false) := pick_none hpk
  have hpe : pickE g L n = 11 := by unfold pickE; rw [hpn]; rfl
  have hpq : pickK g L n = -1 := by unfold pickK; rw [hpn]; rfl
  simp only [hpn, hpe] at HPI0
  simp only [hpn, hpq] at HNW0
  have HPI := hide HPI0
  have HNW := hide HNW0
  clear HPI0 HNW0 hpn hpe hpq hpk hln
  obtain ⟨ii, rfl⟩ : ∃ ii : Nat, i = (ii : Int) := ⟨i.toNat, by omega⟩
  have hga := hg.2.2.2.2
  have HCE := hide fun w hT h => ncell_yes g a D na ca ii w hT h hin HL.out ⟨hg, hck.1, hck.2.1, hck.2.2⟩
  have HRC := hide fun w h => rancell_yes hg hck.1 (i := ii) (by omega) (A := D) (n := na) (c := ca) (w := w) h
  have HRA := hide fun w h => ranchor_any g hg a D na ca w h hin HL.out
  rw [decide_eq_true hck.1] at HRA
  have i0 : ¬ (ii : Int) < 0 := by omega
  have i1 : ¬ g.anchors ≤ (ii : Int) := by omega
  obtain ⟨M, hM⟩ : ∃ M, M = (ancL a).length + 11 := ⟨_, rfl⟩
  have hM9 : M ≤ 200 := by have := (anc_room hg hck.1).2; omega
  obtain ⟨CB, hCB⟩ : ∃ CB, CB = sealL ii a.gen.toNat (ancL a) := ⟨_, rfl⟩
  rw [← hM, ← hCB] at HCE HRC
  have HBB := hide fun (V U : Option Addr) (q u : Nat) (w : World) (h : Bs w V M q CB) (h2 : Bs w U M u CB) => (bytes_any V U M q M u CB CB w h h2 (by omega)).mono (fun e w' (hh : e = .returned (.bool (decide (CB = CB))) ∧ ∃ q, w' = w.drewN q) => (⟨by rw [hh.1, decide_eq_true rfl], by obtain ⟨_, q, rfl⟩ := hh; exact drewN_below _ q⟩ : e = .returned (.bool true) ∧ Below w.heap.size w w'))
  clear hM hCB hga hck hi
  clear hin HH2
  unfold Geo.v at *
  unfold Anc.v at *
  unfold noAnc at *
  dsimp only at *
  rcases hadr with hadr | hadr
  all_goals
    have adn : ¬ addr < 0 ∨ addr < 0 := by omega
    first
      | (have ad0 : ¬ addr < 0 := by omega; skip)
      | skip
    go_enter Tryd.func12, Tryd.ntmps12
    go_upto_region 1 with fail
    rw [← hW0]
    clear hW0
    go_wp2_with fail
    with_reducible refine (HHV.out _ hl0).mono ?_
    rintro e w1 ⟨rfl, rfl⟩
    obtain ⟨x0, x1⟩ := HXB.out _ (Below.refl _ _)
    obtain ⟨W1, hW1⟩ : ∃ W1, W1 = W0.alloc (.cells #[.int .i64 x.err, .slice B nb cb] 78) := ⟨_, rfl⟩
    have hE1 : Below W0.heap.size W0 W1 := by rw [hW1]; exact alloc_below _ _
    have hlx : Sl gotR 2 W1 (Old W1) (some ⟨W0.heap.size, 0, none⟩) 1 1 [x] := by rw [hW1]; exact lit_got1 _ rfl hx0 hxe
    go_wp2_with fail
    rw [← hW1]
    clear hW1 x0 x1
    with_reducible refine (HHX.out _ _ hlx).mono ?_
    rintro e w1 ⟨rfl, rfl⟩
    obtain ⟨q0, q1, q2, q3, q4, q5, q6⟩ := HSV.out.onB hN2 hE1
    go_wp2_with fail
    with_reducible refine (HHA.out _ (ha0.on homR_fine hE1)).mono ?_
    rintro e w2 ⟨rfl, hb2⟩
    have hb02 := th hE1 hb2
    clear q0 q1 q2 q3 q4 q5 q6
    go_wp2_with fail
    with_reducible refine (HKT.out _ (hl0.on gotR_fine hb02)).mono ?_
    rintro e w3 ⟨hb3, VI, ci, rfl, hin3⟩
    have hb03 := th hb02 hb3
    obtain ⟨_, p0, p1, p2, p3, p4⟩ := HGB.out.on hb03
    obtain ⟨x0, x1⟩ := HXB.out _ hb03
    go_wp2_with fail
    with_reducible refine (HSY.out _ (hT.below (th hb0 hb03)) (hx0.on byteR_fine hb03)).mono ?_
    rintro e w4 ⟨hb4, V4, m4, c4, rfl, hs4⟩
    obtain ⟨W5, hW5⟩ : ∃ W5, W5 = w4.alloc (.cells #[.int .i64 0, .int .i64 0, .int .i64 0, .int .i64 0, .int .i64 0, .string ⟨#[]⟩, .slice V4 m4 c4] 26) := ⟨_, rfl⟩
    have hE5 : Below w4.heap.size w4 W5 := by rw [hW5]; exact alloc_below _ _
    have hN5 : w4.heap.size < W5.heap.size := by rw [hW5]; simp
    have hv5 : Sev W5 w4.heap.size (.int .i64 0) (.int .i64 0) (.int .i64 0) (.int .i64 0) (.int .i64 0) (.string ⟨#[]⟩) (.slice V4 m4 c4) := by rw [hW5]; exact Sev.new rfl (Below.refl _ _)
    have HVS := hide hv5
    have hs5 := hs4.on homR_fine hE5
    have hb35 := th hb4 hE5
    have hb05 := th hb03 hb35
    clear hv5 p0 p1 p2 p3 p4
    clear x0 x1
    go_upto_region 5 with fail
    rw [← hW5]
    clear hW5
    obtain ⟨_, p0, p1, p2, p3, p4⟩ := HGB.out.on hb05
    go_wp2_with fail
    with_reducible refine (HPI.out _ _ _ (hT.below (th hb0 hb05)) (hin3.on gotR_fine hb35)).mono ?_
    rintro e w6 ⟨hb6, V6, m6, c6, rfl, hp6⟩
    obtain ⟨W7, hW7⟩ : ∃ W7, W7 = w6.alloc (.cells #[.int .i64 0, .int .i64 0, .int .i64 0, .int .i64 0, .int .i64 0, .string ⟨#[]⟩, .slice V6 m6 c6] 26) := ⟨_, rfl⟩
    have hE7 : Below w6.heap.size w6 W7 := by rw [hW7]; exact alloc_below _ _
    have hN7 : w6.heap.size < W7.heap.size := by rw [hW7]; simp
    have hv7 : Sev W7 w6.heap.size (.int .i64 0) (.int .i64 0) (.int .i64 0) (.int .i64 0) (.int .i64 0) (.string ⟨#[]⟩) (.slice V6 m6 c6) := by rw [hW7]; exact Sev.new rfl (Below.refl _ _)
    have HVP := hide hv7
    have hp7 := hp6.on homR_fine hE7
    have hb57 := th hb6 hE7
    have hb07 := th hb05 hb57
    clear hv7 p0 p1 p2 p3 p4
    go_upto_region 6 with fail
    rw [← hW7]
    clear hW7
    obtain ⟨_, p0, p1, p2, p3, p4⟩ := HGB.out.on hb07
    obtain ⟨q0, q1, q2, q3, q4, q5, q6⟩ := HSV.out.onB hN2 hb07
    go_wp2_with fail
    with_reducible refine (HCE.out _ (hT.below (th hb0 hb07)) (ha0.on homR_fine hb07)).mono ?_
    rintro e w8 ⟨V8, c8, rfl, ho8, hb8⟩
    have hc8 := ho8.read byteR_fine
    obtain ⟨W9, hW9⟩ : ∃ W9, W9 = w8.alloc (.cells #[.int .i64 0, .int .i64 0, .int .i64 0, .int .i64 0, .int .i64 0, .string ⟨#[]⟩, .slice none 0 0] 26) := ⟨_, rfl⟩
    have hE9 : Below w8.heap.size w8 W9 := by rw [hW9]; exact alloc_below _ _
    have hN9 : w8.heap.size < W9.heap.size := by rw [hW9]; simp
    have hv9 : Sev W9 w8.heap.size (.int .i64 0) (.int .i64 0) (.int .i64 0) (.int .i64 0) (.int .i64 0) (.string ⟨#[]⟩) (.slice none 0 0) := by rw [hW9]; exact Sev.new rfl (Below.refl _ _)
    have HVN := hide hv9
    have hb79 := th hb8 hE9
    have hb59 := th hb57 hb79
    have hb39 := th hb35 hb59
    have hb09 := th hb03 hb39
    clear hv9 p0 p1 p2 p3 p4
    clear q0 q1 q2 q3 q4 q5 q6
    go_upto_region 8 with fail
    rw [← hW9]
    clear hW9
    go_wp2_with fail
    with_reducible refine (HKG.out _ _ _ (hin3.on gotR_fine hb39) (hl0.on gotR_fine hb09)).mono ?_
    rintro e w10 ⟨rfl, hq10⟩
    have hb910 : Below W9.heap.size W9 w10 := by obtain ⟨q, rfl⟩ := hq10; exact drewN_below _ q
    clear hq10
    have hb010 := th hb09 hb910
    obtain ⟨_, p0, p1, p2, p3, p4⟩ := HGB.out.on hb010
    go_wp2_with fail
    with_reducible refine (HGE.out _).mono ?_
    rintro e w11 ⟨rfl, hb11⟩
    have hb911 := th hb910 hb11
    have hb011 := th hb010 hb11
    clear p0 p1 p2 p3 p4
    obtain ⟨_, p0, p1, p2, p3, p4⟩ := HGB.out.on hb011
    obtain ⟨x0, x1⟩ := HXB.out _ hb011
    go_wp2_with fail
    with_reducible refine (HRS.out _ (hx0.on byteR_fine hb011)).mono ?_
    rintro e w12 ⟨hb12, V12, m12, c12, rfl, hs12⟩
    obtain ⟨W13, hW13⟩ : ∃ W13, W13 = w12.alloc (.cells #[.int .i64 0, .int .i64 0, .int .i64 0, .int .i64 0, .int .i64 0, .string ⟨#[]⟩, .slice V12 m12 c12] 26) := ⟨_, rfl⟩
    have hE13 : Below w12.heap.size w12 W13 := by rw [hW13]; exact alloc_below _ _
    have hN13 : w12.heap.size < W13.heap.size := by rw [hW13]; simp
    have hv13 : Sev W13 w12.heap.size (.int .i64 0) (.int .i64 0) (.int .i64 0) (.int .i64 0) (.int .i64 0) (.string ⟨#[]⟩) (.slice V12 m12 c12) := by rw [hW13]; exact Sev.new rfl (Below.refl _ _)
    have hf13 : ∀ k, W13.frozen? ⟨w12.heap.size, k, none⟩ = false := fun k => by rw [hW13]; exact box_free (Below.refl _ _) k
    have hb913 := th hb911 (th hb12 hE13)
    have hb013 := th hb011 (th hb12 hE13)
    have hw13 := (hs12.old_ homR_fine).on homR_fine hE13
    clear p0 p1 p2 p3 p4
    clear x0 x1
    go_upto_region 13 with fail
    rw [← hW13]
    clear hW13
    have hpu := put7_sev hv13 (.int .i64 0) (.int .i64 0) (.int .i64 0) (.int .i64 0) (.int .i64 0) (.string ⟨#[]⟩) (.slice none 0 0)
    have hpb := put7_below (Below.refl W13.heap.size W13) (show W13.heap.size ≤ W13.heap.size from Nat.le_refl _) (.int .i64 0) (.int .i64 0) (.int .i64 0) (.int .i64 0) (.int .i64 0) (.string ⟨#[]⟩) (.slice none 0 0)
    obtain ⟨W14, hW14⟩ : ∃ W14, W14 = put7 W13 w12.heap.size (.int .i64 0) (.int .i64 0) (.int .i64 0) (.int .i64 0) (.int .i64 0) (.string ⟨#[]⟩) (.slice none 0 0) := ⟨_, rfl⟩
    have hb1314 : Below w12.heap.size w12 W14 := by rw [hW14]; exact put7_below hE13 (Nat.le_refl _) _ _ _ _ _ _ _
    have hN14 : w12.heap.size < W14.heap.size := Nat.lt_of_lt_of_le hN13 (by rw [hW14]; unfold put7; simp only [set_size]; exact Nat.le_refl _)
    have HVT : Hid (Sev W14 w12.heap.size (.int .i64 0) (.int .i64 0) (.int .i64 0) (.int .i64 0) (.int .i64 0) (.string ⟨#[]⟩) (.slice none 0 0)) := hide (by rw [hW14]; exact hpu)
    have hb914 := th hb911 (th hb12 hb1314)
    have hb014 := th hb011 (th hb12 hb1314)
    have g0 := hf13 0
    have g1 := hf13 1
    have g2 := hf13 2
    have g3 := hf13 3
    have g4 := hf13 4
    have g5 := hf13 5
    have g6 := hf13 6
    obtain ⟨t0, t1, t2, t3, t4, t5, t6⟩ := hv13
    unfold put7 at hW14
    clear hpu hpb hf13
    obtain ⟨n0, n1, n2, n3, n4, n5, n6⟩ := HVN.out.on hN9 hb913
    go_upto_region 15 with fail
    rw [← hW14]
    clear hW14 t0 t1 t2 t3 t4 t5 t6 g0 g1 g2 g3 g4 g5 g6 n0 n1 n2 n3 n4 n5 n6
    obtain ⟨t0, t1, t2, t3, t4, t5, t6⟩ := HVT.out
    obtain ⟨s0, s1, s2, s3, s4, s5, s6⟩ := HVS.out.on hN5 (th hb59 hb914)
    go_wp2_with fail
    with_reducible refine (HNN.out _ _ _ _ (hs5.on homR_fine (th hb59 hb914))).mono ?_
    rintro e w15 ⟨rfl, hb15⟩
    have hb914 := th hb914 hb15
    have hb014 := th hb014 hb15
    clear t0 t1 t2 t3 t4 t5 t6
    clear s0 s1 s2 s3 s4 s5 s6
    obtain ⟨_, p0, p1, p2, p3, p4⟩ := HGB.out.on hb014
    go_wp2_with fail
    with_reducible refine (HNW.out _ (hl0.on gotR_fine hb014)).mono ?_
    rintro e w15 ⟨hb15, V16, m16, c16, rfl, hq16⟩
    obtain ⟨W16, hW16⟩ : ∃ W16, W16 = w15.alloc (.cells #[.int .i64 0, .int .i64 0, .int .i64 0, .int .i64 0, .int .i64 0, .string ⟨#[]⟩, .slice V16 m16 c16] 26) := ⟨_, rfl⟩
    have hE16 : Below w15.heap.size w15 W16 := by rw [hW16]; exact alloc_below _ _
    have hv16 : Sev W16 w15.heap.size (.int .i64 0) (.int .i64 0) (.int .i64 0) (.int .i64 0) (.int .i64 0) (.string ⟨#[]⟩) (.slice V16 m16 c16) := by rw [hW16]; exact Sev.new rfl (Below.refl _ _)
    have hq17 := hq16.on homR_fine hE16
    have hb9x := th hb914 (th hb15 hE16)
    have hb0x := th hb014 (th hb15 hE16)
    have HVQ := hide hv16
    clear hv16 p0 p1 p2 p3 p4
    go_upto_region 21 with fail
    rw [← hW16]
    clear hW16
    obtain ⟨r0, r1, r2, r3, r4, r5, r6⟩ := HVP.out.on hN7 (th hb79 hb9x)
    obtain ⟨n0, n1, n2, n3, n4, n5, n6⟩ := HVN.out.on hN9 hb9x
    go_wp2_with fail
    with_reducible refine (HNN.out _ _ _ _ (hp7.on homR_fine (th hb79 hb9x))).mono ?_
    rintro e w16 ⟨rfl, hb16⟩
    clear n0 n1 n2 n3 n4 n5 n6
    have hb916 := th hb9x hb16
    have hb016 := th hb0x hb16
    clear r0 r1 r2 r3 r4 r5 r6
    obtain ⟨_, p0, p1, p2, p3, p4⟩ := HGB.out.on hb016
    obtain ⟨q0, q1, q2, q3, q4, q5, q6⟩ := HSV.out.onB hN2 hb016
    go_wp2_with fail
    with_reducible refine (HRA.out _ (ha0.on homR_fine hb016)).mono ?_
    rintro e w17 ⟨rfl, hb17⟩
    have hb917 := th hb916 hb17
    have hb017 := th hb016 hb17
    clear p0 p1 p2 p3 p4
    clear q0 q1 q2 q3 q4 q5 q6
    obtain ⟨_, p0, p1, p2, p3, p4⟩ := HGB.out.on hb017
    obtain ⟨q0, q1, q2, q3, q4, q5, q6⟩ := HSV.out.onB hN2 hb017
    go_wp2_with fail
    with_reducible refine (HRC.out _ (ha0.on homR_fine hb017)).mono ?_
    rintro e w18 ⟨hb18, V18, c18, rfl, hs18⟩
    have hb018 := th hb017 hb18
    clear p0 p1 p2 p3 p4
    clear q0 q1 q2 q3 q4 q5 q6
    go_wp2_with fail
    with_reducible refine (HBB.out _ _ _ _ _ (hc8.on byteR_fine (th hE9 (th hb917 hb18))) hs18).mono ?_
    rintro e w19 ⟨rfl, hb19⟩
    have hb019 := th hb018 hb19
    go_wp2_with fail
    with_reducible refine (wakes09 _ (hT.below (th hb0 hb019))).mono ?_
    rintro e w30 ⟨rfl, hb30⟩
    go_wp2_with fail
    go_ret
    exact ⟨rfl, th hb0 (th hb019 hb30)⟩

set_option maxHeartbeats 16000000 in
theorem ne_0none0 {w : World} (hT : Tabs w) (g : Geo) (a : Anc) (x : Gt) (A B D : Option Addr) (n c nb cb na ca : Nat) (L : List Gt) (addr i : Int) (hl : Sl gotR 2 w (Old w) A n c L) (hxe : InI x.err) (hx : Bs w B nb cb x.bytes) (ha : Sl homR 3 w (Old w) D na ca a.homes) (hin : a.In) (hi : InI i) (HH1 : heavyG L = false) (HH2 : nb ≤ 300) (HH3 : heavyA a = false) (hg : GeoOk g) (had : ¬ (0 ≤ addr ∧ addr ≤ 65535)) (hln : (n : Int) = g.anchors) (hpk : (pickN g L n).2.2 = false) (hck : ¬ (AncOk g a ∧ 0 ≤ i ∧ i ≤ g.anchors - 1)) :
    Calls Tryd.prog 12 #[g.v, .slice A n c, .agg #[.int .i64 x.err, .slice B nb cb], .int .i64 addr, a.v (.slice D na ca), .int .i64 i] w fun e w' => e = .returned (.bool true) ∧ Below w.heap.size w w' := by
  have HHV := hide fun w h => heavyg_any A n c L w h
  have HHX := hide fun N (w : World) (h : Sl gotR 2 w (Old w) (some ⟨N, 0, none⟩) 1 1 [x]) => heavyg_any (some ⟨N, 0, none⟩) 1 1 [x] w h
  have hxl := hx.len
  rw [heavyG_ok (L := [x]) (by show 1 ≤ 80; omega) (fun j y hj hy => by have := List.mem_of_getElem? hy; simp at this; subst this; omega)] at HHX
  rw [HH1] at HHV
  have HHA := hide fun w h => heavya_any a D na ca w h
  rw [HH3] at HHA
  have HL := hide (heavyA_light HH3)
  have HGL := hide (heavyG_no HH1)
  have hn80 : n ≤ 80 := by have := HGL.out.1; have := hl.len; omega
  have HKT := hide fun w h => katg_any A n c L w h (by omega) (fun y hy => by have := HGL.out.2 y hy; omega)
  have HKG := hide fun (V : Option Addr) (q : Nat) (w : World) (h : Sl gotR 2 w (Old w) V n q L) (h2 : Sl gotR 2 w (Old w) A n c L) => gots_true V A n q c L w h h2 (by omega) (fun y hy => by have := HGL.out.2 y hy; omega)
  have HSY := hide fun w hT h => nsays_sym g x.err B nb cb x.bytes addr w hT h (by omega)
  have HGE := hide fun w => rgeo_any g w
  rw [decide_eq_true hg] at HGE
  have HNN := hide fun (V : Option Addr) (m q : Nat) (w : World) (h : Sl homR 3 w (Old w) V m q noAnc.homes) => keepa_same9 (x := noAnc) (B := none) (m := 0) (d := 0) h (Sl.nil_ _) no_light
  obtain ⟨W0, hW0⟩ : ∃ W0, W0 = ((w.alloc (.cells #[.int .i64 g.zones, .int .i64 g.data, .int .i64 g.spares, .int .i64 g.slots, .int .i64 g.anchors] 23)).alloc (.cells #[.int .i64 x.err, .slice B nb cb] 78)).alloc (.cells #[.int .i64 a.gen, .int .i64 a.epoch, .int .i64 a.pos, .int .i64 a.seq, .int .i64 a.last, .string a.label, .slice D na ca] 26) := ⟨_, rfl⟩
  have hb0 : Below w.heap.size w W0 := by rw [hW0]; exact ((alloc_below w _).alloc (by simp) _).alloc (by simp; omega) _
  have hl0 := hl.on gotR_fine hb0
  have hx0 := hx.on byteR_fine hb0
  have ha0 := ha.on homR_fine hb0
  have hgb : GeoAt W0 w.heap.size g := by rw [hW0]; exact (GeoAt.new w g 23).on ((alloc_below _ _).alloc (by simp) _)
  have hxb : ∀ W, Below W0.heap.size W0 W → W.cell? ⟨w.heap.size + 1, 0, none⟩ = some (.int .i64 x.err) ∧ W.cell? ⟨w.heap.size + 1, 1, none⟩ = some (.slice B nb cb) := fun W hW => by
    have h0 : W0.cell? ⟨w.heap.size + 1, 0, none⟩ = some (.int .i64 x.err) ∧ W0.cell? ⟨w.heap.size + 1, 1, none⟩ = some (.slice B nb cb) := by
      rw [hW0]
      exact ⟨bx_at2 (by simp) (alloc_below _ _) 0 _ rfl, bx_at2 (by simp) (alloc_below _ _) 1 _ rfl⟩
    have hs : w.heap.size + 1 < W0.heap.size := by rw [hW0]; simp
    exact ⟨(hW.cell (p := ⟨w.heap.size + 1, 0, none⟩) hs).trans h0.1, (hW.cell (p := ⟨w.heap.size + 1, 1, none⟩) hs).trans h0.2⟩
  have hsv : Sev W0 (w.heap.size + 1 + 1) (.int .i64 a.gen) (.int .i64 a.epoch) (.int .i64 a.pos) (.int .i64 a.seq) (.int .i64 a.last) (.string a.label) (.slice D na ca) := by rw [hW0]; exact Sev.new (by simp) (Below.refl _ _)
  have hN2 : w.heap.size + 1 + 1 < W0.heap.size := by rw [hW0]; simp
  have HSV := hide hsv
  have HGB := hide hgb
  have HXB := hide hxb
  clear hgb hxb hsv hl hx ha HH1 HH3 hxl
  have HSL := hide (says_light g x.err x.bytes addr)
  obtain ⟨SA, hSA⟩ : ∃ SA, SA = sA (saysN g x.err x.bytes addr) := ⟨_, rfl⟩
  obtain ⟨SR, hSR⟩ : ∃ SR, SR = sR (saysN g x.err x.bytes addr) := ⟨_, rfl⟩
  rw [← hSA, ← hSR] at HSY
  rw [← hSA] at HSL
  have HRS := hide fun w h => rsays_any g hg x.err B nb cb x.bytes addr w h (by omega)
  rw [← hSA, ← hSR] at HRS
  have hnone : saysN g x.err x.bytes addr = none := if_neg fun h => had h.2.1
  rw [hnone] at hSA hSR
  obtain rfl : SA = noAnc := hSA
  obtain rfl : SR = false := hSR
  have hadr : addr < 0 ∨ 65535 < addr := by omega
  clear hnone
  have HPI0 := fun (V : Option Addr) (q : Nat) (w : World) (hT : Tabs w) (h : Sl gotR 2 w (Old w) V n q L) => npick_yes g hg V n q L w hT h hln (fun y hy => by have := HGL.out.2 y hy; omega)
  have HNW0 := fun w h => rnewest_any g hg A n c L w h (by omega) (fun y hy => by have := HGL.out.2 y hy; omega)
  have hln1 : ((n : Int) != g.anchors) = false := by simpa using hln
  have HLNE := hide hln
  have HPL := hide (pick_light g L n)
  have hpn : pickN g L n = (noAnc, 0, false) := pick_none hpk
  have hpe : pickE g L n = 11 := by unfold pickE; rw [hpn]; rfl
  have hpq : pickK g L n = -1 := by unfold pickK; rw [hpn]; rfl
  simp only [hpn, hpe] at HPI0
  simp only [hpn, hpq] at HNW0
  have HPI := hide HPI0
  have HNW := hide HNW0
  clear HPI0 HNW0 hpn hpe hpq hpk hln
  have HCE := hide fun w hT h => ncell_no g a D na ca i hi w hT h hin HL.out (fun h => hck ⟨h.2.1, h.2.2.1, h.2.2.2⟩)
  have HRA := hide fun w h => ranchor_any g hg a D na ca w h hin HL.out
  clear hin HH2
  unfold Geo.v at *
  unfold Anc.v at *
  unfold noAnc at *
  dsimp only at *
  by_cases hok : AncOk g a
  · rw [decide_eq_true hok] at HRA
    have hii : i < 0 ∨ g.anchors ≤ i := by
      by_cases h : i < 0
      · exact .inl h
      · by_cases h2 : i ≤ g.anchors - 1
        · exact absurd ⟨hok, by omega, h2⟩ hck
        · exact .inr (by omega)
    clear hck hok
    by_cases i0 : i < 0
    · clear hii
      rcases hadr with hadr | hadr
      all_goals
        have adn : ¬ addr < 0 ∨ addr < 0 := by omega
        first
          | (have ad0 : ¬ addr < 0 := by omega; skip)
          | skip
        go_enter Tryd.func12, Tryd.ntmps12
        go_upto_region 1 with fail
        rw [← hW0]
        clear hW0
        go_wp2_with fail
        with_reducible refine (HHV.out _ hl0).mono ?_
        rintro e w1 ⟨rfl, rfl⟩
        obtain ⟨x0, x1⟩ := HXB.out _ (Below.refl _ _)
        obtain ⟨W1, hW1⟩ : ∃ W1, W1 = W0.alloc (.cells #[.int .i64 x.err, .slice B nb cb] 78) := ⟨_, rfl⟩
        have hE1 : Below W0.heap.size W0 W1 := by rw [hW1]; exact alloc_below _ _
        have hlx : Sl gotR 2 W1 (Old W1) (some ⟨W0.heap.size, 0, none⟩) 1 1 [x] := by rw [hW1]; exact lit_got1 _ rfl hx0 hxe
        go_wp2_with fail
        rw [← hW1]
        clear hW1 x0 x1
        with_reducible refine (HHX.out _ _ hlx).mono ?_
        rintro e w1 ⟨rfl, rfl⟩
        obtain ⟨q0, q1, q2, q3, q4, q5, q6⟩ := HSV.out.onB hN2 hE1
        go_wp2_with fail
        with_reducible refine (HHA.out _ (ha0.on homR_fine hE1)).mono ?_
        rintro e w2 ⟨rfl, hb2⟩
        have hb02 := th hE1 hb2
        clear q0 q1 q2 q3 q4 q5 q6
        go_wp2_with fail
        with_reducible refine (HKT.out _ (hl0.on gotR_fine hb02)).mono ?_
        rintro e w3 ⟨hb3, VI, ci, rfl, hin3⟩
        have hb03 := th hb02 hb3
        obtain ⟨_, p0, p1, p2, p3, p4⟩ := HGB.out.on hb03
        obtain ⟨x0, x1⟩ := HXB.out _ hb03
        go_wp2_with fail
        with_reducible refine (HSY.out _ (hT.below (th hb0 hb03)) (hx0.on byteR_fine hb03)).mono ?_
        rintro e w4 ⟨hb4, V4, m4, c4, rfl, hs4⟩
        obtain ⟨W5, hW5⟩ : ∃ W5, W5 = w4.alloc (.cells #[.int .i64 0, .int .i64 0, .int .i64 0, .int .i64 0, .int .i64 0, .string ⟨#[]⟩, .slice V4 m4 c4] 26) := ⟨_, rfl⟩
        have hE5 : Below w4.heap.size w4 W5 := by rw [hW5]; exact alloc_below _ _
        have hN5 : w4.heap.size < W5.heap.size := by rw [hW5]; simp
        have hv5 : Sev W5 w4.heap.size (.int .i64 0) (.int .i64 0) (.int .i64 0) (.int .i64 0) (.int .i64 0) (.string ⟨#[]⟩) (.slice V4 m4 c4) := by rw [hW5]; exact Sev.new rfl (Below.refl _ _)
        have HVS := hide hv5
        have hs5 := hs4.on homR_fine hE5
        have hb35 := th hb4 hE5
        have hb05 := th hb03 hb35
        clear hv5 p0 p1 p2 p3 p4
        clear x0 x1
        go_upto_region 5 with fail
        rw [← hW5]
        clear hW5
        obtain ⟨_, p0, p1, p2, p3, p4⟩ := HGB.out.on hb05
        go_wp2_with fail
        with_reducible refine (HPI.out _ _ _ (hT.below (th hb0 hb05)) (hin3.on gotR_fine hb35)).mono ?_
        rintro e w6 ⟨hb6, V6, m6, c6, rfl, hp6⟩
        obtain ⟨W7, hW7⟩ : ∃ W7, W7 = w6.alloc (.cells #[.int .i64 0, .int .i64 0, .int .i64 0, .int .i64 0, .int .i64 0, .string ⟨#[]⟩, .slice V6 m6 c6] 26) := ⟨_, rfl⟩
        have hE7 : Below w6.heap.size w6 W7 := by rw [hW7]; exact alloc_below _ _
        have hN7 : w6.heap.size < W7.heap.size := by rw [hW7]; simp
        have hv7 : Sev W7 w6.heap.size (.int .i64 0) (.int .i64 0) (.int .i64 0) (.int .i64 0) (.int .i64 0) (.string ⟨#[]⟩) (.slice V6 m6 c6) := by rw [hW7]; exact Sev.new rfl (Below.refl _ _)
        have HVP := hide hv7
        have hp7 := hp6.on homR_fine hE7
        have hb57 := th hb6 hE7
        have hb07 := th hb05 hb57
        clear hv7 p0 p1 p2 p3 p4
        go_upto_region 6 with fail
        rw [← hW7]
        clear hW7
        obtain ⟨_, p0, p1, p2, p3, p4⟩ := HGB.out.on hb07
        obtain ⟨q0, q1, q2, q3, q4, q5, q6⟩ := HSV.out.onB hN2 hb07
        go_wp2_with fail
        with_reducible refine (HCE.out _ (hT.below (th hb0 hb07)) (ha0.on homR_fine hb07)).mono ?_
        rintro e w8 ⟨rfl, hb8⟩
        obtain ⟨W9, hW9⟩ : ∃ W9, W9 = w8.alloc (.cells #[.int .i64 0, .int .i64 0, .int .i64 0, .int .i64 0, .int .i64 0, .string ⟨#[]⟩, .slice none 0 0] 26) := ⟨_, rfl⟩
        have hE9 : Below w8.heap.size w8 W9 := by rw [hW9]; exact alloc_below _ _
        have hN9 : w8.heap.size < W9.heap.size := by rw [hW9]; simp
        have hv9 : Sev W9 w8.heap.size (.int .i64 0) (.int .i64 0) (.int .i64 0) (.int .i64 0) (.int .i64 0) (.string ⟨#[]⟩) (.slice none 0 0) := by rw [hW9]; exact Sev.new rfl (Below.refl _ _)
        have HVN := hide hv9
        have hb79 := th hb8 hE9
        have hb59 := th hb57 hb79
        have hb39 := th hb35 hb59
        have hb09 := th hb03 hb39
        clear hv9 p0 p1 p2 p3 p4
        clear q0 q1 q2 q3 q4 q5 q6
        go_upto_region 8 with fail
        rw [← hW9]
        clear hW9
        go_wp2_with fail
        with_reducible refine (HKG.out _ _ _ (hin3.on gotR_fine hb39) (hl0.on gotR_fine hb09)).mono ?_
        rintro e w10 ⟨rfl, hq10⟩
        have hb910 : Below W9.heap.size W9 w10 := by obtain ⟨q, rfl⟩ := hq10; exact drewN_below _ q
        clear hq10
        have hb010 := th hb09 hb910
        obtain ⟨_, p0, p1, p2, p3, p4⟩ := HGB.out.on hb010
        go_wp2_with fail
        with_reducible refine (HGE.out _).mono ?_
        rintro e w11 ⟨rfl, hb11⟩
        have hb911 := th hb910 hb11
        have hb011 := th hb010 hb11
        clear p0 p1 p2 p3 p4
        obtain ⟨_, p0, p1, p2, p3, p4⟩ := HGB.out.on hb011
        obtain ⟨x0, x1⟩ := HXB.out _ hb011
        go_wp2_with fail
        with_reducible refine (HRS.out _ (hx0.on byteR_fine hb011)).mono ?_
        rintro e w12 ⟨hb12, V12, m12, c12, rfl, hs12⟩
        obtain ⟨W13, hW13⟩ : ∃ W13, W13 = w12.alloc (.cells #[.int .i64 0, .int .i64 0, .int .i64 0, .int .i64 0, .int .i64 0, .string ⟨#[]⟩, .slice V12 m12 c12] 26) := ⟨_, rfl⟩
        have hE13 : Below w12.heap.size w12 W13 := by rw [hW13]; exact alloc_below _ _
        have hN13 : w12.heap.size < W13.heap.size := by rw [hW13]; simp
        have hv13 : Sev W13 w12.heap.size (.int .i64 0) (.int .i64 0) (.int .i64 0) (.int .i64 0) (.int .i64 0) (.string ⟨#[]⟩) (.slice V12 m12 c12) := by rw [hW13]; exact Sev.new rfl (Below.refl _ _)
        have hf13 : ∀ k, W13.frozen? ⟨w12.heap.size, k, none⟩ = false := fun k => by rw [hW13]; exact box_free (Below.refl _ _) k
        have hb913 := th hb911 (th hb12 hE13)
        have hb013 := th hb011 (th hb12 hE13)
        have hw13 := (hs12.old_ homR_fine).on homR_fine hE13
        clear p0 p1 p2 p3 p4
        clear x0 x1
        go_upto_region 13 with fail
        rw [← hW13]
        clear hW13
        have hpu := put7_sev hv13 (.int .i64 0) (.int .i64 0) (.int .i64 0) (.int .i64 0) (.int .i64 0) (.string ⟨#[]⟩) (.slice none 0 0)
        have hpb := put7_below (Below.refl W13.heap.size W13) (show W13.heap.size ≤ W13.heap.size from Nat.le_refl _) (.int .i64 0) (.int .i64 0) (.int .i64 0) (.int .i64 0) (.int .i64 0) (.string ⟨#[]⟩) (.slice none 0 0)
        obtain ⟨W14, hW14⟩ : ∃ W14, W14 = put7 W13 w12.heap.size (.int .i64 0) (.int .i64 0) (.int .i64 0) (.int .i64 0) (.int .i64 0) (.string ⟨#[]⟩) (.slice none 0 0) := ⟨_, rfl⟩
        have hb1314 : Below w12.heap.size w12 W14 := by rw [hW14]; exact put7_below hE13 (Nat.le_refl _) _ _ _ _ _ _ _
        have hN14 : w12.heap.size < W14.heap.size := Nat.lt_of_lt_of_le hN13 (by rw [hW14]; unfold put7; simp only [set_size]; exact Nat.le_refl _)
        have HVT : Hid (Sev W14 w12.heap.size (.int .i64 0) (.int .i64 0) (.int .i64 0) (.int .i64 0) (.int .i64 0) (.string ⟨#[]⟩) (.slice none 0 0)) := hide (by rw [hW14]; exact hpu)
        have hb914 := th hb911 (th hb12 hb1314)
        have hb014 := th hb011 (th hb12 hb1314)
        have g0 := hf13 0
        have g1 := hf13 1
        have g2 := hf13 2
        have g3 := hf13 3
        have g4 := hf13 4
        have g5 := hf13 5
        have g6 := hf13 6
        obtain ⟨t0, t1, t2, t3, t4, t5, t6⟩ := hv13
        unfold put7 at hW14
        clear hpu hpb hf13
        obtain ⟨n0, n1, n2, n3, n4, n5, n6⟩ := HVN.out.on hN9 hb913
        go_upto_region 15 with fail
        rw [← hW14]
        clear hW14 t0 t1 t2 t3 t4 t5 t6 g0 g1 g2 g3 g4 g5 g6 n0 n1 n2 n3 n4 n5 n6
        obtain ⟨t0, t1, t2, t3, t4, t5, t6⟩ := HVT.out
        obtain ⟨s0, s1, s2, s3, s4, s5, s6⟩ := HVS.out.on hN5 (th hb59 hb914)
        go_wp2_with fail
        with_reducible refine (HNN.out _ _ _ _ (hs5.on homR_fine (th hb59 hb914))).mono ?_
        rintro e w15 ⟨rfl, hb15⟩
        have hb914 := th hb914 hb15
        have hb014 := th hb014 hb15
        clear t0 t1 t2 t3 t4 t5 t6
        clear s0 s1 s2 s3 s4 s5 s6
        obtain ⟨_, p0, p1, p2, p3, p4⟩ := HGB.out.on hb014
        go_wp2_with fail
        with_reducible refine (HNW.out _ (hl0.on gotR_fine hb014)).mono ?_
        rintro e w15 ⟨hb15, V16, m16, c16, rfl, hq16⟩
        obtain ⟨W16, hW16⟩ : ∃ W16, W16 = w15.alloc (.cells #[.int .i64 0, .int .i64 0, .int .i64 0, .int .i64 0, .int .i64 0, .string ⟨#[]⟩, .slice V16 m16 c16] 26) := ⟨_, rfl⟩
        have hE16 : Below w15.heap.size w15 W16 := by rw [hW16]; exact alloc_below _ _
        have hv16 : Sev W16 w15.heap.size (.int .i64 0) (.int .i64 0) (.int .i64 0) (.int .i64 0) (.int .i64 0) (.string ⟨#[]⟩) (.slice V16 m16 c16) := by rw [hW16]; exact Sev.new rfl (Below.refl _ _)
        have hq17 := hq16.on homR_fine hE16
        have hb9x := th hb914 (th hb15 hE16)
        have hb0x := th hb014 (th hb15 hE16)
        have HVQ := hide hv16
        clear hv16 p0 p1 p2 p3 p4
        go_upto_region 21 with fail
        rw [← hW16]
        clear hW16
        obtain ⟨r0, r1, r2, r3, r4, r5, r6⟩ := HVP.out.on hN7 (th hb79 hb9x)
        obtain ⟨n0, n1, n2, n3, n4, n5, n6⟩ := HVN.out.on hN9 hb9x
        go_wp2_with fail
        with_reducible refine (HNN.out _ _ _ _ (hp7.on homR_fine (th hb79 hb9x))).mono ?_
        rintro e w16 ⟨rfl, hb16⟩
        clear n0 n1 n2 n3 n4 n5 n6
        have hb916 := th hb9x hb16
        have hb016 := th hb0x hb16
        clear r0 r1 r2 r3 r4 r5 r6
        obtain ⟨_, p0, p1, p2, p3, p4⟩ := HGB.out.on hb016
        obtain ⟨q0, q1, q2, q3, q4, q5, q6⟩ := HSV.out.onB hN2 hb016
        go_wp2_with fail
        with_reducible refine (HRA.out _ (ha0.on homR_fine hb016)).mono ?_
        rintro e w17 ⟨rfl, hb17⟩
        have hb917 := th hb916 hb17
        have hb017 := th hb016 hb17
        clear p0 p1 p2 p3 p4
        clear q0 q1 q2 q3 q4 q5 q6
        obtain ⟨_, p0, p1, p2, p3, p4⟩ := HGB.out.on hb017
        go_wp2_with fail
        with_reducible refine (wakes09 _ (hT.below (th hb0 hb017))).mono ?_
        rintro e w30 ⟨rfl, hb30⟩
        go_wp2_with fail
        go_ret
        exact ⟨rfl, th hb0 (th hb017 hb30)⟩
    · have i1 : g.anchors ≤ i := by rcases hii with h | h; exact absurd h i0; exact h
      clear hii
      rcases hadr with hadr | hadr
      all_goals
        have adn : ¬ addr < 0 ∨ addr < 0 := by omega
        first
          | (have ad0 : ¬ addr < 0 := by omega; skip)
          | skip
        go_enter Tryd.func12, Tryd.ntmps12
        go_upto_region 1 with fail
        rw [← hW0]
        clear hW0
        go_wp2_with fail
        with_reducible refine (HHV.out _ hl0).mono ?_
        rintro e w1 ⟨rfl, rfl⟩
        obtain ⟨x0, x1⟩ := HXB.out _ (Below.refl _ _)
        obtain ⟨W1, hW1⟩ : ∃ W1, W1 = W0.alloc (.cells #[.int .i64 x.err, .slice B nb cb] 78) := ⟨_, rfl⟩
        have hE1 : Below W0.heap.size W0 W1 := by rw [hW1]; exact alloc_below _ _
        have hlx : Sl gotR 2 W1 (Old W1) (some ⟨W0.heap.size, 0, none⟩) 1 1 [x] := by rw [hW1]; exact lit_got1 _ rfl hx0 hxe
        go_wp2_with fail
        rw [← hW1]
        clear hW1 x0 x1
        with_reducible refine (HHX.out _ _ hlx).mono ?_
        rintro e w1 ⟨rfl, rfl⟩
        obtain ⟨q0, q1, q2, q3, q4, q5, q6⟩ := HSV.out.onB hN2 hE1
        go_wp2_with fail
        with_reducible refine (HHA.out _ (ha0.on homR_fine hE1)).mono ?_
        rintro e w2 ⟨rfl, hb2⟩
        have hb02 := th hE1 hb2
        clear q0 q1 q2 q3 q4 q5 q6
        go_wp2_with fail
        with_reducible refine (HKT.out _ (hl0.on gotR_fine hb02)).mono ?_
        rintro e w3 ⟨hb3, VI, ci, rfl, hin3⟩
        have hb03 := th hb02 hb3
        obtain ⟨_, p0, p1, p2, p3, p4⟩ := HGB.out.on hb03
        obtain ⟨x0, x1⟩ := HXB.out _ hb03
        go_wp2_with fail
        with_reducible refine (HSY.out _ (hT.below (th hb0 hb03)) (hx0.on byteR_fine hb03)).mono ?_
        rintro e w4 ⟨hb4, V4, m4, c4, rfl, hs4⟩
        obtain ⟨W5, hW5⟩ : ∃ W5, W5 = w4.alloc (.cells #[.int .i64 0, .int .i64 0, .int .i64 0, .int .i64 0, .int .i64 0, .string ⟨#[]⟩, .slice V4 m4 c4] 26) := ⟨_, rfl⟩
        have hE5 : Below w4.heap.size w4 W5 := by rw [hW5]; exact alloc_below _ _
        have hN5 : w4.heap.size < W5.heap.size := by rw [hW5]; simp
        have hv5 : Sev W5 w4.heap.size (.int .i64 0) (.int .i64 0) (.int .i64 0) (.int .i64 0) (.int .i64 0) (.string ⟨#[]⟩) (.slice V4 m4 c4) := by rw [hW5]; exact Sev.new rfl (Below.refl _ _)
        have HVS := hide hv5
        have hs5 := hs4.on homR_fine hE5
        have hb35 := th hb4 hE5
        have hb05 := th hb03 hb35
        clear hv5 p0 p1 p2 p3 p4
        clear x0 x1
        go_upto_region 5 with fail
        rw [← hW5]
        clear hW5
        obtain ⟨_, p0, p1, p2, p3, p4⟩ := HGB.out.on hb05
        go_wp2_with fail
        with_reducible refine (HPI.out _ _ _ (hT.below (th hb0 hb05)) (hin3.on gotR_fine hb35)).mono ?_
        rintro e w6 ⟨hb6, V6, m6, c6, rfl, hp6⟩
        obtain ⟨W7, hW7⟩ : ∃ W7, W7 = w6.alloc (.cells #[.int .i64 0, .int .i64 0, .int .i64 0, .int .i64 0, .int .i64 0, .string ⟨#[]⟩, .slice V6 m6 c6] 26) := ⟨_, rfl⟩
        have hE7 : Below w6.heap.size w6 W7 := by rw [hW7]; exact alloc_below _ _
        have hN7 : w6.heap.size < W7.heap.size := by rw [hW7]; simp
        have hv7 : Sev W7 w6.heap.size (.int .i64 0) (.int .i64 0) (.int .i64 0) (.int .i64 0) (.int .i64 0) (.string ⟨#[]⟩) (.slice V6 m6 c6) := by rw [hW7]; exact Sev.new rfl (Below.refl _ _)
        have HVP := hide hv7
        have hp7 := hp6.on homR_fine hE7
        have hb57 := th hb6 hE7
        have hb07 := th hb05 hb57
        clear hv7 p0 p1 p2 p3 p4
        go_upto_region 6 with fail
        rw [← hW7]
        clear hW7
        obtain ⟨_, p0, p1, p2, p3, p4⟩ := HGB.out.on hb07
        obtain ⟨q0, q1, q2, q3, q4, q5, q6⟩ := HSV.out.onB hN2 hb07
        go_wp2_with fail
        with_reducible refine (HCE.out _ (hT.below (th hb0 hb07)) (ha0.on homR_fine hb07)).mono ?_
        rintro e w8 ⟨rfl, hb8⟩
        obtain ⟨W9, hW9⟩ : ∃ W9, W9 = w8.alloc (.cells #[.int .i64 0, .int .i64 0, .int .i64 0, .int .i64 0, .int .i64 0, .string ⟨#[]⟩, .slice none 0 0] 26) := ⟨_, rfl⟩
        have hE9 : Below w8.heap.size w8 W9 := by rw [hW9]; exact alloc_below _ _
        have hN9 : w8.heap.size < W9.heap.size := by rw [hW9]; simp
        have hv9 : Sev W9 w8.heap.size (.int .i64 0) (.int .i64 0) (.int .i64 0) (.int .i64 0) (.int .i64 0) (.string ⟨#[]⟩) (.slice none 0 0) := by rw [hW9]; exact Sev.new rfl (Below.refl _ _)
        have HVN := hide hv9
        have hb79 := th hb8 hE9
        have hb59 := th hb57 hb79
        have hb39 := th hb35 hb59
        have hb09 := th hb03 hb39
        clear hv9 p0 p1 p2 p3 p4
        clear q0 q1 q2 q3 q4 q5 q6
        go_upto_region 8 with fail
        rw [← hW9]
        clear hW9
        go_wp2_with fail
        with_reducible refine (HKG.out _ _ _ (hin3.on gotR_fine hb39) (hl0.on gotR_fine hb09)).mono ?_
        rintro e w10 ⟨rfl, hq10⟩
        have hb910 : Below W9.heap.size W9 w10 := by obtain ⟨q, rfl⟩ := hq10; exact drewN_below _ q
        clear hq10
        have hb010 := th hb09 hb910
        obtain ⟨_, p0, p1, p2, p3, p4⟩ := HGB.out.on hb010
        go_wp2_with fail
        with_reducible refine (HGE.out _).mono ?_
        rintro e w11 ⟨rfl, hb11⟩
        have hb911 := th hb910 hb11
        have hb011 := th hb010 hb11
        clear p0 p1 p2 p3 p4
        obtain ⟨_, p0, p1, p2, p3, p4⟩ := HGB.out.on hb011
        obtain ⟨x0, x1⟩ := HXB.out _ hb011
        go_wp2_with fail
        with_reducible refine (HRS.out _ (hx0.on byteR_fine hb011)).mono ?_
        rintro e w12 ⟨hb12, V12, m12, c12, rfl, hs12⟩
        obtain ⟨W13, hW13⟩ : ∃ W13, W13 = w12.alloc (.cells #[.int .i64 0, .int .i64 0, .int .i64 0, .int .i64 0, .int .i64 0, .string ⟨#[]⟩, .slice V12 m12 c12] 26) := ⟨_, rfl⟩
        have hE13 : Below w12.heap.size w12 W13 := by rw [hW13]; exact alloc_below _ _
        have hN13 : w12.heap.size < W13.heap.size := by rw [hW13]; simp
        have hv13 : Sev W13 w12.heap.size (.int .i64 0) (.int .i64 0) (.int .i64 0) (.int .i64 0) (.int .i64 0) (.string ⟨#[]⟩) (.slice V12 m12 c12) := by rw [hW13]; exact Sev.new rfl (Below.refl _ _)
        have hf13 : ∀ k, W13.frozen? ⟨w12.heap.size, k, none⟩ = false := fun k => by rw [hW13]; exact box_free (Below.refl _ _) k
        have hb913 := th hb911 (th hb12 hE13)
        have hb013 := th hb011 (th hb12 hE13)
        have hw13 := (hs12.old_ homR_fine).on homR_fine hE13
        clear p0 p1 p2 p3 p4
        clear x0 x1
        go_upto_region 13 with fail
        rw [← hW13]
        clear hW13
        have hpu := put7_sev hv13 (.int .i64 0) (.int .i64 0) (.int .i64 0) (.int .i64 0) (.int .i64 0) (.string ⟨#[]⟩) (.slice none 0 0)
        have hpb := put7_below (Below.refl W13.heap.size W13) (show W13.heap.size ≤ W13.heap.size from Nat.le_refl _) (.int .i64 0) (.int .i64 0) (.int .i64 0) (.int .i64 0) (.int .i64 0) (.string ⟨#[]⟩) (.slice none 0 0)
        obtain ⟨W14, hW14⟩ : ∃ W14, W14 = put7 W13 w12.heap.size (.int .i64 0) (.int .i64 0) (.int .i64 0) (.int .i64 0) (.int .i64 0) (.string ⟨#[]⟩) (.slice none 0 0) := ⟨_, rfl⟩
        have hb1314 : Below w12.heap.size w12 W14 := by rw [hW14]; exact put7_below hE13 (Nat.le_refl _) _ _ _ _ _ _ _
        have hN14 : w12.heap.size < W14.heap.size := Nat.lt_of_lt_of_le hN13 (by rw [hW14]; unfold put7; simp only [set_size]; exact Nat.le_refl _)
        have HVT : Hid (Sev W14 w12.heap.size (.int .i64 0) (.int .i64 0) (.int .i64 0) (.int .i64 0) (.int .i64 0) (.string ⟨#[]⟩) (.slice none 0 0)) := hide (by rw [hW14]; exact hpu)
        have hb914 := th hb911 (th hb12 hb1314)
        have hb014 := th hb011 (th hb12 hb1314)
        have g0 := hf13 0
        have g1 := hf13 1
        have g2 := hf13 2
        have g3 := hf13 3
        have g4 := hf13 4
        have g5 := hf13 5
        have g6 := hf13 6
        obtain ⟨t0, t1, t2, t3, t4, t5, t6⟩ := hv13
        unfold put7 at hW14
        clear hpu hpb hf13
        obtain ⟨n0, n1, n2, n3, n4, n5, n6⟩ := HVN.out.on hN9 hb913
        go_upto_region 15 with fail
        rw [← hW14]
        clear hW14 t0 t1 t2 t3 t4 t5 t6 g0 g1 g2 g3 g4 g5 g6 n0 n1 n2 n3 n4 n5 n6
        obtain ⟨t0, t1, t2, t3, t4, t5, t6⟩ := HVT.out
        obtain ⟨s0, s1, s2, s3, s4, s5, s6⟩ := HVS.out.on hN5 (th hb59 hb914)
        go_wp2_with fail
        with_reducible refine (HNN.out _ _ _ _ (hs5.on homR_fine (th hb59 hb914))).mono ?_
        rintro e w15 ⟨rfl, hb15⟩
        have hb914 := th hb914 hb15
        have hb014 := th hb014 hb15
        clear t0 t1 t2 t3 t4 t5 t6
        clear s0 s1 s2 s3 s4 s5 s6
        obtain ⟨_, p0, p1, p2, p3, p4⟩ := HGB.out.on hb014
        go_wp2_with fail
        with_reducible refine (HNW.out _ (hl0.on gotR_fine hb014)).mono ?_
        rintro e w15 ⟨hb15, V16, m16, c16, rfl, hq16⟩
        obtain ⟨W16, hW16⟩ : ∃ W16, W16 = w15.alloc (.cells #[.int .i64 0, .int .i64 0, .int .i64 0, .int .i64 0, .int .i64 0, .string ⟨#[]⟩, .slice V16 m16 c16] 26) := ⟨_, rfl⟩
        have hE16 : Below w15.heap.size w15 W16 := by rw [hW16]; exact alloc_below _ _
        have hv16 : Sev W16 w15.heap.size (.int .i64 0) (.int .i64 0) (.int .i64 0) (.int .i64 0) (.int .i64 0) (.string ⟨#[]⟩) (.slice V16 m16 c16) := by rw [hW16]; exact Sev.new rfl (Below.refl _ _)
        have hq17 := hq16.on homR_fine hE16
        have hb9x := th hb914 (th hb15 hE16)
        have hb0x := th hb014 (th hb15 hE16)
        have HVQ := hide hv16
        clear hv16 p0 p1 p2 p3 p4
        go_upto_region 21 with fail
        rw [← hW16]
        clear hW16
        obtain ⟨r0, r1, r2, r3, r4, r5, r6⟩ := HVP.out.on hN7 (th hb79 hb9x)
        obtain ⟨n0, n1, n2, n3, n4, n5, n6⟩ := HVN.out.on hN9 hb9x
        go_wp2_with fail
        with_reducible refine (HNN.out _ _ _ _ (hp7.on homR_fine (th hb79 hb9x))).mono ?_
        rintro e w16 ⟨rfl, hb16⟩
        clear n0 n1 n2 n3 n4 n5 n6
        have hb916 := th hb9x hb16
        have hb016 := th hb0x hb16
        clear r0 r1 r2 r3 r4 r5 r6
        obtain ⟨_, p0, p1, p2, p3, p4⟩ := HGB.out.on hb016
        obtain ⟨q0, q1, q2, q3, q4, q5, q6⟩ := HSV.out.onB hN2 hb016
        go_wp2_with fail
        with_reducible refine (HRA.out _ (ha0.on homR_fine hb016)).mono ?_
        rintro e w17 ⟨rfl, hb17⟩
        have hb917 := th hb916 hb17
        have hb017 := th hb016 hb17
        clear p0 p1 p2 p3 p4
        clear q0 q1 q2 q3 q4 q5 q6
        obtain ⟨_, p0, p1, p2, p3, p4⟩ := HGB.out.on hb017
        go_wp2_with fail
        with_reducible refine (wakes09 _ (hT.below (th hb0 hb017))).mono ?_
        rintro e w30 ⟨rfl, hb30⟩
        go_wp2_with fail
        go_ret
        exact ⟨rfl, th hb0 (th hb017 hb30)⟩
  · rw [decide_eq_false hok] at HRA
    clear hck hok
    rcases hadr with hadr | hadr
    all_goals
      have adn : ¬ addr < 0 ∨ addr < 0 := by omega
      first
        | (have ad0 : ¬ addr < 0 := by omega; skip)
        | skip
      go_enter Tryd.func12, Tryd.ntmps12
      go_upto_region 1 with fail
      rw [← hW0]
      clear hW0
      go_wp2_with fail
      with_reducible refine (HHV.out _ hl0).mono ?_
      rintro e w1 ⟨rfl, rfl⟩
      obtain ⟨x0, x1⟩ := HXB.out _ (Below.refl _ _)
      obtain ⟨W1, hW1⟩ : ∃ W1, W1 = W0.alloc (.cells #[.int .i64 x.err, .slice B nb cb] 78) := ⟨_, rfl⟩
      have hE1 : Below W0.heap.size W0 W1 := by rw [hW1]; exact alloc_below _ _
      have hlx : Sl gotR 2 W1 (Old W1) (some ⟨W0.heap.size, 0, none⟩) 1 1 [x] := by rw [hW1]; exact lit_got1 _ rfl hx0 hxe
      go_wp2_with fail
      rw [← hW1]
      clear hW1 x0 x1
      with_reducible refine (HHX.out _ _ hlx).mono ?_
      rintro e w1 ⟨rfl, rfl⟩
      obtain ⟨q0, q1, q2, q3, q4, q5, q6⟩ := HSV.out.onB hN2 hE1
      go_wp2_with fail
      with_reducible refine (HHA.out _ (ha0.on homR_fine hE1)).mono ?_
      rintro e w2 ⟨rfl, hb2⟩
      have hb02 := th hE1 hb2
      clear q0 q1 q2 q3 q4 q5 q6
      go_wp2_with fail
      with_reducible refine (HKT.out _ (hl0.on gotR_fine hb02)).mono ?_
      rintro e w3 ⟨hb3, VI, ci, rfl, hin3⟩
      have hb03 := th hb02 hb3
      obtain ⟨_, p0, p1, p2, p3, p4⟩ := HGB.out.on hb03
      obtain ⟨x0, x1⟩ := HXB.out _ hb03
      go_wp2_with fail
      with_reducible refine (HSY.out _ (hT.below (th hb0 hb03)) (hx0.on byteR_fine hb03)).mono ?_
      rintro e w4 ⟨hb4, V4, m4, c4, rfl, hs4⟩
      obtain ⟨W5, hW5⟩ : ∃ W5, W5 = w4.alloc (.cells #[.int .i64 0, .int .i64 0, .int .i64 0, .int .i64 0, .int .i64 0, .string ⟨#[]⟩, .slice V4 m4 c4] 26) := ⟨_, rfl⟩
      have hE5 : Below w4.heap.size w4 W5 := by rw [hW5]; exact alloc_below _ _
      have hN5 : w4.heap.size < W5.heap.size := by rw [hW5]; simp
      have hv5 : Sev W5 w4.heap.size (.int .i64 0) (.int .i64 0) (.int .i64 0) (.int .i64 0) (.int .i64 0) (.string ⟨#[]⟩) (.slice V4 m4 c4) := by rw [hW5]; exact Sev.new rfl (Below.refl _ _)
      have HVS := hide hv5
      have hs5 := hs4.on homR_fine hE5
      have hb35 := th hb4 hE5
      have hb05 := th hb03 hb35
      clear hv5 p0 p1 p2 p3 p4
      clear x0 x1
      go_upto_region 5 with fail
      rw [← hW5]
      clear hW5
      obtain ⟨_, p0, p1, p2, p3, p4⟩ := HGB.out.on hb05
      go_wp2_with fail
      with_reducible refine (HPI.out _ _ _ (hT.below (th hb0 hb05)) (hin3.on gotR_fine hb35)).mono ?_
      rintro e w6 ⟨hb6, V6, m6, c6, rfl, hp6⟩
      obtain ⟨W7, hW7⟩ : ∃ W7, W7 = w6.alloc (.cells #[.int .i64 0, .int .i64 0, .int .i64 0, .int .i64 0, .int .i64 0, .string ⟨#[]⟩, .slice V6 m6 c6] 26) := ⟨_, rfl⟩
      have hE7 : Below w6.heap.size w6 W7 := by rw [hW7]; exact alloc_below _ _
      have hN7 : w6.heap.size < W7.heap.size := by rw [hW7]; simp
      have hv7 : Sev W7 w6.heap.size (.int .i64 0) (.int .i64 0) (.int .i64 0) (.int .i64 0) (.int .i64 0) (.string ⟨#[]⟩) (.slice V6 m6 c6) := by rw [hW7]; exact Sev.new rfl (Below.refl _ _)
      have HVP := hide hv7
      have hp7 := hp6.on homR_fine hE7
      have hb57 := th hb6 hE7
      have hb07 := th hb05 hb57
      clear hv7 p0 p1 p2 p3 p4
      go_upto_region 6 with fail
      rw [← hW7]
      clear hW7
      obtain ⟨_, p0, p1, p2, p3, p4⟩ := HGB.out.on hb07
      obtain ⟨q0, q1, q2, q3, q4, q5, q6⟩ := HSV.out.onB hN2 hb07
      go_wp2_with fail
      with_reducible refine (HCE.out _ (hT.below (th hb0 hb07)) (ha0.on homR_fine hb07)).mono ?_
      rintro e w8 ⟨rfl, hb8⟩
      obtain ⟨W9, hW9⟩ : ∃ W9, W9 = w8.alloc (.cells #[.int .i64 0, .int .i64 0, .int .i64 0, .int .i64 0, .int .i64 0, .string ⟨#[]⟩, .slice none 0 0] 26) := ⟨_, rfl⟩
      have hE9 : Below w8.heap.size w8 W9 := by rw [hW9]; exact alloc_below _ _
      have hN9 : w8.heap.size < W9.heap.size := by rw [hW9]; simp
      have hv9 : Sev W9 w8.heap.size (.int .i64 0) (.int .i64 0) (.int .i64 0) (.int .i64 0) (.int .i64 0) (.string ⟨#[]⟩) (.slice none 0 0) := by rw [hW9]; exact Sev.new rfl (Below.refl _ _)
      have HVN := hide hv9
      have hb79 := th hb8 hE9
      have hb59 := th hb57 hb79
      have hb39 := th hb35 hb59
      have hb09 := th hb03 hb39
      clear hv9 p0 p1 p2 p3 p4
      clear q0 q1 q2 q3 q4 q5 q6
      go_upto_region 8 with fail
      rw [← hW9]
      clear hW9
      go_wp2_with fail
      with_reducible refine (HKG.out _ _ _ (hin3.on gotR_fine hb39) (hl0.on gotR_fine hb09)).mono ?_
      rintro e w10 ⟨rfl, hq10⟩
      have hb910 : Below W9.heap.size W9 w10 := by obtain ⟨q, rfl⟩ := hq10; exact drewN_below _ q
      clear hq10
      have hb010 := th hb09 hb910
      obtain ⟨_, p0, p1, p2, p3, p4⟩ := HGB.out.on hb010
      go_wp2_with fail
      with_reducible refine (HGE.out _).mono ?_
      rintro e w11 ⟨rfl, hb11⟩
      have hb911 := th hb910 hb11
      have hb011 := th hb010 hb11
      clear p0 p1 p2 p3 p4
      obtain ⟨_, p0, p1, p2, p3, p4⟩ := HGB.out.on hb011
      obtain ⟨x0, x1⟩ := HXB.out _ hb011
      go_wp2_with fail
      with_reducible refine (HRS.out _ (hx0.on byteR_fine hb011)).mono ?_
      rintro e w12 ⟨hb12, V12, m12, c12, rfl, hs12⟩
      obtain ⟨W13, hW13⟩ : ∃ W13, W13 = w12.alloc (.cells #[.int .i64 0, .int .i64 0, .int .i64 0, .int .i64 0, .int .i64 0, .string ⟨#[]⟩, .slice V12 m12 c12] 26) := ⟨_, rfl⟩
      have hE13 : Below w12.heap.size w12 W13 := by rw [hW13]; exact alloc_below _ _
      have hN13 : w12.heap.size < W13.heap.size := by rw [hW13]; simp
      have hv13 : Sev W13 w12.heap.size (.int .i64 0) (.int .i64 0) (.int .i64 0) (.int .i64 0) (.int .i64 0) (.string ⟨#[]⟩) (.slice V12 m12 c12) := by rw [hW13]; exact Sev.new rfl (Below.refl _ _)
      have hf13 : ∀ k, W13.frozen? ⟨w12.heap.size, k, none⟩ = false := fun k => by rw [hW13]; exact box_free (Below.refl _ _) k
      have hb913 := th hb911 (th hb12 hE13)
      have hb013 := th hb011 (th hb12 hE13)
      have hw13 := (hs12.old_ homR_fine).on homR_fine hE13
      clear p0 p1 p2 p3 p4
      clear x0 x1
      go_upto_region 13 with fail
      rw [← hW13]
      clear hW13
      have hpu := put7_sev hv13 (.int .i64 0) (.int .i64 0) (.int .i64 0) (.int .i64 0) (.int .i64 0) (.string ⟨#[]⟩) (.slice none 0 0)
      have hpb := put7_below (Below.refl W13.heap.size W13) (show W13.heap.size ≤ W13.heap.size from Nat.le_refl _) (.int .i64 0) (.int .i64 0) (.int .i64 0) (.int .i64 0) (.int .i64 0) (.string ⟨#[]⟩) (.slice none 0 0)
      obtain ⟨W14, hW14⟩ : ∃ W14, W14 = put7 W13 w12.heap.size (.int .i64 0) (.int .i64 0) (.int .i64 0) (.int .i64 0) (.int .i64 0) (.string ⟨#[]⟩) (.slice none 0 0) := ⟨_, rfl⟩
      have hb1314 : Below w12.heap.size w12 W14 := by rw [hW14]; exact put7_below hE13 (Nat.le_refl _) _ _ _ _ _ _ _
      have hN14 : w12.heap.size < W14.heap.size := Nat.lt_of_lt_of_le hN13 (by rw [hW14]; unfold put7; simp only [set_size]; exact Nat.le_refl _)
      have HVT : Hid (Sev W14 w12.heap.size (.int .i64 0) (.int .i64 0) (.int .i64 0) (.int .i64 0) (.int .i64 0) (.string ⟨#[]⟩) (.slice none 0 0)) := hide (by rw [hW14]; exact hpu)
      have hb914 := th hb911 (th hb12 hb1314)
      have hb014 := th hb011 (th hb12 hb1314)
      have g0 := hf13 0
      have g1 := hf13 1
      have g2 := hf13 2
      have g3 := hf13 3
      have g4 := hf13 4
      have g5 := hf13 5
      have g6 := hf13 6
      obtain ⟨t0, t1, t2, t3, t4, t5, t6⟩ := hv13
      unfold put7 at hW14
      clear hpu hpb hf13
      obtain ⟨n0, n1, n2, n3, n4, n5, n6⟩ := HVN.out.on hN9 hb913
      go_upto_region 15 with fail
      rw [← hW14]
      clear hW14 t0 t1 t2 t3 t4 t5 t6 g0 g1 g2 g3 g4 g5 g6 n0 n1 n2 n3 n4 n5 n6
      obtain ⟨t0, t1, t2, t3, t4, t5, t6⟩ := HVT.out
      obtain ⟨s0, s1, s2, s3, s4, s5, s6⟩ := HVS.out.on hN5 (th hb59 hb914)
      go_wp2_with fail
      with_reducible refine (HNN.out _ _ _ _ (hs5.on homR_fine (th hb59 hb914))).mono ?_
      rintro e w15 ⟨rfl, hb15⟩
      have hb914 := th hb914 hb15
      have hb014 := th hb014 hb15
      clear t0 t1 t2 t3 t4 t5 t6
      clear s0 s1 s2 s3 s4 s5 s6
      obtain ⟨_, p0, p1, p2, p3, p4⟩ := HGB.out.on hb014
      go_wp2_with fail
      with_reducible refine (HNW.out _ (hl0.on gotR_fine hb014)).mono ?_
      rintro e w15 ⟨hb15, V16, m16, c16, rfl, hq16⟩
      obtain ⟨W16, hW16⟩ : ∃ W16, W16 = w15.alloc (.cells #[.int .i64 0, .int .i64 0, .int .i64 0, .int .i64 0, .int .i64 0, .string ⟨#[]⟩, .slice V16 m16 c16] 26) := ⟨_, rfl⟩
      have hE16 : Below w15.heap.size w15 W16 := by rw [hW16]; exact alloc_below _ _
      have hv16 : Sev W16 w15.heap.size (.int .i64 0) (.int .i64 0) (.int .i64 0) (.int .i64 0) (.int .i64 0) (.string ⟨#[]⟩) (.slice V16 m16 c16) := by rw [hW16]; exact Sev.new rfl (Below.refl _ _)
      have hq17 := hq16.on homR_fine hE16
      have hb9x := th hb914 (th hb15 hE16)
      have hb0x := th hb014 (th hb15 hE16)
      have HVQ := hide hv16
      clear hv16 p0 p1 p2 p3 p4
      go_upto_region 21 with fail
      rw [← hW16]
      clear hW16
      obtain ⟨r0, r1, r2, r3, r4, r5, r6⟩ := HVP.out.on hN7 (th hb79 hb9x)
      obtain ⟨n0, n1, n2, n3, n4, n5, n6⟩ := HVN.out.on hN9 hb9x
      go_wp2_with fail
      with_reducible refine (HNN.out _ _ _ _ (hp7.on homR_fine (th hb79 hb9x))).mono ?_
      rintro e w16 ⟨rfl, hb16⟩
      clear n0 n1 n2 n3 n4 n5 n6
      have hb916 := th hb9x hb16
      have hb016 := th hb0x hb16
      clear r0 r1 r2 r3 r4 r5 r6
      obtain ⟨_, p0, p1, p2, p3, p4⟩ := HGB.out.on hb016
      obtain ⟨q0, q1, q2, q3, q4, q5, q6⟩ := HSV.out.onB hN2 hb016
      go_wp2_with fail
      with_reducible refine (HRA.out _ (ha0.on homR_fine hb016)).mono ?_
      rintro e w17 ⟨rfl, hb17⟩
      have hb917 := th hb916 hb17
      have hb017 := th hb016 hb17
      clear p0 p1 p2 p3 p4
      clear q0 q1 q2 q3 q4 q5 q6
      obtain ⟨_, p0, p1, p2, p3, p4⟩ := HGB.out.on hb017
      go_wp2_with fail
      with_reducible refine (wakes09 _ (hT.below (th hb0 hb017))).mono ?_
      rintro e w30 ⟨rfl, hb30⟩
      go_wp2_with fail
      go_ret
      exact ⟨rfl, th hb0 (th hb017 hb30)⟩

set_option maxHeartbeats 16000000 in
theorem ne_0some1 {w : World} (hT : Tabs w) (g : Geo) (a : Anc) (x : Gt) (A B D : Option Addr) (n c nb cb na ca : Nat) (L : List Gt) (addr i : Int) (hl : Sl gotR 2 w (Old w) A n c L) (hxe : InI x.err) (hx : Bs w B nb cb x.bytes) (ha : Sl homR 3 w (Old w) D na ca a.homes) (hin : a.In) (hi : InI i) (HH1 : heavyG L = false) (HH2 : nb ≤ 300) (HH3 : heavyA a = false) (hg : GeoOk g) (had : ¬ (0 ≤ addr ∧ addr ≤ 65535)) (hln : (n : Int) = g.anchors) (hpk : (pickN g L n).2.2 = true) (hck : AncOk g a ∧ 0 ≤ i ∧ i ≤ g.anchors - 1) :
    Calls Tryd.prog 12 #[g.v, .slice A n c, .agg #[.int .i64 x.err, .slice B nb cb], .int .i64 addr, a.v (.slice D na ca), .int .i64 i] w fun e w' => e = .returned (.bool true) ∧ Below w.heap.size w w' := by
  have HHV := hide fun w h => heavyg_any A n c L w h
  have HHX := hide fun N (w : World) (h : Sl gotR 2 w (Old w) (some ⟨N, 0, none⟩) 1 1 [x]) => heavyg_any (some ⟨N, 0, none⟩) 1 1 [x] w h
  have hxl := hx.len
  rw [heavyG_ok (L := [x]) (by show 1 ≤ 80; omega) (fun j y hj hy => by have := List.mem_of_getElem? hy; simp at this; subst this; omega)] at HHX
  rw [HH1] at HHV
  have HHA := hide fun w h => heavya_any a D na ca w h
  rw [HH3] at HHA
  have HL := hide (heavyA_light HH3)
  have HGL := hide (heavyG_no HH1)
  have hn80 : n ≤ 80 := by have := HGL.out.1; have := hl.len; omega
  have HKT := hide fun w h => katg_any A n c L w h (by omega) (fun y hy => by have := HGL.out.2 y hy; omega)
  have HKG := hide fun (V : Option Addr) (q : Nat) (w : World) (h : Sl gotR 2 w (Old w) V n q L) (h2 : Sl gotR 2 w (Old w) A n c L) => gots_true V A n q c L w h h2 (by omega) (fun y hy => by have := HGL.out.2 y hy; omega)
  have HSY := hide fun w hT h => nsays_sym g x.err B nb cb x.bytes addr w hT h (by omega)
  have HGE := hide fun w => rgeo_any g w
  rw [decide_eq_true hg] at HGE
  have HNN := hide fun (V : Option Addr) (m q : Nat) (w : World) (h : Sl homR 3 w (Old w) V m q noAnc.homes) => keepa_same9 (x := noAnc) (B := none) (m := 0) (d := 0) h (Sl.nil_ _) no_light
  obtain ⟨W0, hW0⟩ : ∃ W0, W0 = ((w.alloc (.cells #[.int .i64 g.zones, .int .i64 g.data, .int .i64 g.spares, .int .i64 g.slots, .int .i64 g.anchors] 23)).alloc (.cells #[.int .i64 x.err, .slice B nb cb] 78)).alloc (.cells #[.int .i64 a.gen, .int .i64 a.epoch, .int .i64 a.pos, .int .i64 a.seq, .int .i64 a.last, .string a.label, .slice D na ca] 26) := ⟨_, rfl⟩
  have hb0 : Below w.heap.size w W0 := by rw [hW0]; exact ((alloc_below w _).alloc (by simp) _).alloc (by simp; omega) _
  have hl0 := hl.on gotR_fine hb0
  have hx0 := hx.on byteR_fine hb0
  have ha0 := ha.on homR_fine hb0
  have hgb : GeoAt W0 w.heap.size g := by rw [hW0]; exact (GeoAt.new w g 23).on ((alloc_below _ _).alloc (by simp) _)
  have hxb : ∀ W, Below W0.heap.size W0 W → W.cell? ⟨w.heap.size + 1, 0, none⟩ = some (.int .i64 x.err) ∧ W.cell? ⟨w.heap.size + 1, 1, none⟩ = some (.slice B nb cb) := fun W hW => by
    have h0 : W0.cell? ⟨w.heap.size + 1, 0, none⟩ = some (.int .i64 x.err) ∧ W0.cell? ⟨w.heap.size + 1, 1, none⟩ = some (.slice B nb cb) := by
      rw [hW0]
      exact ⟨bx_at2 (by simp) (alloc_below _ _) 0 _ rfl, bx_at2 (by simp) (alloc_below _ _) 1 _ rfl⟩
    have hs : w.heap.size + 1 < W0.heap.size := by rw [hW0]; simp
    exact ⟨(hW.cell (p := ⟨w.heap.size + 1, 0, none⟩) hs).trans h0.1, (hW.cell (p := ⟨w.heap.size + 1, 1, none⟩) hs).trans h0.2⟩
  have hsv : Sev W0 (w.heap.size + 1 + 1) (.int .i64 a.gen) (.int .i64 a.epoch) (.int .i64 a.pos) (.int .i64 a.seq) (.int .i64 a.last) (.string a.label) (.slice D na ca) := by rw [hW0]; exact Sev.new (by simp) (Below.refl _ _)
  have hN2 : w.heap.size + 1 + 1 < W0.heap.size := by rw [hW0]; simp
  have HSV := hide hsv
  have HGB := hide hgb
  have HXB := hide hxb
  clear hgb hxb hsv hl hx ha HH1 HH3 hxl
  have HSL := hide (says_light g x.err x.bytes addr)
  obtain ⟨SA, hSA⟩ : ∃ SA, SA = sA (saysN g x.err x.bytes addr) := ⟨_, rfl⟩
  obtain ⟨SR, hSR⟩ : ∃ SR, SR = sR (saysN g x.err x.bytes addr) := ⟨_, rfl⟩
  rw [← hSA, ← hSR] at HSY
  rw [← hSA] at HSL
  have HRS := hide fun w h => rsays_any g hg x.err B nb cb x.bytes addr w h (by omega)
  rw [← hSA, ← hSR] at HRS
  have hnone : saysN g x.err x.bytes addr = none := if_neg fun h => had h.2.1
  rw [hnone] at hSA hSR
  obtain rfl : SA = noAnc := hSA
  obtain rfl : SR = false := hSR
  have hadr : addr < 0 ∨ 65535 < addr := by omega
  clear hnone
  have HPI0 := fun (V : Option Addr) (q : Nat) (w : World) (hT : Tabs w) (h : Sl gotR 2 w (Old w) V n q L) => npick_yes g hg V n q L w hT h hln (fun y hy => by have := HGL.out.2 y hy; omega)
  have HNW0 := fun w h => rnewest_any g hg A n c L w h (by omega) (fun y hy => by have := HGL.out.2 y hy; omega)
  have hln1 : ((n : Int) != g.anchors) = false := by simpa using hln
  have HLNE := hide hln
  have HPL := hide (pick_light g L n)
  obtain ⟨⟨PA, PQ, PB⟩, hpn⟩ : ∃ P, P = pickN g L n := ⟨_, rfl⟩
  rw [← hpn] at hpk
  obtain rfl : PB = true := hpk
  have hpe : pickE g L n = 0 := by unfold pickE; rw [← hpn]; rfl
  have hpq : pickK g L n = (PQ : Int) := by unfold pickK; rw [← hpn]; rfl
  simp only [← hpn, hpe] at HPI0
  simp only [← hpn, hpq] at HNW0
  rw [← hpn] at HPL
  dsimp only at HPI0 HNW0 HPL
  have HPI := hide HPI0
  have HNW := hide HNW0
  have HKP := hide fun (V U : Option Addr) (p q r u : Nat) (w : World) (h : Sl homR 3 w (Old w) V p q PA.homes) (h2 : Sl homR 3 w (Old w) U r u PA.homes) => keepa_same9 (x := PA) h h2 HPL.out
  have pq0 : ¬ (PQ : Int) < 0 := by omega
  have pq1 : ((PQ : Int) != (PQ : Int)) = false := by simp
  clear HPI0 HNW0 hpn hpe hpq hln
  obtain ⟨ii, rfl⟩ : ∃ ii : Nat, i = (ii : Int) := ⟨i.toNat, by omega⟩
  have hga := hg.2.2.2.2
  have HCE := hide fun w hT h => ncell_yes g a D na ca ii w hT h hin HL.out ⟨hg, hck.1, hck.2.1, hck.2.2⟩
  have HRC := hide fun w h => rancell_yes hg hck.1 (i := ii) (by omega) (A := D) (n := na) (c := ca) (w := w) h
  have HRA := hide fun w h => ranchor_any g hg a D na ca w h hin HL.out
  rw [decide_eq_true hck.1] at HRA
  have i0 : ¬ (ii : Int) < 0 := by omega
  have i1 : ¬ g.anchors ≤ (ii : Int) := by omega
  obtain ⟨M, hM⟩ : ∃ M, M = (ancL a).length + 11 := ⟨_, rfl⟩
  have hM9 : M ≤ 200 := by have := (anc_room hg hck.1).2; omega
  obtain ⟨CB, hCB⟩ : ∃ CB, CB = sealL ii a.gen.toNat (ancL a) := ⟨_, rfl⟩
  rw [← hM, ← hCB] at HCE HRC
  have HBB := hide fun (V U : Option Addr) (q u : Nat) (w : World) (h : Bs w V M q CB) (h2 : Bs w U M u CB) => (bytes_any V U M q M u CB CB w h h2 (by omega)).mono (fun e w' (hh : e = .returned (.bool (decide (CB = CB))) ∧ ∃ q, w' = w.drewN q) => (⟨by rw [hh.1, decide_eq_true rfl], by obtain ⟨_, q, rfl⟩ := hh; exact drewN_below _ q⟩ : e = .returned (.bool true) ∧ Below w.heap.size w w'))
  clear hM hCB hga hck hi
  clear hin HH2
  unfold Geo.v at *
  unfold Anc.v at *
  unfold noAnc at *
  dsimp only at *
  rcases hadr with hadr | hadr
  all_goals
    have adn : ¬ addr < 0 ∨ addr < 0 := by omega
    first
      | (have ad0 : ¬ addr < 0 := by omega; skip)
      | skip
    go_enter Tryd.func12, Tryd.ntmps12
    go_upto_region 1 with fail
    rw [← hW0]
    clear hW0
    go_wp2_with fail
    with_reducible refine (HHV.out _ hl0).mono ?_
    rintro e w1 ⟨rfl, rfl⟩
    obtain ⟨x0, x1⟩ := HXB.out _ (Below.refl _ _)
    obtain ⟨W1, hW1⟩ : ∃ W1, W1 = W0.alloc (.cells #[.int .i64 x.err, .slice B nb cb] 78) := ⟨_, rfl⟩
    have hE1 : Below W0.heap.size W0 W1 := by rw [hW1]; exact alloc_below _ _
    have hlx : Sl gotR 2 W1 (Old W1) (some ⟨W0.heap.size, 0, none⟩) 1 1 [x] := by rw [hW1]; exact lit_got1 _ rfl hx0 hxe
    go_wp2_with fail
    rw [← hW1]
    clear hW1 x0 x1
    with_reducible refine (HHX.out _ _ hlx).mono ?_
    rintro e w1 ⟨rfl, rfl⟩
    obtain ⟨q0, q1, q2, q3, q4, q5, q6⟩ := HSV.out.onB hN2 hE1
    go_wp2_with fail
    with_reducible refine (HHA.out _ (ha0.on homR_fine hE1)).mono ?_
    rintro e w2 ⟨rfl, hb2⟩
    have hb02 := th hE1 hb2
    clear q0 q1 q2 q3 q4 q5 q6
    go_wp2_with fail
    with_reducible refine (HKT.out _ (hl0.on gotR_fine hb02)).mono ?_
    rintro e w3 ⟨hb3, VI, ci, rfl, hin3⟩
    have hb03 := th hb02 hb3
    obtain ⟨_, p0, p1, p2, p3, p4⟩ := HGB.out.on hb03
    obtain ⟨x0, x1⟩ := HXB.out _ hb03
    go_wp2_with fail
    with_reducible refine (HSY.out _ (hT.below (th hb0 hb03)) (hx0.on byteR_fine hb03)).mono ?_
    rintro e w4 ⟨hb4, V4, m4, c4, rfl, hs4⟩
    obtain ⟨W5, hW5⟩ : ∃ W5, W5 = w4.alloc (.cells #[.int .i64 0, .int .i64 0, .int .i64 0, .int .i64 0, .int .i64 0, .string ⟨#[]⟩, .slice V4 m4 c4] 26) := ⟨_, rfl⟩
    have hE5 : Below w4.heap.size w4 W5 := by rw [hW5]; exact alloc_below _ _
    have hN5 : w4.heap.size < W5.heap.size := by rw [hW5]; simp
    have hv5 : Sev W5 w4.heap.size (.int .i64 0) (.int .i64 0) (.int .i64 0) (.int .i64 0) (.int .i64 0) (.string ⟨#[]⟩) (.slice V4 m4 c4) := by rw [hW5]; exact Sev.new rfl (Below.refl _ _)
    have HVS := hide hv5
    have hs5 := hs4.on homR_fine hE5
    have hb35 := th hb4 hE5
    have hb05 := th hb03 hb35
    clear hv5 p0 p1 p2 p3 p4
    clear x0 x1
    go_upto_region 5 with fail
    rw [← hW5]
    clear hW5
    obtain ⟨_, p0, p1, p2, p3, p4⟩ := HGB.out.on hb05
    go_wp2_with fail
    with_reducible refine (HPI.out _ _ _ (hT.below (th hb0 hb05)) (hin3.on gotR_fine hb35)).mono ?_
    rintro e w6 ⟨hb6, V6, m6, c6, rfl, hp6⟩
    obtain ⟨W7, hW7⟩ : ∃ W7, W7 = w6.alloc (.cells #[.int .i64 PA.gen, .int .i64 PA.epoch, .int .i64 PA.pos, .int .i64 PA.seq, .int .i64 PA.last, .string PA.label, .slice V6 m6 c6] 26) := ⟨_, rfl⟩
    have hE7 : Below w6.heap.size w6 W7 := by rw [hW7]; exact alloc_below _ _
    have hN7 : w6.heap.size < W7.heap.size := by rw [hW7]; simp
    have hv7 : Sev W7 w6.heap.size (.int .i64 PA.gen) (.int .i64 PA.epoch) (.int .i64 PA.pos) (.int .i64 PA.seq) (.int .i64 PA.last) (.string PA.label) (.slice V6 m6 c6) := by rw [hW7]; exact Sev.new rfl (Below.refl _ _)
    have HVP := hide hv7
    have hp7 := hp6.on homR_fine hE7
    have hb57 := th hb6 hE7
    have hb07 := th hb05 hb57
    clear hv7 p0 p1 p2 p3 p4
    go_upto_region 6 with fail
    rw [← hW7]
    clear hW7
    obtain ⟨_, p0, p1, p2, p3, p4⟩ := HGB.out.on hb07
    obtain ⟨q0, q1, q2, q3, q4, q5, q6⟩ := HSV.out.onB hN2 hb07
    go_wp2_with fail
    with_reducible refine (HCE.out _ (hT.below (th hb0 hb07)) (ha0.on homR_fine hb07)).mono ?_
    rintro e w8 ⟨V8, c8, rfl, ho8, hb8⟩
    have hc8 := ho8.read byteR_fine
    obtain ⟨W9, hW9⟩ : ∃ W9, W9 = w8.alloc (.cells #[.int .i64 0, .int .i64 0, .int .i64 0, .int .i64 0, .int .i64 0, .string ⟨#[]⟩, .slice none 0 0] 26) := ⟨_, rfl⟩
    have hE9 : Below w8.heap.size w8 W9 := by rw [hW9]; exact alloc_below _ _
    have hN9 : w8.heap.size < W9.heap.size := by rw [hW9]; simp
    have hv9 : Sev W9 w8.heap.size (.int .i64 0) (.int .i64 0) (.int .i64 0) (.int .i64 0) (.int .i64 0) (.string ⟨#[]⟩) (.slice none 0 0) := by rw [hW9]; exact Sev.new rfl (Below.refl _ _)
    have HVN := hide hv9
    have hb79 := th hb8 hE9
    have hb59 := th hb57 hb79
    have hb39 := th hb35 hb59
    have hb09 := th hb03 hb39
    clear hv9 p0 p1 p2 p3 p4
    clear q0 q1 q2 q3 q4 q5 q6
    go_upto_region 8 with fail
    rw [← hW9]
    clear hW9
    go_wp2_with fail
    with_reducible refine (HKG.out _ _ _ (hin3.on gotR_fine hb39) (hl0.on gotR_fine hb09)).mono ?_
    rintro e w10 ⟨rfl, hq10⟩
    have hb910 : Below W9.heap.size W9 w10 := by obtain ⟨q, rfl⟩ := hq10; exact drewN_below _ q
    clear hq10
    have hb010 := th hb09 hb910
    obtain ⟨_, p0, p1, p2, p3, p4⟩ := HGB.out.on hb010
    go_wp2_with fail
    with_reducible refine (HGE.out _).mono ?_
    rintro e w11 ⟨rfl, hb11⟩
    have hb911 := th hb910 hb11
    have hb011 := th hb010 hb11
    clear p0 p1 p2 p3 p4
    obtain ⟨_, p0, p1, p2, p3, p4⟩ := HGB.out.on hb011
    obtain ⟨x0, x1⟩ := HXB.out _ hb011
    go_wp2_with fail
    with_reducible refine (HRS.out _ (hx0.on byteR_fine hb011)).mono ?_
    rintro e w12 ⟨hb12, V12, m12, c12, rfl, hs12⟩
    obtain ⟨W13, hW13⟩ : ∃ W13, W13 = w12.alloc (.cells #[.int .i64 0, .int .i64 0, .int .i64 0, .int .i64 0, .int .i64 0, .string ⟨#[]⟩, .slice V12 m12 c12] 26) := ⟨_, rfl⟩
    have hE13 : Below w12.heap.size w12 W13 := by rw [hW13]; exact alloc_below _ _
    have hN13 : w12.heap.size < W13.heap.size := by rw [hW13]; simp
    have hv13 : Sev W13 w12.heap.size (.int .i64 0) (.int .i64 0) (.int .i64 0) (.int .i64 0) (.int .i64 0) (.string ⟨#[]⟩) (.slice V12 m12 c12) := by rw [hW13]; exact Sev.new rfl (Below.refl _ _)
    have hf13 : ∀ k, W13.frozen? ⟨w12.heap.size, k, none⟩ = false := fun k => by rw [hW13]; exact box_free (Below.refl _ _) k
    have hb913 := th hb911 (th hb12 hE13)
    have hb013 := th hb011 (th hb12 hE13)
    have hw13 := (hs12.old_ homR_fine).on homR_fine hE13
    clear p0 p1 p2 p3 p4
    clear x0 x1
    go_upto_region 13 with fail
    rw [← hW13]
    clear hW13
    have hpu := put7_sev hv13 (.int .i64 0) (.int .i64 0) (.int .i64 0) (.int .i64 0) (.int .i64 0) (.string ⟨#[]⟩) (.slice none 0 0)
    have hpb := put7_below (Below.refl W13.heap.size W13) (show W13.heap.size ≤ W13.heap.size from Nat.le_refl _) (.int .i64 0) (.int .i64 0) (.int .i64 0) (.int .i64 0) (.int .i64 0) (.string ⟨#[]⟩) (.slice none 0 0)
    obtain ⟨W14, hW14⟩ : ∃ W14, W14 = put7 W13 w12.heap.size (.int .i64 0) (.int .i64 0) (.int .i64 0) (.int .i64 0) (.int .i64 0) (.string ⟨#[]⟩) (.slice none 0 0) := ⟨_, rfl⟩
    have hb1314 : Below w12.heap.size w12 W14 := by rw [hW14]; exact put7_below hE13 (Nat.le_refl _) _ _ _ _ _ _ _
    have hN14 : w12.heap.size < W14.heap.size := Nat.lt_of_lt_of_le hN13 (by rw [hW14]; unfold put7; simp only [set_size]; exact Nat.le_refl _)
    have HVT : Hid (Sev W14 w12.heap.size (.int .i64 0) (.int .i64 0) (.int .i64 0) (.int .i64 0) (.int .i64 0) (.string ⟨#[]⟩) (.slice none 0 0)) := hide (by rw [hW14]; exact hpu)
    have hb914 := th hb911 (th hb12 hb1314)
    have hb014 := th hb011 (th hb12 hb1314)
    have g0 := hf13 0
    have g1 := hf13 1
    have g2 := hf13 2
    have g3 := hf13 3
    have g4 := hf13 4
    have g5 := hf13 5
    have g6 := hf13 6
    obtain ⟨t0, t1, t2, t3, t4, t5, t6⟩ := hv13
    unfold put7 at hW14
    clear hpu hpb hf13
    obtain ⟨n0, n1, n2, n3, n4, n5, n6⟩ := HVN.out.on hN9 hb913
    go_upto_region 15 with fail
    rw [← hW14]
    clear hW14 t0 t1 t2 t3 t4 t5 t6 g0 g1 g2 g3 g4 g5 g6 n0 n1 n2 n3 n4 n5 n6
    obtain ⟨t0, t1, t2, t3, t4, t5, t6⟩ := HVT.out
    obtain ⟨s0, s1, s2, s3, s4, s5, s6⟩ := HVS.out.on hN5 (th hb59 hb914)
    go_wp2_with fail
    with_reducible refine (HNN.out _ _ _ _ (hs5.on homR_fine (th hb59 hb914))).mono ?_
    rintro e w15 ⟨rfl, hb15⟩
    have hb914 := th hb914 hb15
    have hb014 := th hb014 hb15
    clear t0 t1 t2 t3 t4 t5 t6
    clear s0 s1 s2 s3 s4 s5 s6
    obtain ⟨_, p0, p1, p2, p3, p4⟩ := HGB.out.on hb014
    go_wp2_with fail
    with_reducible refine (HNW.out _ (hl0.on gotR_fine hb014)).mono ?_
    rintro e w15 ⟨hb15, V16, m16, c16, rfl, hq16⟩
    obtain ⟨W16, hW16⟩ : ∃ W16, W16 = w15.alloc (.cells #[.int .i64 PA.gen, .int .i64 PA.epoch, .int .i64 PA.pos, .int .i64 PA.seq, .int .i64 PA.last, .string PA.label, .slice V16 m16 c16] 26) := ⟨_, rfl⟩
    have hE16 : Below w15.heap.size w15 W16 := by rw [hW16]; exact alloc_below _ _
    have hv16 : Sev W16 w15.heap.size (.int .i64 PA.gen) (.int .i64 PA.epoch) (.int .i64 PA.pos) (.int .i64 PA.seq) (.int .i64 PA.last) (.string PA.label) (.slice V16 m16 c16) := by rw [hW16]; exact Sev.new rfl (Below.refl _ _)
    have hq17 := hq16.on homR_fine hE16
    have hb9x := th hb914 (th hb15 hE16)
    have hb0x := th hb014 (th hb15 hE16)
    have HVQ := hide hv16
    clear hv16 p0 p1 p2 p3 p4
    go_upto_region 21 with fail
    rw [← hW16]
    clear hW16
    obtain ⟨r0, r1, r2, r3, r4, r5, r6⟩ := HVP.out.on hN7 (th hb79 hb9x)
    obtain ⟨u0, u1, u2, u3, u4, u5, u6⟩ := HVQ.out
    go_wp2_with fail
    with_reducible refine (HKP.out _ _ _ _ _ _ _ (hp7.on homR_fine (th hb79 hb9x)) hq17).mono ?_
    rintro e w16 ⟨rfl, hb16⟩
    clear u0 u1 u2 u3 u4 u5 u6
    have hb916 := th hb9x hb16
    have hb016 := th hb0x hb16
    clear r0 r1 r2 r3 r4 r5 r6
    obtain ⟨_, p0, p1, p2, p3, p4⟩ := HGB.out.on hb016
    obtain ⟨q0, q1, q2, q3, q4, q5, q6⟩ := HSV.out.onB hN2 hb016
    go_wp2_with fail
    with_reducible refine (HRA.out _ (ha0.on homR_fine hb016)).mono ?_
    rintro e w17 ⟨rfl, hb17⟩
    have hb917 := th hb916 hb17
    have hb017 := th hb016 hb17
    clear p0 p1 p2 p3 p4
    clear q0 q1 q2 q3 q4 q5 q6
    obtain ⟨_, p0, p1, p2, p3, p4⟩ := HGB.out.on hb017
    obtain ⟨q0, q1, q2, q3, q4, q5, q6⟩ := HSV.out.onB hN2 hb017
    go_wp2_with fail
    with_reducible refine (HRC.out _ (ha0.on homR_fine hb017)).mono ?_
    rintro e w18 ⟨hb18, V18, c18, rfl, hs18⟩
    have hb018 := th hb017 hb18
    clear p0 p1 p2 p3 p4
    clear q0 q1 q2 q3 q4 q5 q6
    go_wp2_with fail
    with_reducible refine (HBB.out _ _ _ _ _ (hc8.on byteR_fine (th hE9 (th hb917 hb18))) hs18).mono ?_
    rintro e w19 ⟨rfl, hb19⟩
    have hb019 := th hb018 hb19
    go_wp2_with fail
    with_reducible refine (wakes09 _ (hT.below (th hb0 hb019))).mono ?_
    rintro e w30 ⟨rfl, hb30⟩
    go_wp2_with fail
    go_ret
    exact ⟨rfl, th hb0 (th hb019 hb30)⟩

set_option maxHeartbeats 16000000 in
theorem ne_0some0 {w : World} (hT : Tabs w) (g : Geo) (a : Anc) (x : Gt) (A B D : Option Addr) (n c nb cb na ca : Nat) (L : List Gt) (addr i : Int) (hl : Sl gotR 2 w (Old w) A n c L) (hxe : InI x.err) (hx : Bs w B nb cb x.bytes) (ha : Sl homR 3 w (Old w) D na ca a.homes) (hin : a.In) (hi : InI i) (HH1 : heavyG L = false) (HH2 : nb ≤ 300) (HH3 : heavyA a = false) (hg : GeoOk g) (had : ¬ (0 ≤ addr ∧ addr ≤ 65535)) (hln : (n : Int) = g.anchors) (hpk : (pickN g L n).2.2 = true) (hck : ¬ (AncOk g a ∧ 0 ≤ i ∧ i ≤ g.anchors - 1)) :
    Calls Tryd.prog 12 #[g.v, .slice A n c, .agg #[.int .i64 x.err, .slice B nb cb], .int .i64 addr, a.v (.slice D na ca), .int .i64 i] w fun e w' => e = .returned (.bool true) ∧ Below w.heap.size w w' := by
  have HHV := hide fun w h => heavyg_any A n c L w h
  have HHX := hide fun N (w : World) (h : Sl gotR 2 w (Old w) (some ⟨N, 0, none⟩) 1 1 [x]) => heavyg_any (some ⟨N, 0, none⟩) 1 1 [x] w h
  have hxl := hx.len
  rw [heavyG_ok (L := [x]) (by show 1 ≤ 80; omega) (fun j y hj hy => by have := List.mem_of_getElem? hy; simp at this; subst this; omega)] at HHX
  rw [HH1] at HHV
  have HHA := hide fun w h => heavya_any a D na ca w h
  rw [HH3] at HHA
  have HL := hide (heavyA_light HH3)
  have HGL := hide (heavyG_no HH1)
  have hn80 : n ≤ 80 := by have := HGL.out.1; have := hl.len; omega
  have HKT := hide fun w h => katg_any A n c L w h (by omega) (fun y hy => by have := HGL.out.2 y hy; omega)
  have HKG := hide fun (V : Option Addr) (q : Nat) (w : World) (h : Sl gotR 2 w (Old w) V n q L) (h2 : Sl gotR 2 w (Old w) A n c L) => gots_true V A n q c L w h h2 (by omega) (fun y hy => by have := HGL.out.2 y hy; omega)
  have HSY := hide fun w hT h => nsays_sym g x.err B nb cb x.bytes addr w hT h (by omega)
  have HGE := hide fun w => rgeo_any g w
  rw [decide_eq_true hg] at HGE
  have HNN := hide fun (V : Option Addr) (m q : Nat) (w : World) (h : Sl homR 3 w (Old w) V m q noAnc.homes) => keepa_same9 (x := noAnc) (B := none) (m := 0) (d := 0) h (Sl.nil_ _) no_light
  obtain ⟨W0, hW0⟩ : ∃ W0, W0 = ((w.alloc (.cells #[.int .i64 g.zones, .int .i64 g.data, .int .i64 g.spares, .int .i64 g.slots, .int .i64 g.anchors] 23)).alloc (.cells #[.int .i64 x.err, .slice B nb cb] 78)).alloc (.cells #[.int .i64 a.gen, .int .i64 a.epoch, .int .i64 a.pos, .int .i64 a.seq, .int .i64 a.last, .string a.label, .slice D na ca] 26) := ⟨_, rfl⟩
  have hb0 : Below w.heap.size w W0 := by rw [hW0]; exact ((alloc_below w _).alloc (by simp) _).alloc (by simp; omega) _
  have hl0 := hl.on gotR_fine hb0
  have hx0 := hx.on byteR_fine hb0
  have ha0 := ha.on homR_fine hb0
  have hgb : GeoAt W0 w.heap.size g := by rw [hW0]; exact (GeoAt.new w g 23).on ((alloc_below _ _).alloc (by simp) _)
  have hxb : ∀ W, Below W0.heap.size W0 W → W.cell? ⟨w.heap.size + 1, 0, none⟩ = some (.int .i64 x.err) ∧ W.cell? ⟨w.heap.size + 1, 1, none⟩ = some (.slice B nb cb) := fun W hW => by
    have h0 : W0.cell? ⟨w.heap.size + 1, 0, none⟩ = some (.int .i64 x.err) ∧ W0.cell? ⟨w.heap.size + 1, 1, none⟩ = some (.slice B nb cb) := by
      rw [hW0]
      exact ⟨bx_at2 (by simp) (alloc_below _ _) 0 _ rfl, bx_at2 (by simp) (alloc_below _ _) 1 _ rfl⟩
    have hs : w.heap.size + 1 < W0.heap.size := by rw [hW0]; simp
    exact ⟨(hW.cell (p := ⟨w.heap.size + 1, 0, none⟩) hs).trans h0.1, (hW.cell (p := ⟨w.heap.size + 1, 1, none⟩) hs).trans h0.2⟩
  have hsv : Sev W0 (w.heap.size + 1 + 1) (.int .i64 a.gen) (.int .i64 a.epoch) (.int .i64 a.pos) (.int .i64 a.seq) (.int .i64 a.last) (.string a.label) (.slice D na ca) := by rw [hW0]; exact Sev.new (by simp) (Below.refl _ _)
  have hN2 : w.heap.size + 1 + 1 < W0.heap.size := by rw [hW0]; simp
  have HSV := hide hsv
  have HGB := hide hgb
  have HXB := hide hxb
  clear hgb hxb hsv hl hx ha HH1 HH3 hxl
  have HSL := hide (says_light g x.err x.bytes addr)
  obtain ⟨SA, hSA⟩ : ∃ SA, SA = sA (saysN g x.err x.bytes addr) := ⟨_, rfl⟩
  obtain ⟨SR, hSR⟩ : ∃ SR, SR = sR (saysN g x.err x.bytes addr) := ⟨_, rfl⟩
  rw [← hSA, ← hSR] at HSY
  rw [← hSA] at HSL
  have HRS := hide fun w h => rsays_any g hg x.err B nb cb x.bytes addr w h (by omega)
  rw [← hSA, ← hSR] at HRS
  have hnone : saysN g x.err x.bytes addr = none := if_neg fun h => had h.2.1
  rw [hnone] at hSA hSR
  obtain rfl : SA = noAnc := hSA
  obtain rfl : SR = false := hSR
  have hadr : addr < 0 ∨ 65535 < addr := by omega
  clear hnone
  have HPI0 := fun (V : Option Addr) (q : Nat) (w : World) (hT : Tabs w) (h : Sl gotR 2 w (Old w) V n q L) => npick_yes g hg V n q L w hT h hln (fun y hy => by have := HGL.out.2 y hy; omega)
  have HNW0 := fun w h => rnewest_any g hg A n c L w h (by omega) (fun y hy => by have := HGL.out.2 y hy; omega)
  have hln1 : ((n : Int) != g.anchors) = false := by simpa using hln
  have HLNE := hide hln
  have HPL := hide (pick_light g L n)
  obtain ⟨⟨PA, PQ, PB⟩, hpn⟩ : ∃ P, P = pickN g L n := ⟨_, rfl⟩
  rw [← hpn] at hpk
  obtain rfl : PB = true := hpk
  have hpe : pickE g L n = 0 := by unfold pickE; rw [← hpn]; rfl
  have hpq : pickK g L n = (PQ : Int) := by unfold pickK; rw [← hpn]; rfl
  simp only [← hpn, hpe] at HPI0
  simp only [← hpn, hpq] at HNW0
  rw [← hpn] at HPL
  dsimp only at HPI0 HNW0 HPL
  have HPI := hide HPI0
  have HNW := hide HNW0
  have HKP := hide fun (V U : Option Addr) (p q r u : Nat) (w : World) (h : Sl homR 3 w (Old w) V p q PA.homes) (h2 : Sl homR 3 w (Old w) U r u PA.homes) => keepa_same9 (x := PA) h h2 HPL.out
  have pq0 : ¬ (PQ : Int) < 0 := by omega
  have pq1 : ((PQ : Int) != (PQ : Int)) = false := by simp
  clear HPI0 HNW0 hpn hpe hpq hln
  have HCE := hide fun w hT h => ncell_no g a D na ca i hi w hT h hin HL.out (fun h => hck ⟨h.2.1, h.2.2.1, h.2.2.2⟩)
  have HRA := hide fun w h => ranchor_any g hg a D na ca w h hin HL.out
  clear hin HH2
  unfold Geo.v at *
  unfold Anc.v at *
  unfold noAnc at *
  dsimp only at *
  by_cases hok : AncOk g a
  · rw [decide_eq_true hok] at HRA
    have hii : i < 0 ∨ g.anchors ≤ i := by
      by_cases h : i < 0
      · exact .inl h
      · by_cases h2 : i ≤ g.anchors - 1
        · exact absurd ⟨hok, by omega, h2⟩ hck
        · exact .inr (by omega)
    clear hck hok
    by_cases i0 : i < 0
    · clear hii
      rcases hadr with hadr | hadr
      all_goals
        have adn : ¬ addr < 0 ∨ addr < 0 := by omega
        first
          | (have ad0 : ¬ addr < 0 := by omega; skip)
          | skip
        go_enter Tryd.func12, Tryd.ntmps12
        go_upto_region 1 with fail
        rw [← hW0]
        clear hW0
        go_wp2_with fail
        with_reducible refine (HHV.out _ hl0).mono ?_
        rintro e w1 ⟨rfl, rfl⟩
        obtain ⟨x0, x1⟩ := HXB.out _ (Below.refl _ _)
        obtain ⟨W1, hW1⟩ : ∃ W1, W1 = W0.alloc (.cells #[.int .i64 x.err, .slice B nb cb] 78) := ⟨_, rfl⟩
        have hE1 : Below W0.heap.size W0 W1 := by rw [hW1]; exact alloc_below _ _
        have hlx : Sl gotR 2 W1 (Old W1) (some ⟨W0.heap.size, 0, none⟩) 1 1 [x] := by rw [hW1]; exact lit_got1 _ rfl hx0 hxe
        go_wp2_with fail
        rw [← hW1]
        clear hW1 x0 x1
        with_reducible refine (HHX.out _ _ hlx).mono ?_
        rintro e w1 ⟨rfl, rfl⟩
        obtain ⟨q0, q1, q2, q3, q4, q5, q6⟩ := HSV.out.onB hN2 hE1
        go_wp2_with fail
        with_reducible refine (HHA.out _ (ha0.on homR_fine hE1)).mono ?_
        rintro e w2 ⟨rfl, hb2⟩
        have hb02 := th hE1 hb2
        clear q0 q1 q2 q3 q4 q5 q6
        go_wp2_with fail
        with_reducible refine (HKT.out _ (hl0.on gotR_fine hb02)).mono ?_
        rintro e w3 ⟨hb3, VI, ci, rfl, hin3⟩
        have hb03 := th hb02 hb3
        obtain ⟨_, p0, p1, p2, p3, p4⟩ := HGB.out.on hb03
        obtain ⟨x0, x1⟩ := HXB.out _ hb03
        go_wp2_with fail
        with_reducible refine (HSY.out _ (hT.below (th hb0 hb03)) (hx0.on byteR_fine hb03)).mono ?_
        rintro e w4 ⟨hb4, V4, m4, c4, rfl, hs4⟩
        obtain ⟨W5, hW5⟩ : ∃ W5, W5 = w4.alloc (.cells #[.int .i64 0, .int .i64 0, .int .i64 0, .int .i64 0, .int .i64 0, .string ⟨#[]⟩, .slice V4 m4 c4] 26) := ⟨_, rfl⟩
        have hE5 : Below w4.heap.size w4 W5 := by rw [hW5]; exact alloc_below _ _
        have hN5 : w4.heap.size < W5.heap.size := by rw [hW5]; simp
        have hv5 : Sev W5 w4.heap.size (.int .i64 0) (.int .i64 0) (.int .i64 0) (.int .i64 0) (.int .i64 0) (.string ⟨#[]⟩) (.slice V4 m4 c4) := by rw [hW5]; exact Sev.new rfl (Below.refl _ _)
        have HVS := hide hv5
        have hs5 := hs4.on homR_fine hE5
        have hb35 := th hb4 hE5
        have hb05 := th hb03 hb35
        clear hv5 p0 p1 p2 p3 p4
        clear x0 x1
        go_upto_region 5 with fail
        rw [← hW5]
        clear hW5
        obtain ⟨_, p0, p1, p2, p3, p4⟩ := HGB.out.on hb05
        go_wp2_with fail
        with_reducible refine (HPI.out _ _ _ (hT.below (th hb0 hb05)) (hin3.on gotR_fine hb35)).mono ?_
        rintro e w6 ⟨hb6, V6, m6, c6, rfl, hp6⟩
        obtain ⟨W7, hW7⟩ : ∃ W7, W7 = w6.alloc (.cells #[.int .i64 PA.gen, .int .i64 PA.epoch, .int .i64 PA.pos, .int .i64 PA.seq, .int .i64 PA.last, .string PA.label, .slice V6 m6 c6] 26) := ⟨_, rfl⟩
        have hE7 : Below w6.heap.size w6 W7 := by rw [hW7]; exact alloc_below _ _
        have hN7 : w6.heap.size < W7.heap.size := by rw [hW7]; simp
        have hv7 : Sev W7 w6.heap.size (.int .i64 PA.gen) (.int .i64 PA.epoch) (.int .i64 PA.pos) (.int .i64 PA.seq) (.int .i64 PA.last) (.string PA.label) (.slice V6 m6 c6) := by rw [hW7]; exact Sev.new rfl (Below.refl _ _)
        have HVP := hide hv7
        have hp7 := hp6.on homR_fine hE7
        have hb57 := th hb6 hE7
        have hb07 := th hb05 hb57
        clear hv7 p0 p1 p2 p3 p4
        go_upto_region 6 with fail
        rw [← hW7]
        clear hW7
        obtain ⟨_, p0, p1, p2, p3, p4⟩ := HGB.out.on hb07
        obtain ⟨q0, q1, q2, q3, q4, q5, q6⟩ := HSV.out.onB hN2 hb07
        go_wp2_with fail
        with_reducible refine (HCE.out _ (hT.below (th hb0 hb07)) (ha0.on homR_fine hb07)).mono ?_
        rintro e w8 ⟨rfl, hb8⟩
        obtain ⟨W9, hW9⟩ : ∃ W9, W9 = w8.alloc (.cells #[.int .i64 0, .int .i64 0, .int .i64 0, .int .i64 0, .int .i64 0, .string ⟨#[]⟩, .slice none 0 0] 26) := ⟨_, rfl⟩
        have hE9 : Below w8.heap.size w8 W9 := by rw [hW9]; exact alloc_below _ _
        have hN9 : w8.heap.size < W9.heap.size := by rw [hW9]; simp
        have hv9 : Sev W9 w8.heap.size (.int .i64 0) (.int .i64 0) (.int .i64 0) (.int .i64 0) (.int .i64 0) (.string ⟨#[]⟩) (.slice none 0 0) := by rw [hW9]; exact Sev.new rfl (Below.refl _ _)
        have HVN := hide hv9
        have hb79 := th hb8 hE9
        have hb59 := th hb57 hb79
        have hb39 := th hb35 hb59
        have hb09 := th hb03 hb39
        clear hv9 p0 p1 p2 p3 p4
        clear q0 q1 q2 q3 q4 q5 q6
        go_upto_region 8 with fail
        rw [← hW9]
        clear hW9
        go_wp2_with fail
        with_reducible refine (HKG.out _ _ _ (hin3.on gotR_fine hb39) (hl0.on gotR_fine hb09)).mono ?_
        rintro e w10 ⟨rfl, hq10⟩
        have hb910 : Below W9.heap.size W9 w10 := by obtain ⟨q, rfl⟩ := hq10; exact drewN_below _ q
        clear hq10
        have hb010 := th hb09 hb910
        obtain ⟨_, p0, p1, p2, p3, p4⟩ := HGB.out.on hb010
        go_wp2_with fail
        with_reducible refine (HGE.out _).mono ?_
        rintro e w11 ⟨rfl, hb11⟩
        have hb911 := th hb910 hb11
        have hb011 := th hb010 hb11
        clear p0 p1 p2 p3 p4
        obtain ⟨_, p0, p1, p2, p3, p4⟩ := HGB.out.on hb011
        obtain ⟨x0, x1⟩ := HXB.out _ hb011
        go_wp2_with fail
        with_reducible refine (HRS.out _ (hx0.on byteR_fine hb011)).mono ?_
        rintro e w12 ⟨hb12, V12, m12, c12, rfl, hs12⟩
        obtain ⟨W13, hW13⟩ : ∃ W13, W13 = w12.alloc (.cells #[.int .i64 0, .int .i64 0, .int .i64 0, .int .i64 0, .int .i64 0, .string ⟨#[]⟩, .slice V12 m12 c12] 26) := ⟨_, rfl⟩
        have hE13 : Below w12.heap.size w12 W13 := by rw [hW13]; exact alloc_below _ _
        have hN13 : w12.heap.size < W13.heap.size := by rw [hW13]; simp
        have hv13 : Sev W13 w12.heap.size (.int .i64 0) (.int .i64 0) (.int .i64 0) (.int .i64 0) (.int .i64 0) (.string ⟨#[]⟩) (.slice V12 m12 c12) := by rw [hW13]; exact Sev.new rfl (Below.refl _ _)
        have hf13 : ∀ k, W13.frozen? ⟨w12.heap.size, k, none⟩ = false := fun k => by rw [hW13]; exact box_free (Below.refl _ _) k
        have hb913 := th hb911 (th hb12 hE13)
        have hb013 := th hb011 (th hb12 hE13)
        have hw13 := (hs12.old_ homR_fine).on homR_fine hE13
        clear p0 p1 p2 p3 p4
        clear x0 x1
        go_upto_region 13 with fail
        rw [← hW13]
        clear hW13
        have hpu := put7_sev hv13 (.int .i64 0) (.int .i64 0) (.int .i64 0) (.int .i64 0) (.int .i64 0) (.string ⟨#[]⟩) (.slice none 0 0)
        have hpb := put7_below (Below.refl W13.heap.size W13) (show W13.heap.size ≤ W13.heap.size from Nat.le_refl _) (.int .i64 0) (.int .i64 0) (.int .i64 0) (.int .i64 0) (.int .i64 0) (.string ⟨#[]⟩) (.slice none 0 0)
        obtain ⟨W14, hW14⟩ : ∃ W14, W14 = put7 W13 w12.heap.size (.int .i64 0) (.int .i64 0) (.int .i64 0) (.int .i64 0) (.int .i64 0) (.string ⟨#[]⟩) (.slice none 0 0) := ⟨_, rfl⟩
        have hb1314 : Below w12.heap.size w12 W14 := by rw [hW14]; exact put7_below hE13 (Nat.le_refl _) _ _ _ _ _ _ _
        have hN14 : w12.heap.size < W14.heap.size := Nat.lt_of_lt_of_le hN13 (by rw [hW14]; unfold put7; simp only [set_size]; exact Nat.le_refl _)
        have HVT : Hid (Sev W14 w12.heap.size (.int .i64 0) (.int .i64 0) (.int .i64 0) (.int .i64 0) (.int .i64 0) (.string ⟨#[]⟩) (.slice none 0 0)) := hide (by rw [hW14]; exact hpu)
        have hb914 := th hb911 (th hb12 hb1314)
        have hb014 := th hb011 (th hb12 hb1314)
        have g0 := hf13 0
        have g1 := hf13 1
        have g2 := hf13 2
        have g3 := hf13 3
        have g4 := hf13 4
        have g5 := hf13 5
        have g6 := hf13 6
        obtain ⟨t0, t1, t2, t3, t4, t5, t6⟩ := hv13
        unfold put7 at hW14
        clear hpu hpb hf13
        obtain ⟨n0, n1, n2, n3, n4, n5, n6⟩ := HVN.out.on hN9 hb913
        go_upto_region 15 with fail
        rw [← hW14]
        clear hW14 t0 t1 t2 t3 t4 t5 t6 g0 g1 g2 g3 g4 g5 g6 n0 n1 n2 n3 n4 n5 n6
        obtain ⟨t0, t1, t2, t3, t4, t5, t6⟩ := HVT.out
        obtain ⟨s0, s1, s2, s3, s4, s5, s6⟩ := HVS.out.on hN5 (th hb59 hb914)
        go_wp2_with fail
        with_reducible refine (HNN.out _ _ _ _ (hs5.on homR_fine (th hb59 hb914))).mono ?_
        rintro e w15 ⟨rfl, hb15⟩
        have hb914 := th hb914 hb15
        have hb014 := th hb014 hb15
        clear t0 t1 t2 t3 t4 t5 t6
        clear s0 s1 s2 s3 s4 s5 s6
        obtain ⟨_, p0, p1, p2, p3, p4⟩ := HGB.out.on hb014
        go_wp2_with fail
        with_reducible refine (HNW.out _ (hl0.on gotR_fine hb014)).mono ?_
        rintro e w15 ⟨hb15, V16, m16, c16, rfl, hq16⟩
        obtain ⟨W16, hW16⟩ : ∃ W16, W16 = w15.alloc (.cells #[.int .i64 PA.gen, .int .i64 PA.epoch, .int .i64 PA.pos, .int .i64 PA.seq, .int .i64 PA.last, .string PA.label, .slice V16 m16 c16] 26) := ⟨_, rfl⟩
        have hE16 : Below w15.heap.size w15 W16 := by rw [hW16]; exact alloc_below _ _
        have hv16 : Sev W16 w15.heap.size (.int .i64 PA.gen) (.int .i64 PA.epoch) (.int .i64 PA.pos) (.int .i64 PA.seq) (.int .i64 PA.last) (.string PA.label) (.slice V16 m16 c16) := by rw [hW16]; exact Sev.new rfl (Below.refl _ _)
        have hq17 := hq16.on homR_fine hE16
        have hb9x := th hb914 (th hb15 hE16)
        have hb0x := th hb014 (th hb15 hE16)
        have HVQ := hide hv16
        clear hv16 p0 p1 p2 p3 p4
        go_upto_region 21 with fail
        rw [← hW16]
        clear hW16
        obtain ⟨r0, r1, r2, r3, r4, r5, r6⟩ := HVP.out.on hN7 (th hb79 hb9x)
        obtain ⟨u0, u1, u2, u3, u4, u5, u6⟩ := HVQ.out
        go_wp2_with fail
        with_reducible refine (HKP.out _ _ _ _ _ _ _ (hp7.on homR_fine (th hb79 hb9x)) hq17).mono ?_
        rintro e w16 ⟨rfl, hb16⟩
        clear u0 u1 u2 u3 u4 u5 u6
        have hb916 := th hb9x hb16
        have hb016 := th hb0x hb16
        clear r0 r1 r2 r3 r4 r5 r6
        obtain ⟨_, p0, p1, p2, p3, p4⟩ := HGB.out.on hb016
        obtain ⟨q0, q1, q2, q3, q4, q5, q6⟩ := HSV.out.onB hN2 hb016
        go_wp2_with fail
        with_reducible refine (HRA.out _ (ha0.on homR_fine hb016)).mono ?_
        rintro e w17 ⟨rfl, hb17⟩
        have hb917 := th hb916 hb17
        have hb017 := th hb016 hb17
        clear p0 p1 p2 p3 p4
        clear q0 q1 q2 q3 q4 q5 q6
        obtain ⟨_, p0, p1, p2, p3, p4⟩ := HGB.out.on hb017
        go_wp2_with fail
        with_reducible refine (wakes09 _ (hT.below (th hb0 hb017))).mono ?_
        rintro e w30 ⟨rfl, hb30⟩
        go_wp2_with fail
        go_ret
        exact ⟨rfl, th hb0 (th hb017 hb30)⟩
    · have i1 : g.anchors ≤ i := by rcases hii with h | h; exact absurd h i0; exact h
      clear hii
      rcases hadr with hadr | hadr
      all_goals
        have adn : ¬ addr < 0 ∨ addr < 0 := by omega
        first
          | (have ad0 : ¬ addr < 0 := by omega; skip)
          | skip
        go_enter Tryd.func12, Tryd.ntmps12
        go_upto_region 1 with fail
        rw [← hW0]
        clear hW0
        go_wp2_with fail
        with_reducible refine (HHV.out _ hl0).mono ?_
        rintro e w1 ⟨rfl, rfl⟩
        obtain ⟨x0, x1⟩ := HXB.out _ (Below.refl _ _)
        obtain ⟨W1, hW1⟩ : ∃ W1, W1 = W0.alloc (.cells #[.int .i64 x.err, .slice B nb cb] 78) := ⟨_, rfl⟩
        have hE1 : Below W0.heap.size W0 W1 := by rw [hW1]; exact alloc_below _ _
        have hlx : Sl gotR 2 W1 (Old W1) (some ⟨W0.heap.size, 0, none⟩) 1 1 [x] := by rw [hW1]; exact lit_got1 _ rfl hx0 hxe
        go_wp2_with fail
        rw [← hW1]
        clear hW1 x0 x1
        with_reducible refine (HHX.out _ _ hlx).mono ?_
        rintro e w1 ⟨rfl, rfl⟩
        obtain ⟨q0, q1, q2, q3, q4, q5, q6⟩ := HSV.out.onB hN2 hE1
        go_wp2_with fail
        with_reducible refine (HHA.out _ (ha0.on homR_fine hE1)).mono ?_
        rintro e w2 ⟨rfl, hb2⟩
        have hb02 := th hE1 hb2
        clear q0 q1 q2 q3 q4 q5 q6
        go_wp2_with fail
        with_reducible refine (HKT.out _ (hl0.on gotR_fine hb02)).mono ?_
        rintro e w3 ⟨hb3, VI, ci, rfl, hin3⟩
        have hb03 := th hb02 hb3
        obtain ⟨_, p0, p1, p2, p3, p4⟩ := HGB.out.on hb03
        obtain ⟨x0, x1⟩ := HXB.out _ hb03
        go_wp2_with fail
        with_reducible refine (HSY.out _ (hT.below (th hb0 hb03)) (hx0.on byteR_fine hb03)).mono ?_
        rintro e w4 ⟨hb4, V4, m4, c4, rfl, hs4⟩
        obtain ⟨W5, hW5⟩ : ∃ W5, W5 = w4.alloc (.cells #[.int .i64 0, .int .i64 0, .int .i64 0, .int .i64 0, .int .i64 0, .string ⟨#[]⟩, .slice V4 m4 c4] 26) := ⟨_, rfl⟩
        have hE5 : Below w4.heap.size w4 W5 := by rw [hW5]; exact alloc_below _ _
        have hN5 : w4.heap.size < W5.heap.size := by rw [hW5]; simp
        have hv5 : Sev W5 w4.heap.size (.int .i64 0) (.int .i64 0) (.int .i64 0) (.int .i64 0) (.int .i64 0) (.string ⟨#[]⟩) (.slice V4 m4 c4) := by rw [hW5]; exact Sev.new rfl (Below.refl _ _)
        have HVS := hide hv5
        have hs5 := hs4.on homR_fine hE5
        have hb35 := th hb4 hE5
        have hb05 := th hb03 hb35
        clear hv5 p0 p1 p2 p3 p4
        clear x0 x1
        go_upto_region 5 with fail
        rw [← hW5]
        clear hW5
        obtain ⟨_, p0, p1, p2, p3, p4⟩ := HGB.out.on hb05
        go_wp2_with fail
        with_reducible refine (HPI.out _ _ _ (hT.below (th hb0 hb05)) (hin3.on gotR_fine hb35)).mono ?_
        rintro e w6 ⟨hb6, V6, m6, c6, rfl, hp6⟩
        obtain ⟨W7, hW7⟩ : ∃ W7, W7 = w6.alloc (.cells #[.int .i64 PA.gen, .int .i64 PA.epoch, .int .i64 PA.pos, .int .i64 PA.seq, .int .i64 PA.last, .string PA.label, .slice V6 m6 c6] 26) := ⟨_, rfl⟩
        have hE7 : Below w6.heap.size w6 W7 := by rw [hW7]; exact alloc_below _ _
        have hN7 : w6.heap.size < W7.heap.size := by rw [hW7]; simp
        have hv7 : Sev W7 w6.heap.size (.int .i64 PA.gen) (.int .i64 PA.epoch) (.int .i64 PA.pos) (.int .i64 PA.seq) (.int .i64 PA.last) (.string PA.label) (.slice V6 m6 c6) := by rw [hW7]; exact Sev.new rfl (Below.refl _ _)
        have HVP := hide hv7
        have hp7 := hp6.on homR_fine hE7
        have hb57 := th hb6 hE7
        have hb07 := th hb05 hb57
        clear hv7 p0 p1 p2 p3 p4
        go_upto_region 6 with fail
        rw [← hW7]
        clear hW7
        obtain ⟨_, p0, p1, p2, p3, p4⟩ := HGB.out.on hb07
        obtain ⟨q0, q1, q2, q3, q4, q5, q6⟩ := HSV.out.onB hN2 hb07
        go_wp2_with fail
        with_reducible refine (HCE.out _ (hT.below (th hb0 hb07)) (ha0.on homR_fine hb07)).mono ?_
        rintro e w8 ⟨rfl, hb8⟩
        obtain ⟨W9, hW9⟩ : ∃ W9, W9 = w8.alloc (.cells #[.int .i64 0, .int .i64 0, .int .i64 0, .int .i64 0, .int .i64 0, .string ⟨#[]⟩, .slice none 0 0] 26) := ⟨_, rfl⟩
        have hE9 : Below w8.heap.size w8 W9 := by rw [hW9]; exact alloc_below _ _
        have hN9 : w8.heap.size < W9.heap.size := by rw [hW9]; simp
        have hv9 : Sev W9 w8.heap.size (.int .i64 0) (.int .i64 0) (.int .i64 0) (.int .i64 0) (.int .i64 0) (.string ⟨#[]⟩) (.slice none 0 0) := by rw [hW9]; exact Sev.new rfl (Below.refl _ _)
        have HVN := hide hv9
        have hb79 := th hb8 hE9
        have hb59 := th hb57 hb79
        have hb39 := th hb35 hb59
        have hb09 := th hb03 hb39
        clear hv9 p0 p1 p2 p3 p4
        clear q0 q1 q2 q3 q4 q5 q6
        go_upto_region 8 with fail
        rw [← hW9]
        clear hW9
        go_wp2_with fail
        with_reducible refine (HKG.out _ _ _ (hin3.on gotR_fine hb39) (hl0.on gotR_fine hb09)).mono ?_
        rintro e w10 ⟨rfl, hq10⟩
        have hb910 : Below W9.heap.size W9 w10 := by obtain ⟨q, rfl⟩ := hq10; exact drewN_below _ q
        clear hq10
        have hb010 := th hb09 hb910
        obtain ⟨_, p0, p1, p2, p3, p4⟩ := HGB.out.on hb010
        go_wp2_with fail
        with_reducible refine (HGE.out _).mono ?_
        rintro e w11 ⟨rfl, hb11⟩
        have hb911 := th hb910 hb11
        have hb011 := th hb010 hb11
        clear p0 p1 p2 p3 p4
        obtain ⟨_, p0, p1, p2, p3, p4⟩ := HGB.out.on hb011
        obtain ⟨x0, x1⟩ := HXB.out _ hb011
        go_wp2_with fail
        with_reducible refine (HRS.out _ (hx0.on byteR_fine hb011)).mono ?_
        rintro e w12 ⟨hb12, V12, m12, c12, rfl, hs12⟩
        obtain ⟨W13, hW13⟩ : ∃ W13, W13 = w12.alloc (.cells #[.int .i64 0, .int .i64 0, .int .i64 0, .int .i64 0, .int .i64 0, .string ⟨#[]⟩, .slice V12 m12 c12] 26) := ⟨_, rfl⟩
        have hE13 : Below w12.heap.size w12 W13 := by rw [hW13]; exact alloc_below _ _
        have hN13 : w12.heap.size < W13.heap.size := by rw [hW13]; simp
        have hv13 : Sev W13 w12.heap.size (.int .i64 0) (.int .i64 0) (.int .i64 0) (.int .i64 0) (.int .i64 0) (.string ⟨#[]⟩) (.slice V12 m12 c12) := by rw [hW13]; exact Sev.new rfl (Below.refl _ _)
        have hf13 : ∀ k, W13.frozen? ⟨w12.heap.size, k, none⟩ = false := fun k => by rw [hW13]; exact box_free (Below.refl _ _) k
        have hb913 := th hb911 (th hb12 hE13)
        have hb013 := th hb011 (th hb12 hE13)
        have hw13 := (hs12.old_ homR_fine).on homR_fine hE13
        clear p0 p1 p2 p3 p4
        clear x0 x1
        go_upto_region 13 with fail
        rw [← hW13]
        clear hW13
        have hpu := put7_sev hv13 (.int .i64 0) (.int .i64 0) (.int .i64 0) (.int .i64 0) (.int .i64 0) (.string ⟨#[]⟩) (.slice none 0 0)
        have hpb := put7_below (Below.refl W13.heap.size W13) (show W13.heap.size ≤ W13.heap.size from Nat.le_refl _) (.int .i64 0) (.int .i64 0) (.int .i64 0) (.int .i64 0) (.int .i64 0) (.string ⟨#[]⟩) (.slice none 0 0)
        obtain ⟨W14, hW14⟩ : ∃ W14, W14 = put7 W13 w12.heap.size (.int .i64 0) (.int .i64 0) (.int .i64 0) (.int .i64 0) (.int .i64 0) (.string ⟨#[]⟩) (.slice none 0 0) := ⟨_, rfl⟩
        have hb1314 : Below w12.heap.size w12 W14 := by rw [hW14]; exact put7_below hE13 (Nat.le_refl _) _ _ _ _ _ _ _
        have hN14 : w12.heap.size < W14.heap.size := Nat.lt_of_lt_of_le hN13 (by rw [hW14]; unfold put7; simp only [set_size]; exact Nat.le_refl _)
        have HVT : Hid (Sev W14 w12.heap.size (.int .i64 0) (.int .i64 0) (.int .i64 0) (.int .i64 0) (.int .i64 0) (.string ⟨#[]⟩) (.slice none 0 0)) := hide (by rw [hW14]; exact hpu)
        have hb914 := th hb911 (th hb12 hb1314)
        have hb014 := th hb011 (th hb12 hb1314)
        have g0 := hf13 0
        have g1 := hf13 1
        have g2 := hf13 2
        have g3 := hf13 3
        have g4 := hf13 4
        have g5 := hf13 5
        have g6 := hf13 6
        obtain ⟨t0, t1, t2, t3, t4, t5, t6⟩ := hv13
        unfold put7 at hW14
        clear hpu hpb hf13
        obtain ⟨n0, n1, n2, n3, n4, n5, n6⟩ := HVN.out.on hN9 hb913
        go_upto_region 15 with fail
        rw [← hW14]
        clear hW14 t0 t1 t2 t3 t4 t5 t6 g0 g1 g2 g3 g4 g5 g6 n0 n1 n2 n3 n4 n5 n6
        obtain ⟨t0, t1, t2, t3, t4, t5, t6⟩ := HVT.out
        obtain ⟨s0, s1, s2, s3, s4, s5, s6⟩ := HVS.out.on hN5 (th hb59 hb914)
        go_wp2_with fail
        with_reducible refine (HNN.out _ _ _ _ (hs5.on homR_fine (th hb59 hb914))).mono ?_
        rintro e w15 ⟨rfl, hb15⟩
        have hb914 := th hb914 hb15
        have hb014 := th hb014 hb15
        clear t0 t1 t2 t3 t4 t5 t6
        clear s0 s1 s2 s3 s4 s5 s6
        obtain ⟨_, p0, p1, p2, p3, p4⟩ := HGB.out.on hb014
        go_wp2_with fail
        with_reducible refine (HNW.out _ (hl0.on gotR_fine hb014)).mono ?_
        rintro e w15 ⟨hb15, V16, m16, c16, rfl, hq16⟩
        obtain ⟨W16, hW16⟩ : ∃ W16, W16 = w15.alloc (.cells #[.int .i64 PA.gen, .int .i64 PA.epoch, .int .i64 PA.pos, .int .i64 PA.seq, .int .i64 PA.last, .string PA.label, .slice V16 m16 c16] 26) := ⟨_, rfl⟩
        have hE16 : Below w15.heap.size w15 W16 := by rw [hW16]; exact alloc_below _ _
        have hv16 : Sev W16 w15.heap.size (.int .i64 PA.gen) (.int .i64 PA.epoch) (.int .i64 PA.pos) (.int .i64 PA.seq) (.int .i64 PA.last) (.string PA.label) (.slice V16 m16 c16) := by rw [hW16]; exact Sev.new rfl (Below.refl _ _)
        have hq17 := hq16.on homR_fine hE16
        have hb9x := th hb914 (th hb15 hE16)
        have hb0x := th hb014 (th hb15 hE16)
        have HVQ := hide hv16
        clear hv16 p0 p1 p2 p3 p4
        go_upto_region 21 with fail
        rw [← hW16]
        clear hW16
        obtain ⟨r0, r1, r2, r3, r4, r5, r6⟩ := HVP.out.on hN7 (th hb79 hb9x)
        obtain ⟨u0, u1, u2, u3, u4, u5, u6⟩ := HVQ.out
        go_wp2_with fail
        with_reducible refine (HKP.out _ _ _ _ _ _ _ (hp7.on homR_fine (th hb79 hb9x)) hq17).mono ?_
        rintro e w16 ⟨rfl, hb16⟩
        clear u0 u1 u2 u3 u4 u5 u6
        have hb916 := th hb9x hb16
        have hb016 := th hb0x hb16
        clear r0 r1 r2 r3 r4 r5 r6
        obtain ⟨_, p0, p1, p2, p3, p4⟩ := HGB.out.on hb016
        obtain ⟨q0, q1, q2, q3, q4, q5, q6⟩ := HSV.out.onB hN2 hb016
        go_wp2_with fail
        with_reducible refine (HRA.out _ (ha0.on homR_fine hb016)).mono ?_
        rintro e w17 ⟨rfl, hb17⟩
        have hb917 := th hb916 hb17
        have hb017 := th hb016 hb17
        clear p0 p1 p2 p3 p4
        clear q0 q1 q2 q3 q4 q5 q6
        obtain ⟨_, p0, p1, p2, p3, p4⟩ := HGB.out.on hb017
        go_wp2_with fail
        with_reducible refine (wakes09 _ (hT.below (th hb0 hb017))).mono ?_
        rintro e w30 ⟨rfl, hb30⟩
        go_wp2_with fail
        go_ret
        exact ⟨rfl, th hb0 (th hb017 hb30)⟩
  · rw [decide_eq_false hok] at HRA
    clear hck hok
    rcases hadr with hadr | hadr
    all_goals
      have adn : ¬ addr < 0 ∨ addr < 0 := by omega
      first
        | (have ad0 : ¬ addr < 0 := by omega; skip)
        | skip
      go_enter Tryd.func12, Tryd.ntmps12
      go_upto_region 1 with fail
      rw [← hW0]
      clear hW0
      go_wp2_with fail
      with_reducible refine (HHV.out _ hl0).mono ?_
      rintro e w1 ⟨rfl, rfl⟩
      obtain ⟨x0, x1⟩ := HXB.out _ (Below.refl _ _)
      obtain ⟨W1, hW1⟩ : ∃ W1, W1 = W0.alloc (.cells #[.int .i64 x.err, .slice B nb cb] 78) := ⟨_, rfl⟩
      have hE1 : Below W0.heap.size W0 W1 := by rw [hW1]; exact alloc_below _ _
      have hlx : Sl gotR 2 W1 (Old W1) (some ⟨W0.heap.size, 0, none⟩) 1 1 [x] := by rw [hW1]; exact lit_got1 _ rfl hx0 hxe
      go_wp2_with fail
      rw [← hW1]
      clear hW1 x0 x1
      with_reducible refine (HHX.out _ _ hlx).mono ?_
      rintro e w1 ⟨rfl, rfl⟩
      obtain ⟨q0, q1, q2, q3, q4, q5, q6⟩ := HSV.out.onB hN2 hE1
      go_wp2_with fail
      with_reducible refine (HHA.out _ (ha0.on homR_fine hE1)).mono ?_
      rintro e w2 ⟨rfl, hb2⟩
      have hb02 := th hE1 hb2
      clear q0 q1 q2 q3 q4 q5 q6
      go_wp2_with fail
      with_reducible refine (HKT.out _ (hl0.on gotR_fine hb02)).mono ?_
      rintro e w3 ⟨hb3, VI, ci, rfl, hin3⟩
      have hb03 := th hb02 hb3
      obtain ⟨_, p0, p1, p2, p3, p4⟩ := HGB.out.on hb03
      obtain ⟨x0, x1⟩ := HXB.out _ hb03
      go_wp2_with fail
      with_reducible refine (HSY.out _ (hT.below (th hb0 hb03)) (hx0.on byteR_fine hb03)).mono ?_
      rintro e w4 ⟨hb4, V4, m4, c4, rfl, hs4⟩
      obtain ⟨W5, hW5⟩ : ∃ W5, W5 = w4.alloc (.cells #[.int .i64 0, .int .i64 0, .int .i64 0, .int .i64 0, .int .i64 0, .string ⟨#[]⟩, .slice V4 m4 c4] 26) := ⟨_, rfl⟩
      have hE5 : Below w4.heap.size w4 W5 := by rw [hW5]; exact alloc_below _ _
      have hN5 : w4.heap.size < W5.heap.size := by rw [hW5]; simp
      have hv5 : Sev W5 w4.heap.size (.int .i64 0) (.int .i64 0) (.int .i64 0) (.int .i64 0) (.int .i64 0) (.string ⟨#[]⟩) (.slice V4 m4 c4) := by rw [hW5]; exact Sev.new rfl (Below.refl _ _)
      have HVS := hide hv5
      have hs5 := hs4.on homR_fine hE5
      have hb35 := th hb4 hE5
      have hb05 := th hb03 hb35
      clear hv5 p0 p1 p2 p3 p4
      clear x0 x1
      go_upto_region 5 with fail
      rw [← hW5]
      clear hW5
      obtain ⟨_, p0, p1, p2, p3, p4⟩ := HGB.out.on hb05
      go_wp2_with fail
      with_reducible refine (HPI.out _ _ _ (hT.below (th hb0 hb05)) (hin3.on gotR_fine hb35)).mono ?_
      rintro e w6 ⟨hb6, V6, m6, c6, rfl, hp6⟩
      obtain ⟨W7, hW7⟩ : ∃ W7, W7 = w6.alloc (.cells #[.int .i64 PA.gen, .int .i64 PA.epoch, .int .i64 PA.pos, .int .i64 PA.seq, .int .i64 PA.last, .string PA.label, .slice V6 m6 c6] 26) := ⟨_, rfl⟩
      have hE7 : Below w6.heap.size w6 W7 := by rw [hW7]; exact alloc_below _ _
      have hN7 : w6.heap.size < W7.heap.size := by rw [hW7]; simp
      have hv7 : Sev W7 w6.heap.size (.int .i64 PA.gen) (.int .i64 PA.epoch) (.int .i64 PA.pos) (.int .i64 PA.seq) (.int .i64 PA.last) (.string PA.label) (.slice V6 m6 c6) := by rw [hW7]; exact Sev.new rfl (Below.refl _ _)
      have HVP := hide hv7
      have hp7 := hp6.on homR_fine hE7
      have hb57 := th hb6 hE7
      have hb07 := th hb05 hb57
      clear hv7 p0 p1 p2 p3 p4
      go_upto_region 6 with fail
      rw [← hW7]
      clear hW7
      obtain ⟨_, p0, p1, p2, p3, p4⟩ := HGB.out.on hb07
      obtain ⟨q0, q1, q2, q3, q4, q5, q6⟩ := HSV.out.onB hN2 hb07
      go_wp2_with fail
      with_reducible refine (HCE.out _ (hT.below (th hb0 hb07)) (ha0.on homR_fine hb07)).mono ?_
      rintro e w8 ⟨rfl, hb8⟩
      obtain ⟨W9, hW9⟩ : ∃ W9, W9 = w8.alloc (.cells #[.int .i64 0, .int .i64 0, .int .i64 0, .int .i64 0, .int .i64 0, .string ⟨#[]⟩, .slice none 0 0] 26) := ⟨_, rfl⟩
      have hE9 : Below w8.heap.size w8 W9 := by rw [hW9]; exact alloc_below _ _
      have hN9 : w8.heap.size < W9.heap.size := by rw [hW9]; simp
      have hv9 : Sev W9 w8.heap.size (.int .i64 0) (.int .i64 0) (.int .i64 0) (.int .i64 0) (.int .i64 0) (.string ⟨#[]⟩) (.slice none 0 0) := by rw [hW9]; exact Sev.new rfl (Below.refl _ _)
      have HVN := hide hv9
      have hb79 := th hb8 hE9
      have hb59 := th hb57 hb79
      have hb39 := th hb35 hb59
      have hb09 := th hb03 hb39
      clear hv9 p0 p1 p2 p3 p4
      clear q0 q1 q2 q3 q4 q5 q6
      go_upto_region 8 with fail
      rw [← hW9]
      clear hW9
      go_wp2_with fail
      with_reducible refine (HKG.out _ _ _ (hin3.on gotR_fine hb39) (hl0.on gotR_fine hb09)).mono ?_
      rintro e w10 ⟨rfl, hq10⟩
      have hb910 : Below W9.heap.size W9 w10 := by obtain ⟨q, rfl⟩ := hq10; exact drewN_below _ q
      clear hq10
      have hb010 := th hb09 hb910
      obtain ⟨_, p0, p1, p2, p3, p4⟩ := HGB.out.on hb010
      go_wp2_with fail
      with_reducible refine (HGE.out _).mono ?_
      rintro e w11 ⟨rfl, hb11⟩
      have hb911 := th hb910 hb11
      have hb011 := th hb010 hb11
      clear p0 p1 p2 p3 p4
      obtain ⟨_, p0, p1, p2, p3, p4⟩ := HGB.out.on hb011
      obtain ⟨x0, x1⟩ := HXB.out _ hb011
      go_wp2_with fail
      with_reducible refine (HRS.out _ (hx0.on byteR_fine hb011)).mono ?_
      rintro e w12 ⟨hb12, V12, m12, c12, rfl, hs12⟩
      obtain ⟨W13, hW13⟩ : ∃ W13, W13 = w12.alloc (.cells #[.int .i64 0, .int .i64 0, .int .i64 0, .int .i64 0, .int .i64 0, .string ⟨#[]⟩, .slice V12 m12 c12] 26) := ⟨_, rfl⟩
      have hE13 : Below w12.heap.size w12 W13 := by rw [hW13]; exact alloc_below _ _
      have hN13 : w12.heap.size < W13.heap.size := by rw [hW13]; simp
      have hv13 : Sev W13 w12.heap.size (.int .i64 0) (.int .i64 0) (.int .i64 0) (.int .i64 0) (.int .i64 0) (.string ⟨#[]⟩) (.slice V12 m12 c12) := by rw [hW13]; exact Sev.new rfl (Below.refl _ _)
      have hf13 : ∀ k, W13.frozen? ⟨w12.heap.size, k, none⟩ = false := fun k => by rw [hW13]; exact box_free (Below.refl _ _) k
      have hb913 := th hb911 (th hb12 hE13)
      have hb013 := th hb011 (th hb12 hE13)
      have hw13 := (hs12.old_ homR_fine).on homR_fine hE13
      clear p0 p1 p2 p3 p4
      clear x0 x1
      go_upto_region 13 with fail
      rw [← hW13]
      clear hW13
      have hpu := put7_sev hv13 (.int .i64 0) (.int .i64 0) (.int .i64 0) (.int .i64 0) (.int .i64 0) (.string ⟨#[]⟩) (.slice none 0 0)
      have hpb := put7_below (Below.refl W13.heap.size W13) (show W13.heap.size ≤ W13.heap.size from Nat.le_refl _) (.int .i64 0) (.int .i64 0) (.int .i64 0) (.int .i64 0) (.int .i64 0) (.string ⟨#[]⟩) (.slice none 0 0)
      obtain ⟨W14, hW14⟩ : ∃ W14, W14 = put7 W13 w12.heap.size (.int .i64 0) (.int .i64 0) (.int .i64 0) (.int .i64 0) (.int .i64 0) (.string ⟨#[]⟩) (.slice none 0 0) := ⟨_, rfl⟩
      have hb1314 : Below w12.heap.size w12 W14 := by rw [hW14]; exact put7_below hE13 (Nat.le_refl _) _ _ _ _ _ _ _
      have hN14 : w12.heap.size < W14.heap.size := Nat.lt_of_lt_of_le hN13 (by rw [hW14]; unfold put7; simp only [set_size]; exact Nat.le_refl _)
      have HVT : Hid (Sev W14 w12.heap.size (.int .i64 0) (.int .i64 0) (.int .i64 0) (.int .i64 0) (.int .i64 0) (.string ⟨#[]⟩) (.slice none 0 0)) := hide (by rw [hW14]; exact hpu)
      have hb914 := th hb911 (th hb12 hb1314)
      have hb014 := th hb011 (th hb12 hb1314)
      have g0 := hf13 0
      have g1 := hf13 1
      have g2 := hf13 2
      have g3 := hf13 3
      have g4 := hf13 4
      have g5 := hf13 5
      have g6 := hf13 6
      obtain ⟨t0, t1, t2, t3, t4, t5, t6⟩ := hv13
      unfold put7 at hW14
      clear hpu hpb hf13
      obtain ⟨n0, n1, n2, n3, n4, n5, n6⟩ := HVN.out.on hN9 hb913
      go_upto_region 15 with fail
      rw [← hW14]
      clear hW14 t0 t1 t2 t3 t4 t5 t6 g0 g1 g2 g3 g4 g5 g6 n0 n1 n2 n3 n4 n5 n6
      obtain ⟨t0, t1, t2, t3, t4, t5, t6⟩ := HVT.out
      obtain ⟨s0, s1, s2, s3, s4, s5, s6⟩ := HVS.out.on hN5 (th hb59 hb914)
      go_wp2_with fail
      with_reducible refine (HNN.out _ _ _ _ (hs5.on homR_fine (th hb59 hb914))).mono ?_
      rintro e w15 ⟨rfl, hb15⟩
      have hb914 := th hb914 hb15
      have hb014 := th hb014 hb15
      clear t0 t1 t2 t3 t4 t5 t6
      clear s0 s1 s2 s3 s4 s5 s6
      obtain ⟨_, p0, p1, p2, p3, p4⟩ := HGB.out.on hb014
      go_wp2_with fail
      with_reducible refine (HNW.out _ (hl0.on gotR_fine hb014)).mono ?_
      rintro e w15 ⟨hb15, V16, m16, c16, rfl, hq16⟩
      obtain ⟨W16, hW16⟩ : ∃ W16, W16 = w15.alloc (.cells #[.int .i64 PA.gen, .int .i64 PA.epoch, .int .i64 PA.pos, .int .i64 PA.seq, .int .i64 PA.last, .string PA.label, .slice V16 m16 c16] 26) := ⟨_, rfl⟩
      have hE16 : Below w15.heap.size w15 W16 := by rw [hW16]; exact alloc_below _ _
      have hv16 : Sev W16 w15.heap.size (.int .i64 PA.gen) (.int .i64 PA.epoch) (.int .i64 PA.pos) (.int .i64 PA.seq) (.int .i64 PA.last) (.string PA.label) (.slice V16 m16 c16) := by rw [hW16]; exact Sev.new rfl (Below.refl _ _)
      have hq17 := hq16.on homR_fine hE16
      have hb9x := th hb914 (th hb15 hE16)
      have hb0x := th hb014 (th hb15 hE16)
      have HVQ := hide hv16
      clear hv16 p0 p1 p2 p3 p4
      go_upto_region 21 with fail
      rw [← hW16]
      clear hW16
      obtain ⟨r0, r1, r2, r3, r4, r5, r6⟩ := HVP.out.on hN7 (th hb79 hb9x)
      obtain ⟨u0, u1, u2, u3, u4, u5, u6⟩ := HVQ.out
      go_wp2_with fail
      with_reducible refine (HKP.out _ _ _ _ _ _ _ (hp7.on homR_fine (th hb79 hb9x)) hq17).mono ?_
      rintro e w16 ⟨rfl, hb16⟩
      clear u0 u1 u2 u3 u4 u5 u6
      have hb916 := th hb9x hb16
      have hb016 := th hb0x hb16
      clear r0 r1 r2 r3 r4 r5 r6
      obtain ⟨_, p0, p1, p2, p3, p4⟩ := HGB.out.on hb016
      obtain ⟨q0, q1, q2, q3, q4, q5, q6⟩ := HSV.out.onB hN2 hb016
      go_wp2_with fail
      with_reducible refine (HRA.out _ (ha0.on homR_fine hb016)).mono ?_
      rintro e w17 ⟨rfl, hb17⟩
      have hb917 := th hb916 hb17
      have hb017 := th hb016 hb17
      clear p0 p1 p2 p3 p4
      clear q0 q1 q2 q3 q4 q5 q6
      obtain ⟨_, p0, p1, p2, p3, p4⟩ := HGB.out.on hb017
      go_wp2_with fail
      with_reducible refine (wakes09 _ (hT.below (th hb0 hb017))).mono ?_
      rintro e w30 ⟨rfl, hb30⟩
      go_wp2_with fail
      go_ret
      exact ⟨rfl, th hb0 (th hb017 hb30)⟩

set_option maxHeartbeats 16000000 in
theorem ne_nog {w : World} (hT : Tabs w) (g : Geo) (a : Anc) (x : Gt) (A B D : Option Addr) (n c nb cb na ca : Nat) (L : List Gt) (addr i : Int) (hl : Sl gotR 2 w (Old w) A n c L) (hxe : InI x.err) (hx : Bs w B nb cb x.bytes) (ha : Sl homR 3 w (Old w) D na ca a.homes) (hin : a.In) (hi : InI i) (HH1 : heavyG L = false) (HH2 : nb ≤ 300) (HH3 : heavyA a = false) (hg : ¬ GeoOk g) :
    Calls Tryd.prog 12 #[g.v, .slice A n c, .agg #[.int .i64 x.err, .slice B nb cb], .int .i64 addr, a.v (.slice D na ca), .int .i64 i] w fun e w' => e = .returned (.bool true) ∧ Below w.heap.size w w' := by
  have HHV := hide fun w h => heavyg_any A n c L w h
  have HHX := hide fun N (w : World) (h : Sl gotR 2 w (Old w) (some ⟨N, 0, none⟩) 1 1 [x]) => heavyg_any (some ⟨N, 0, none⟩) 1 1 [x] w h
  have hxl := hx.len
  rw [heavyG_ok (L := [x]) (by show 1 ≤ 80; omega) (fun j y hj hy => by have := List.mem_of_getElem? hy; simp at this; subst this; omega)] at HHX
  rw [HH1] at HHV
  have HHA := hide fun w h => heavya_any a D na ca w h
  rw [HH3] at HHA
  have HL := hide (heavyA_light HH3)
  have HGL := hide (heavyG_no HH1)
  have hn80 : n ≤ 80 := by have := HGL.out.1; have := hl.len; omega
  have HKT := hide fun w h => katg_any A n c L w h (by omega) (fun y hy => by have := HGL.out.2 y hy; omega)
  have HKG := hide fun (V : Option Addr) (q : Nat) (w : World) (h : Sl gotR 2 w (Old w) V n q L) (h2 : Sl gotR 2 w (Old w) A n c L) => gots_true V A n q c L w h h2 (by omega) (fun y hy => by have := HGL.out.2 y hy; omega)
  have HSY := hide fun w hT h => nsays_sym g x.err B nb cb x.bytes addr w hT h (by omega)
  have HGE := hide fun w => rgeo_any g w
  rw [decide_eq_false hg] at HGE
  have HNN := hide fun (V : Option Addr) (m q : Nat) (w : World) (h : Sl homR 3 w (Old w) V m q noAnc.homes) => keepa_same9 (x := noAnc) (B := none) (m := 0) (d := 0) h (Sl.nil_ _) no_light
  obtain ⟨W0, hW0⟩ : ∃ W0, W0 = ((w.alloc (.cells #[.int .i64 g.zones, .int .i64 g.data, .int .i64 g.spares, .int .i64 g.slots, .int .i64 g.anchors] 23)).alloc (.cells #[.int .i64 x.err, .slice B nb cb] 78)).alloc (.cells #[.int .i64 a.gen, .int .i64 a.epoch, .int .i64 a.pos, .int .i64 a.seq, .int .i64 a.last, .string a.label, .slice D na ca] 26) := ⟨_, rfl⟩
  have hb0 : Below w.heap.size w W0 := by rw [hW0]; exact ((alloc_below w _).alloc (by simp) _).alloc (by simp; omega) _
  have hl0 := hl.on gotR_fine hb0
  have hx0 := hx.on byteR_fine hb0
  have ha0 := ha.on homR_fine hb0
  have hgb : GeoAt W0 w.heap.size g := by rw [hW0]; exact (GeoAt.new w g 23).on ((alloc_below _ _).alloc (by simp) _)
  have hxb : ∀ W, Below W0.heap.size W0 W → W.cell? ⟨w.heap.size + 1, 0, none⟩ = some (.int .i64 x.err) ∧ W.cell? ⟨w.heap.size + 1, 1, none⟩ = some (.slice B nb cb) := fun W hW => by
    have h0 : W0.cell? ⟨w.heap.size + 1, 0, none⟩ = some (.int .i64 x.err) ∧ W0.cell? ⟨w.heap.size + 1, 1, none⟩ = some (.slice B nb cb) := by
      rw [hW0]
      exact ⟨bx_at2 (by simp) (alloc_below _ _) 0 _ rfl, bx_at2 (by simp) (alloc_below _ _) 1 _ rfl⟩
    have hs : w.heap.size + 1 < W0.heap.size := by rw [hW0]; simp
    exact ⟨(hW.cell (p := ⟨w.heap.size + 1, 0, none⟩) hs).trans h0.1, (hW.cell (p := ⟨w.heap.size + 1, 1, none⟩) hs).trans h0.2⟩
  have hsv : Sev W0 (w.heap.size + 1 + 1) (.int .i64 a.gen) (.int .i64 a.epoch) (.int .i64 a.pos) (.int .i64 a.seq) (.int .i64 a.last) (.string a.label) (.slice D na ca) := by rw [hW0]; exact Sev.new (by simp) (Below.refl _ _)
  have hN2 : w.heap.size + 1 + 1 < W0.heap.size := by rw [hW0]; simp
  have HSV := hide hsv
  have HGB := hide hgb
  have HXB := hide hxb
  clear hgb hxb hsv hl hx ha HH1 HH3 hxl
  have hnone : saysN g x.err x.bytes addr = none := if_neg fun h => hg h.1
  rw [hnone] at HSY
  unfold sA sR at HSY
  simp only [Option.getD_none, Option.isSome_none] at HSY
  have HPI := hide fun (V : Option Addr) (q : Nat) (w : World) (hT : Tabs w) (h : Sl gotR 2 w (Old w) V n q L) => npick_arg g hg V n q w
  unfold noAncW at HPI
  have HCE := hide fun w hT h => ncell_no g a D na ca i hi w hT h hin HL.out (fun h => hg h.1)
  clear hin HH2 hnone hg
  unfold Geo.v at *
  unfold Anc.v at *
  unfold noAnc at *
  dsimp only at *
  go_enter Tryd.func12, Tryd.ntmps12
  go_upto_region 1 with fail
  rw [← hW0]
  clear hW0
  go_wp2_with fail
  with_reducible refine (HHV.out _ hl0).mono ?_
  rintro e w1 ⟨rfl, rfl⟩
  obtain ⟨x0, x1⟩ := HXB.out _ (Below.refl _ _)
  obtain ⟨W1, hW1⟩ : ∃ W1, W1 = W0.alloc (.cells #[.int .i64 x.err, .slice B nb cb] 78) := ⟨_, rfl⟩
  have hE1 : Below W0.heap.size W0 W1 := by rw [hW1]; exact alloc_below _ _
  have hlx : Sl gotR 2 W1 (Old W1) (some ⟨W0.heap.size, 0, none⟩) 1 1 [x] := by rw [hW1]; exact lit_got1 _ rfl hx0 hxe
  go_wp2_with fail
  rw [← hW1]
  clear hW1 x0 x1
  with_reducible refine (HHX.out _ _ hlx).mono ?_
  rintro e w1 ⟨rfl, rfl⟩
  obtain ⟨q0, q1, q2, q3, q4, q5, q6⟩ := HSV.out.onB hN2 hE1
  go_wp2_with fail
  with_reducible refine (HHA.out _ (ha0.on homR_fine hE1)).mono ?_
  rintro e w2 ⟨rfl, hb2⟩
  have hb02 := th hE1 hb2
  clear q0 q1 q2 q3 q4 q5 q6
  go_wp2_with fail
  with_reducible refine (HKT.out _ (hl0.on gotR_fine hb02)).mono ?_
  rintro e w3 ⟨hb3, VI, ci, rfl, hin3⟩
  have hb03 := th hb02 hb3
  obtain ⟨_, p0, p1, p2, p3, p4⟩ := HGB.out.on hb03
  obtain ⟨x0, x1⟩ := HXB.out _ hb03
  go_wp2_with fail
  with_reducible refine (HSY.out _ (hT.below (th hb0 hb03)) (hx0.on byteR_fine hb03)).mono ?_
  rintro e w4 ⟨hb4, V4, m4, c4, rfl, hs4⟩
  obtain ⟨W5, hW5⟩ : ∃ W5, W5 = w4.alloc (.cells #[.int .i64 0, .int .i64 0, .int .i64 0, .int .i64 0, .int .i64 0, .string ⟨#[]⟩, .slice V4 m4 c4] 26) := ⟨_, rfl⟩
  have hE5 : Below w4.heap.size w4 W5 := by rw [hW5]; exact alloc_below _ _
  have hN5 : w4.heap.size < W5.heap.size := by rw [hW5]; simp
  have hv5 : Sev W5 w4.heap.size (.int .i64 0) (.int .i64 0) (.int .i64 0) (.int .i64 0) (.int .i64 0) (.string ⟨#[]⟩) (.slice V4 m4 c4) := by rw [hW5]; exact Sev.new rfl (Below.refl _ _)
  have HVS := hide hv5
  have hs5 := hs4.on homR_fine hE5
  have hb35 := th hb4 hE5
  have hb05 := th hb03 hb35
  clear hv5 p0 p1 p2 p3 p4
  clear x0 x1
  go_upto_region 5 with fail
  rw [← hW5]
  clear hW5
  obtain ⟨_, p0, p1, p2, p3, p4⟩ := HGB.out.on hb05
  go_wp2_with fail
  with_reducible refine (HPI.out _ _ _ (hT.below (th hb0 hb05)) (hin3.on gotR_fine hb35)).mono ?_
  rintro e w6 ⟨rfl, hb6⟩
  have hp6 : Sl homR 3 w6 (Old w6) none 0 0 noAnc.homes := Sl.nil_ _
  obtain ⟨W7, hW7⟩ : ∃ W7, W7 = w6.alloc (.cells #[.int .i64 0, .int .i64 0, .int .i64 0, .int .i64 0, .int .i64 0, .string ⟨#[]⟩, .slice none 0 0] 26) := ⟨_, rfl⟩
  have hE7 : Below w6.heap.size w6 W7 := by rw [hW7]; exact alloc_below _ _
  have hN7 : w6.heap.size < W7.heap.size := by rw [hW7]; simp
  have hv7 : Sev W7 w6.heap.size (.int .i64 0) (.int .i64 0) (.int .i64 0) (.int .i64 0) (.int .i64 0) (.string ⟨#[]⟩) (.slice none 0 0) := by rw [hW7]; exact Sev.new rfl (Below.refl _ _)
  have HVP := hide hv7
  have hp7 := hp6.on homR_fine hE7
  have hb57 := th hb6 hE7
  have hb07 := th hb05 hb57
  clear hv7 p0 p1 p2 p3 p4
  go_upto_region 6 with fail
  rw [← hW7]
  clear hW7
  obtain ⟨_, p0, p1, p2, p3, p4⟩ := HGB.out.on hb07
  obtain ⟨q0, q1, q2, q3, q4, q5, q6⟩ := HSV.out.onB hN2 hb07
  go_wp2_with fail
  with_reducible refine (HCE.out _ (hT.below (th hb0 hb07)) (ha0.on homR_fine hb07)).mono ?_
  rintro e w8 ⟨rfl, hb8⟩
  obtain ⟨W9, hW9⟩ : ∃ W9, W9 = w8.alloc (.cells #[.int .i64 0, .int .i64 0, .int .i64 0, .int .i64 0, .int .i64 0, .string ⟨#[]⟩, .slice none 0 0] 26) := ⟨_, rfl⟩
  have hE9 : Below w8.heap.size w8 W9 := by rw [hW9]; exact alloc_below _ _
  have hN9 : w8.heap.size < W9.heap.size := by rw [hW9]; simp
  have hv9 : Sev W9 w8.heap.size (.int .i64 0) (.int .i64 0) (.int .i64 0) (.int .i64 0) (.int .i64 0) (.string ⟨#[]⟩) (.slice none 0 0) := by rw [hW9]; exact Sev.new rfl (Below.refl _ _)
  have HVN := hide hv9
  have hb79 := th hb8 hE9
  have hb59 := th hb57 hb79
  have hb39 := th hb35 hb59
  have hb09 := th hb03 hb39
  clear hv9 p0 p1 p2 p3 p4
  clear q0 q1 q2 q3 q4 q5 q6
  go_upto_region 8 with fail
  rw [← hW9]
  clear hW9
  go_wp2_with fail
  with_reducible refine (HKG.out _ _ _ (hin3.on gotR_fine hb39) (hl0.on gotR_fine hb09)).mono ?_
  rintro e w10 ⟨rfl, hq10⟩
  have hb910 : Below W9.heap.size W9 w10 := by obtain ⟨q, rfl⟩ := hq10; exact drewN_below _ q
  clear hq10
  have hb010 := th hb09 hb910
  obtain ⟨_, p0, p1, p2, p3, p4⟩ := HGB.out.on hb010
  go_wp2_with fail
  with_reducible refine (HGE.out _).mono ?_
  rintro e w11 ⟨rfl, hb11⟩
  have hb911 := th hb910 hb11
  have hb011 := th hb010 hb11
  clear p0 p1 p2 p3 p4
  obtain ⟨s0, s1, s2, s3, s4, s5, s6⟩ := HVS.out.on hN5 (th hb59 hb911)
  obtain ⟨n0, n1, n2, n3, n4, n5, n6⟩ := HVN.out.on hN9 hb911
  go_wp2_with fail
  with_reducible refine (HNN.out _ _ _ _ (hs5.on homR_fine (th hb59 hb911))).mono ?_
  rintro e w12 ⟨rfl, hb12⟩
  have hb912 := th hb911 hb12
  have hb012 := th hb011 hb12
  clear s0 s1 s2 s3 s4 s5 s6
  clear n0 n1 n2 n3 n4 n5 n6
  obtain ⟨r0, r1, r2, r3, r4, r5, r6⟩ := HVP.out.on hN7 (th hb79 hb912)
  obtain ⟨n0, n1, n2, n3, n4, n5, n6⟩ := HVN.out.on hN9 hb912
  go_wp2_with fail
  with_reducible refine (HNN.out _ _ _ _ (hp7.on homR_fine (th hb79 hb912))).mono ?_
  rintro e w13 ⟨rfl, hb13⟩
  have hb013 := th hb012 hb13
  clear r0 r1 r2 r3 r4 r5 r6
  clear n0 n1 n2 n3 n4 n5 n6
  go_wp2_with fail
  with_reducible refine (wakes09 _ (hT.below (th hb0 hb013))).mono ?_
  rintro e w30 ⟨rfl, hb30⟩
  go_wp2_with fail
  go_ret
  exact ⟨rfl, th hb0 (th hb013 hb30)⟩

set_option maxHeartbeats 4000000 in
theorem ne_h1 {w : World} (hT : Tabs w) (g : Geo) (a : Anc) (x : Gt) (A B D : Option Addr) (n c nb cb na ca : Nat) (L : List Gt) (addr i : Int) (hl : Sl gotR 2 w (Old w) A n c L) (hxe : InI x.err) (hx : Bs w B nb cb x.bytes) (ha : Sl homR 3 w (Old w) D na ca a.homes) (hin : a.In) (hi : InI i) (HH1 : heavyG L = true) :
    Calls Tryd.prog 12 #[g.v, .slice A n c, .agg #[.int .i64 x.err, .slice B nb cb], .int .i64 addr, a.v (.slice D na ca), .int .i64 i] w fun e w' => e = .returned (.bool true) ∧ Below w.heap.size w w' := by
  have HHV := hide fun w h => heavyg_any A n c L w h
  rw [HH1] at HHV
  clear HH1
  obtain ⟨W0, hW0⟩ : ∃ W0, W0 = ((w.alloc (.cells #[.int .i64 g.zones, .int .i64 g.data, .int .i64 g.spares, .int .i64 g.slots, .int .i64 g.anchors] 23)).alloc (.cells #[.int .i64 x.err, .slice B nb cb] 78)).alloc (.cells #[.int .i64 a.gen, .int .i64 a.epoch, .int .i64 a.pos, .int .i64 a.seq, .int .i64 a.last, .string a.label, .slice D na ca] 26) := ⟨_, rfl⟩
  have hb0 : Below w.heap.size w W0 := by rw [hW0]; exact ((alloc_below w _).alloc (by simp) _).alloc (by simp; omega) _
  have hl0 := hl.on gotR_fine hb0
  have hx0 := hx.on byteR_fine hb0
  have ha0 := ha.on homR_fine hb0
  have h0 : W0.cell? ⟨w.heap.size + 1, 0, none⟩ = some (.int .i64 x.err) ∧ W0.cell? ⟨w.heap.size + 1, 1, none⟩ = some (.slice B nb cb) := by
    rw [hW0]
    exact ⟨bx_at2 (by simp) (alloc_below _ _) 0 _ rfl, bx_at2 (by simp) (alloc_below _ _) 1 _ rfl⟩
  have hsv : Sev W0 (w.heap.size + 1 + 1) (.int .i64 a.gen) (.int .i64 a.epoch) (.int .i64 a.pos) (.int .i64 a.seq) (.int .i64 a.last) (.string a.label) (.slice D na ca) := by rw [hW0]; exact Sev.new (by simp) (Below.refl _ _)
  have hN2 : w.heap.size + 1 + 1 < W0.heap.size := by rw [hW0]; simp
  have HSV := hide hsv
  obtain ⟨x0, x1⟩ := h0
  clear hsv hl hx ha
  unfold Geo.v at *
  unfold Anc.v at *
  go_enter Tryd.func12, Tryd.ntmps12
  go_upto_region 1 with fail
  rw [← hW0]
  clear hW0
  go_wp2_with fail
  with_reducible refine (HHV.out _ hl0).mono ?_
  rintro e w1 ⟨rfl, rfl⟩
  go_wp2_with fail
  go_ret
  exact ⟨rfl, hb0⟩

set_option maxHeartbeats 4000000 in
theorem ne_h2 {w : World} (hT : Tabs w) (g : Geo) (a : Anc) (x : Gt) (A B D : Option Addr) (n c nb cb na ca : Nat) (L : List Gt) (addr i : Int) (hl : Sl gotR 2 w (Old w) A n c L) (hxe : InI x.err) (hx : Bs w B nb cb x.bytes) (ha : Sl homR 3 w (Old w) D na ca a.homes) (hin : a.In) (hi : InI i) (HH1 : heavyG L = false) (HH2 : 300 < nb) :
    Calls Tryd.prog 12 #[g.v, .slice A n c, .agg #[.int .i64 x.err, .slice B nb cb], .int .i64 addr, a.v (.slice D na ca), .int .i64 i] w fun e w' => e = .returned (.bool true) ∧ Below w.heap.size w w' := by
  have HHV := hide fun w h => heavyg_any A n c L w h
  rw [HH1] at HHV
  have HHX := hide fun N (w : World) (h : Sl gotR 2 w (Old w) (some ⟨N, 0, none⟩) 1 1 [x]) => heavyg_any (some ⟨N, 0, none⟩) 1 1 [x] w h
  rw [heavyG_big (L := [x]) (k := 0) (x := x) rfl (by have := hx.len; omega)] at HHX
  clear HH1 HH2
  obtain ⟨W0, hW0⟩ : ∃ W0, W0 = ((w.alloc (.cells #[.int .i64 g.zones, .int .i64 g.data, .int .i64 g.spares, .int .i64 g.slots, .int .i64 g.anchors] 23)).alloc (.cells #[.int .i64 x.err, .slice B nb cb] 78)).alloc (.cells #[.int .i64 a.gen, .int .i64 a.epoch, .int .i64 a.pos, .int .i64 a.seq, .int .i64 a.last, .string a.label, .slice D na ca] 26) := ⟨_, rfl⟩
  have hb0 : Below w.heap.size w W0 := by rw [hW0]; exact ((alloc_below w _).alloc (by simp) _).alloc (by simp; omega) _
  have hl0 := hl.on gotR_fine hb0
  have hx0 := hx.on byteR_fine hb0
  have ha0 := ha.on homR_fine hb0
  have h0 : W0.cell? ⟨w.heap.size + 1, 0, none⟩ = some (.int .i64 x.err) ∧ W0.cell? ⟨w.heap.size + 1, 1, none⟩ = some (.slice B nb cb) := by
    rw [hW0]
    exact ⟨bx_at2 (by simp) (alloc_below _ _) 0 _ rfl, bx_at2 (by simp) (alloc_below _ _) 1 _ rfl⟩
  have hsv : Sev W0 (w.heap.size + 1 + 1) (.int .i64 a.gen) (.int .i64 a.epoch) (.int .i64 a.pos) (.int .i64 a.seq) (.int .i64 a.last) (.string a.label) (.slice D na ca) := by rw [hW0]; exact Sev.new (by simp) (Below.refl _ _)
  have hN2 : w.heap.size + 1 + 1 < W0.heap.size := by rw [hW0]; simp
  have HSV := hide hsv
  obtain ⟨x0, x1⟩ := h0
  clear hsv hl hx ha
  unfold Geo.v at *
  unfold Anc.v at *
  go_enter Tryd.func12, Tryd.ntmps12
  go_upto_region 1 with fail
  rw [← hW0]
  clear hW0
  go_wp2_with fail
  with_reducible refine (HHV.out _ hl0).mono ?_
  rintro e w1 ⟨rfl, rfl⟩
  obtain ⟨W1, hW1⟩ : ∃ W1, W1 = W0.alloc (.cells #[.int .i64 x.err, .slice B nb cb] 78) := ⟨_, rfl⟩
  have hE1 : Below W0.heap.size W0 W1 := by rw [hW1]; exact alloc_below _ _
  have hlx : Sl gotR 2 W1 (Old W1) (some ⟨W0.heap.size, 0, none⟩) 1 1 [x] := by rw [hW1]; exact lit_got1 _ rfl hx0 hxe
  go_wp2_with fail
  rw [← hW1]
  clear hW1 x0 x1
  with_reducible refine (HHX.out _ _ hlx).mono ?_
  rintro e w1 ⟨rfl, rfl⟩
  go_wp2_with fail
  go_ret
  exact ⟨rfl, th hb0 hE1⟩

set_option maxHeartbeats 4000000 in
theorem ne_h3 {w : World} (hT : Tabs w) (g : Geo) (a : Anc) (x : Gt) (A B D : Option Addr) (n c nb cb na ca : Nat) (L : List Gt) (addr i : Int) (hl : Sl gotR 2 w (Old w) A n c L) (hxe : InI x.err) (hx : Bs w B nb cb x.bytes) (ha : Sl homR 3 w (Old w) D na ca a.homes) (hin : a.In) (hi : InI i) (HH1 : heavyG L = false) (HH2 : nb ≤ 300) (HH3 : heavyA a = true) :
    Calls Tryd.prog 12 #[g.v, .slice A n c, .agg #[.int .i64 x.err, .slice B nb cb], .int .i64 addr, a.v (.slice D na ca), .int .i64 i] w fun e w' => e = .returned (.bool true) ∧ Below w.heap.size w w' := by
  have HHV := hide fun w h => heavyg_any A n c L w h
  rw [HH1] at HHV
  have HHX := hide fun N (w : World) (h : Sl gotR 2 w (Old w) (some ⟨N, 0, none⟩) 1 1 [x]) => heavyg_any (some ⟨N, 0, none⟩) 1 1 [x] w h
  have hxl := hx.len
  rw [heavyG_ok (L := [x]) (by show 1 ≤ 80; omega) (fun j y hj hy => by have := List.mem_of_getElem? hy; simp at this; subst this; omega)] at HHX
  have HHA := hide fun w h => heavya_any a D na ca w h
  rw [HH3] at HHA
  clear HH1 HH2 HH3 hxl
  obtain ⟨W0, hW0⟩ : ∃ W0, W0 = ((w.alloc (.cells #[.int .i64 g.zones, .int .i64 g.data, .int .i64 g.spares, .int .i64 g.slots, .int .i64 g.anchors] 23)).alloc (.cells #[.int .i64 x.err, .slice B nb cb] 78)).alloc (.cells #[.int .i64 a.gen, .int .i64 a.epoch, .int .i64 a.pos, .int .i64 a.seq, .int .i64 a.last, .string a.label, .slice D na ca] 26) := ⟨_, rfl⟩
  have hb0 : Below w.heap.size w W0 := by rw [hW0]; exact ((alloc_below w _).alloc (by simp) _).alloc (by simp; omega) _
  have hl0 := hl.on gotR_fine hb0
  have hx0 := hx.on byteR_fine hb0
  have ha0 := ha.on homR_fine hb0
  have h0 : W0.cell? ⟨w.heap.size + 1, 0, none⟩ = some (.int .i64 x.err) ∧ W0.cell? ⟨w.heap.size + 1, 1, none⟩ = some (.slice B nb cb) := by
    rw [hW0]
    exact ⟨bx_at2 (by simp) (alloc_below _ _) 0 _ rfl, bx_at2 (by simp) (alloc_below _ _) 1 _ rfl⟩
  have hsv : Sev W0 (w.heap.size + 1 + 1) (.int .i64 a.gen) (.int .i64 a.epoch) (.int .i64 a.pos) (.int .i64 a.seq) (.int .i64 a.last) (.string a.label) (.slice D na ca) := by rw [hW0]; exact Sev.new (by simp) (Below.refl _ _)
  have hN2 : w.heap.size + 1 + 1 < W0.heap.size := by rw [hW0]; simp
  have HSV := hide hsv
  obtain ⟨x0, x1⟩ := h0
  clear hsv hl hx ha
  unfold Geo.v at *
  unfold Anc.v at *
  go_enter Tryd.func12, Tryd.ntmps12
  go_upto_region 1 with fail
  rw [← hW0]
  clear hW0
  go_wp2_with fail
  with_reducible refine (HHV.out _ hl0).mono ?_
  rintro e w1 ⟨rfl, rfl⟩
  obtain ⟨W1, hW1⟩ : ∃ W1, W1 = W0.alloc (.cells #[.int .i64 x.err, .slice B nb cb] 78) := ⟨_, rfl⟩
  have hE1 : Below W0.heap.size W0 W1 := by rw [hW1]; exact alloc_below _ _
  have hlx : Sl gotR 2 W1 (Old W1) (some ⟨W0.heap.size, 0, none⟩) 1 1 [x] := by rw [hW1]; exact lit_got1 _ rfl hx0 hxe
  go_wp2_with fail
  rw [← hW1]
  clear hW1 x0 x1
  with_reducible refine (HHX.out _ _ hlx).mono ?_
  rintro e w1 ⟨rfl, rfl⟩
  obtain ⟨q0, q1, q2, q3, q4, q5, q6⟩ := HSV.out.onB hN2 hE1
  go_wp2_with fail
  with_reducible refine (HHA.out _ (ha0.on homR_fine hE1)).mono ?_
  rintro e w2 ⟨rfl, hb2⟩
  go_wp2_with fail
  go_ret
  exact ⟨rfl, th hb0 (th hE1 hb2)⟩

theorem walk_newestExact {w : World} (hT : Tabs w) (g : Geo) (a : Anc) (x : Gt) (A B D : Option Addr) (n c nb cb na ca : Nat) (L : List Gt) (addr i : Int) (hl : Sl gotR 2 w (Old w) A n c L) (hxe : InI x.err) (hx : Bs w B nb cb x.bytes) (ha : Sl homR 3 w (Old w) D na ca a.homes) (hin : a.In) (hi : InI i) :
    Calls Tryd.prog 12 #[g.v, .slice A n c, .agg #[.int .i64 x.err, .slice B nb cb], .int .i64 addr, a.v (.slice D na ca), .int .i64 i] w fun e w' => e = .returned (.bool true) ∧ Below w.heap.size w w' := by
  by_cases HH : heavyG L = true
  · exact ne_h1 hT g a x A B D n c nb cb na ca L addr i hl hxe hx ha hin hi HH
  have HH1 : heavyG L = false := by simpa using HH
  by_cases HB : 300 < nb
  · exact ne_h2 hT g a x A B D n c nb cb na ca L addr i hl hxe hx ha hin hi HH1 HB
  have HH2 : nb ≤ 300 := by omega
  by_cases HA : heavyA a = true
  · exact ne_h3 hT g a x A B D n c nb cb na ca L addr i hl hxe hx ha hin hi HH1 HH2 HA
  have HH3 : heavyA a = false := by simpa using HA
  by_cases hg : GeoOk g
  · by_cases had : 0 ≤ addr ∧ addr ≤ 65535
    · obtain ⟨had0, had1⟩ := had
      by_cases hln : (n : Int) = g.anchors
      · by_cases hpk : (pickN g L n).2.2 = true
        · by_cases hck : AncOk g a ∧ 0 ≤ i ∧ i ≤ g.anchors - 1
          · exact ne_1some1 hT g a x A B D n c nb cb na ca L addr i hl hxe hx ha hin hi HH1 HH2 HH3 hg had0 had1 hln hpk hck
          · exact ne_1some0 hT g a x A B D n c nb cb na ca L addr i hl hxe hx ha hin hi HH1 HH2 HH3 hg had0 had1 hln hpk hck
        · have hpk2 : (pickN g L n).2.2 = false := by simpa using hpk
          by_cases hck : AncOk g a ∧ 0 ≤ i ∧ i ≤ g.anchors - 1
          · exact ne_1none1 hT g a x A B D n c nb cb na ca L addr i hl hxe hx ha hin hi HH1 HH2 HH3 hg had0 had1 hln hpk2 hck
          · exact ne_1none0 hT g a x A B D n c nb cb na ca L addr i hl hxe hx ha hin hi HH1 HH2 HH3 hg had0 had1 hln hpk2 hck
      · by_cases hck : AncOk g a ∧ 0 ≤ i ∧ i ≤ g.anchors - 1
        · exact ne_1len1 hT g a x A B D n c nb cb na ca L addr i hl hxe hx ha hin hi HH1 HH2 HH3 hg had0 had1 hln hck
        · exact ne_1len0 hT g a x A B D n c nb cb na ca L addr i hl hxe hx ha hin hi HH1 HH2 HH3 hg had0 had1 hln hck
    · by_cases hln : (n : Int) = g.anchors
      · by_cases hpk : (pickN g L n).2.2 = true
        · by_cases hck : AncOk g a ∧ 0 ≤ i ∧ i ≤ g.anchors - 1
          · exact ne_0some1 hT g a x A B D n c nb cb na ca L addr i hl hxe hx ha hin hi HH1 HH2 HH3 hg had hln hpk hck
          · exact ne_0some0 hT g a x A B D n c nb cb na ca L addr i hl hxe hx ha hin hi HH1 HH2 HH3 hg had hln hpk hck
        · have hpk2 : (pickN g L n).2.2 = false := by simpa using hpk
          by_cases hck : AncOk g a ∧ 0 ≤ i ∧ i ≤ g.anchors - 1
          · exact ne_0none1 hT g a x A B D n c nb cb na ca L addr i hl hxe hx ha hin hi HH1 HH2 HH3 hg had hln hpk2 hck
          · exact ne_0none0 hT g a x A B D n c nb cb na ca L addr i hl hxe hx ha hin hi HH1 HH2 HH3 hg had hln hpk2 hck
      · by_cases hck : AncOk g a ∧ 0 ≤ i ∧ i ≤ g.anchors - 1
        · exact ne_0len1 hT g a x A B D n c nb cb na ca L addr i hl hxe hx ha hin hi HH1 HH2 HH3 hg had hln hck
        · exact ne_0len0 hT g a x A B D n c nb cb na ca L addr i hl hxe hx ha hin hi HH1 HH2 HH3 hg had hln hck
  · exact ne_nog hT g a x A B D n c nb cb na ca L addr i hl hxe hx ha hin hi HH1 HH2 HH3 hg

theorem law_newestExact {w : World} {A : Option Addr} {n c : Nat} {L : List Gt} (hT : Tabs w) {v0 v2 v4 : Value} {g : Geo} {x : Gt} {a : Anc} (hg : ArgR geoR w v0 g) (hl : Sl gotR 2 w (Old w) A n c L) (hx : ArgR gotR w v2 x) (addr : Int) (had : InI addr) (ha : ArgR ancR w v4 a) (i : Int) (hi : InI i) :
    Calls Tryd.prog 12 #[v0, .slice A n c, v2, .int .i64 addr, v4, .int .i64 i] w fun e w' => e = .returned (.bool true) ∧ Below w.heap.size w w' := by
  obtain ⟨rfl, _⟩ := geo_form hg
  obtain ⟨B, nb, cb, rfl, hxe, hxb⟩ := got_form hx
  obtain ⟨D, na, ca, rfl, hin, hs⟩ := anc_form ha
  exact walk_newestExact hT g a x A B D n c nb cb na ca L addr i hl hxe hxb hs hin hi

end Go.Proofs.YtamgpbkakmffiaaDoor
