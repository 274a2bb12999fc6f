/-
  The walk of casematelaw08.AnchorExact.
-/
import Derived.Test.YtamgpbkakmffiaaDoorAncL5
import Derived.Test.YtamgpbkakmffiaaDoorAncG
import Derived.Test.YtamgpbkakmffiaaDoorAncQ
import Derived.Test.YtamgpbkakmffiaaDoorAncV
namespace Go.Proofs.YtamgpbkakmffiaaDoor
open Go.RowKit Go.Lib
set_option linter.unusedVariables false
set_option maxRecDepth 100000

theorem afirst_bad {g : Geo} {name : ByteArray} (hG : GeoOk g) (hs : name.size ≤ 60000) (hl : labE (sL name) ≠ 0) (w : World) (hT : Tabs w) :
    Calls Tryd.prog 33 #[g.v, .string name] w fun e w' => Below w.heap.size w w' ∧ ∃ V m c, e = .returned (.tuple #[noAnc.v (.slice V m c), .int .i64 (labE (sL name))]) ∧ Sl homR 3 w' (Old w') V m c [] := by
  refine (afirst_any g name hs w hT).mono ?_
  rintro e w' ⟨hb, a, v, err, rfl, ⟨V, n, c, rfl, hsl⟩, ⟨h, _⟩ | ⟨_, h, rfl, rfl⟩ | ⟨_, h, _⟩⟩
  · exact absurd hG h
  · exact ⟨hb, V, n, c, rfl, hsl.old_ homR_fine⟩
  · exact absurd h hl
theorem afirst_arg {g : Geo} {name : ByteArray} (hG : ¬ GeoOk g) (hs : name.size ≤ 60000) (w : World) (hT : Tabs w) :
    Calls Tryd.prog 33 #[g.v, .string name] w fun e w' => Below w.heap.size w w' ∧ ∃ V m c, e = .returned (.tuple #[noAnc.v (.slice V m c), .int .i64 1]) ∧ Sl homR 3 w' (Old w') V m c [] := by
  refine (afirst_any g name hs w hT).mono ?_
  rintro e w' ⟨hb, a, v, err, rfl, ⟨V, n, c, rfl, hsl⟩, ⟨h, h2, rfl⟩ | ⟨h, _⟩ | ⟨h, _⟩⟩
  · first
      | (subst h2; exact ⟨hb, V, n, c, rfl, hsl.old_ homR_fine⟩)
  · exact absurd h hG
  · exact absurd h hG
theorem aread_some {g : Geo} {x : Anc} {l : List UInt8} (hG : GeoOk g) (hx : ancOf g.zones.toNat g.data.toNat l = some x) (ho : AncOk g x) {A : Option Addr} {n c : Nat} {w : World} (hT : Tabs w) (hb : Bs w A n c l) (hn : n ≤ 60000) :
    Calls Tryd.prog 35 #[g.v, .slice A n c] w fun e w' => Below w.heap.size w w' ∧ ∃ V m d, e = .returned (.tuple #[x.v (.slice V m d), .int .i64 0]) ∧ Sl homR 3 w' (Old w') V m d x.homes := by
  refine (aread_any g A n c _ w hT hb hn).mono ?_
  rintro e w' ⟨hbl, a', v, err, rfl, ⟨V, m, cv, rfl, hsl⟩, ⟨h, _⟩ | ⟨_, h1, h2, rfl⟩ | ⟨_, h, _⟩⟩
  · exact absurd hG h
  · rw [hx] at h1
    injection h1 with h1
    subst h1
    exact ⟨hbl, V, m, cv, rfl, hsl.old_ homR_fine⟩
  · exact absurd ho (h x hx)
theorem aread_none {g : Geo} {l : List UInt8} (hG : GeoOk g) (hl : ∀ b, ancOf g.zones.toNat g.data.toNat l = some b → ¬ AncOk g b) {A : Option Addr} {n c : Nat} {w : World} (hT : Tabs w) (hb : Bs w A n c l) (hn : n ≤ 60000) :
    Calls Tryd.prog 35 #[g.v, .slice A n c] w fun e w' => Below w.heap.size w w' ∧ ∃ V m d, e = .returned (.tuple #[noAnc.v (.slice V m d), .int .i64 4]) ∧ Sl homR 3 w' (Old w') V m d [] := by
  refine (aread_any g A n c _ w hT hb hn).mono ?_
  rintro e w' ⟨hbl, r, v, err, rfl, ⟨V, m, cv, rfl, hsl⟩, ⟨h1, _⟩ | ⟨_, h1, h2, rfl⟩ | ⟨_, h1, rfl, rfl⟩⟩
  · exact absurd hG h1
  · exact absurd h2 (hl _ h1)
  · exact ⟨hbl, V, m, cv, rfl, hsl.old_ homR_fine⟩
theorem aread_arg {g : Geo} {l : List UInt8} (hG : ¬ GeoOk g) {A : Option Addr} {n c : Nat} {w : World} (hT : Tabs w) (hb : Bs w A n c l) (hn : n ≤ 60000) :
    Calls Tryd.prog 35 #[g.v, .slice A n c] w fun e w' => Below w.heap.size w w' ∧ ∃ V m d, e = .returned (.tuple #[noAnc.v (.slice V m d), .int .i64 1]) ∧ Sl homR 3 w' (Old w') V m d [] := by
  refine (aread_any g A n c _ w hT hb hn).mono ?_
  rintro e w' ⟨hbl, r, v, err, rfl, ⟨V, m, cv, rfl, hsl⟩, ⟨h1, rfl, rfl⟩ | ⟨h, _⟩ | ⟨h, _⟩⟩
  · exact ⟨hbl, V, m, cv, rfl, hsl.old_ homR_fine⟩
  · exact absurd h hG
  · exact absurd h hG
theorem ranch_some {g : Geo} {x : Anc} {l : List UInt8} (hG : GeoOk g) (hx : ancOf g.zones.toNat g.data.toNat l = some x) (ho : AncOk g x) {A : Option Addr} {n c : Nat} {w : World} (hb : Bs w A n c l) (hn : n ≤ 60000) :
    Calls Tryd.prog 39 #[g.v, .slice A n c] w fun e w' => Below w.heap.size w w' ∧ ∃ V m d, e = .returned (.tuple #[x.v (.slice V m d), .bool true]) ∧ Sl homR 3 w' (Old w') V m d x.homes := by
  refine (ranch_any g hG A n c _ w hb hn).mono ?_
  rintro e w' ⟨hbl, a', V, m, d, r, rfl, hsl, ⟨rfl, h1, _⟩ | ⟨_, h, _⟩⟩
  · rw [hx] at h1
    injection h1 with h1
    subst h1
    exact ⟨hbl, V, m, d, rfl, hsl⟩
  · exact absurd ho (h x hx)
theorem ranch_none {g : Geo} {l : List UInt8} (hG : GeoOk g) (hl : ∀ b, ancOf g.zones.toNat g.data.toNat l = some b → ¬ AncOk g b) {A : Option Addr} {n c : Nat} {w : World} (hb : Bs w A n c l) (hn : n ≤ 60000) :
    Calls Tryd.prog 39 #[g.v, .slice A n c] w fun e w' => Below w.heap.size w w' ∧ ∃ V m d, e = .returned (.tuple #[noAnc.v (.slice V m d), .bool false]) ∧ Sl homR 3 w' (Old w') V m d [] := by
  refine (ranch_any g hG A n c _ w hb hn).mono ?_
  rintro e w' ⟨hbl, a', V, m, d, r, rfl, hsl, ⟨_, h1, h2⟩ | ⟨rfl, _, rfl⟩⟩
  · exact absurd h2 (hl _ h1)
  · exact ⟨hbl, V, m, d, rfl, hsl⟩
theorem acheck_bad {g : Geo} {a : Anc} (ho : ¬ (GeoOk g ∧ AncOk g a)) {A : Option Addr} {n c : Nat} {w : World} (hT : Tabs w) (ha : Sl homR 3 w (Old w) A n c a.homes) (hin : a.In) (hl : Light a) :
    Calls Tryd.prog 36 #[g.v, a.v (.slice A n c)] w fun e w' => e = .returned (.int .i64 1) ∧ Below w.heap.size w w' := by
  have h := acheck_any g a A n c w hT ha hin hl
  rwa [show ancErr g a = 1 from if_neg ho] at h
theorem keepa_same {x : Anc} {A B : Option Addr} {n c m d : Nat} {w : World} (ha : Sl homR 3 w (Old w) A n c x.homes) (hb : Sl homR 3 w (Old w) B m d x.homes) (hl : x.homes.length ≤ 6000) (hp : ∀ h ∈ x.homes, h.places.length ≤ 6000) :
    Calls Tryd.prog 22 #[x.v (.slice A n c), x.v (.slice B m d)] w fun e w' => e = .returned (.bool true) ∧ Below w.heap.size w w' := by
  have h := keepa_any x x A B n c m d w ha hb (by have := ha.len; omega) (fun y hy => Nat.le_trans (hp y hy) (by omega))
  simpa using h
theorem anc_light {g : Geo} {a : Anc} (hG : GeoOk g) (ho : AncOk g a) : a.homes.length ≤ 6000 ∧ ∀ h ∈ a.homes, h.places.length ≤ 6000 := by
  have h1 := hG.1
  have h2 := hG.2.1
  have h3 := ho.2.2.1
  exact ⟨by omega, fun h hm => by have := (ho.2.2.2 h hm).1; omega⟩

set_option maxHeartbeats 16000000 in
theorem ae_111 {w : World} (hT : Tabs w) (g : Geo) (a : Anc) (A B : Option Addr) (n c nb cb : Nat) (name : ByteArray) (b : List UInt8) (ha : Sl homR 3 w (Old w) A n c a.homes) (hin : a.In) (hb : Bs w B nb cb b) (HH : heavyA a = false) (t1 : ¬ 200 < name.size) (t2 : ¬ 300 < nb) (hg : GeoOk g) (hE : labE (sL name) = 0) (x : Anc) (hxo : ancOf g.zones.toNat g.data.toNat b = some x) (hxk : AncOk g x) (hok : AncOk g a) :
    Calls Tryd.prog 6 #[g.v, a.v (.slice A n c), .string name, .slice B nb cb] w fun e w' => e = .returned (.bool true) ∧ Below w.heap.size w w' := by
  have HHV := hide fun w h => heavya_any a A n c w h
  have HGE := hide fun w => rgeo_any g w
  have HRA := hide fun hG hl w h => ranchor_any g hG a A n c w h hin hl
  have HTW := hide fun hn hp w h => katwin_any a A n c w h hn hp
  have HLEN := hide ha.len
  have HBLEN := hide hb.len
  have HIN := hide hin
  rw [HH] at HHV
  have HL := hide (heavyA_light HH)
  rw [decide_eq_true hg] at HGE
  rw [decide_eq_true hok] at HRA
  have HRA1 := hide fun w h => HRA.out hg HL.out w h
  unfold ATwinPost at HTW
  obtain ⟨W0, hW0⟩ : ∃ W0, W0 = (w.alloc (.cells #[.int .i64 g.zones, .int .i64 g.data, .int .i64 g.spares, .int .i64 g.slots, .int .i64 g.anchors] 23)).alloc (.cells #[.int .i64 a.gen, .int .i64 a.epoch, .int .i64 a.pos, .int .i64 a.seq, .int .i64 a.last, .string a.label, .slice A n c] 26) := ⟨_, rfl⟩
  have hb0 : Below w.heap.size w W0 := by rw [hW0]; exact (alloc_below w _).alloc (by simp) _
  have ha0 := ha.on homR_fine hb0
  have hr0 := hb.on byteR_fine hb0
  have hgb : GeoAt W0 w.heap.size g := by rw [hW0]; exact (GeoAt.new w g 23).on (alloc_below _ _)
  have hsv : Sev W0 (w.heap.size + 1) (.int .i64 a.gen) (.int .i64 a.epoch) (.int .i64 a.pos) (.int .i64 a.seq) (.int .i64 a.last) (.string a.label) (.slice A n c) := by rw [hW0]; exact Sev.new (by simp) (Below.refl _ _)
  have hN1 : w.heap.size + 1 < W0.heap.size := by rw [hW0]; simp
  have HSV := hide hsv
  have HGB := hide hgb
  have hpq := hgb.2
  rw [hW0] at hpq hsv
  obtain ⟨p0, p1, p2, p3, p4⟩ := hpq
  obtain ⟨q0, q1, q2, q3, q4, q5, q6⟩ := hsv
  clear hgb ha hb
  clear hin HH
  have HNN := hide fun (V : Option Addr) (m q : Nat) (w : World) (h : Sl homR 3 w (Old w) V m q []) => keepa_same (x := noAnc) (A := V) (B := none) (n := m) (c := q) (m := 0) (d := 0) (w := w) h (Sl.nil_ _) (by show 0 ≤ 6000; omega) (fun y hy => by cases hy)
  unfold Geo.v Anc.v at *
  unfold noAnc at HNN
  dsimp only at HNN
  have t1' : ¬ (200 : Int) < (name.size : Int) := by omega
  have t2' : ¬ (300 : Int) < (nb : Int) := by omega
  have hn6 : n ≤ 6000 := by have := HL.out.2.1; have := HLEN.out; omega
  have HTW1 := hide fun w h => HTW.out hn6 HL.out.2.2 w h
  have HNS : Hid (name.size ≤ 60000) := hide (by omega)
  have HKI := hide fun (V : Option Addr) (q : Nat) (w : World) (h : Sl homR 3 w (Old w) V n q a.homes) (h2 : Sl homR 3 w (Old w) A n c a.homes) => keepa_same (x := a) h h2 HL.out.2.1 HL.out.2.2
  unfold Anc.v at HKI
  have HLB0 := hide fun w => rlabel_any name (by have := HNS.out; omega) w
  obtain ⟨Z, hZ⟩ : ∃ Z : Nat, g.zones = (Z : Int) := ⟨g.zones.toNat, by have := hg.1; omega⟩
  obtain ⟨D, hD⟩ : ∃ D : Nat, g.data = (D : Int) := ⟨g.data.toNat, by have := hg.2.1; omega⟩
  have hZ4 : Z ≤ 4 := by have := hg.1; omega
  have hD4 : D ≤ 4 := by have := hg.2.1; omega
  have HFI := hide fun w hT => afirst_yes (g := g) (name := name) hg hZ hD HNS.out hE w hT
  have HRF := hide fun w => rafirst_any (g := g) hZ hD hZ4 hD4 name w
  have HKX := hide fun (V U : Option Addr) (q u : Nat) (w : World) (h : Sl homR 3 w (Old w) V Z q (List.replicate Z (newHom D))) (h2 : Sl homR 3 w (Old w) U Z u (List.replicate Z (newHom D))) => keepa_same (x := newAnc Z D name) h h2 (by show (List.replicate Z (newHom D)).length ≤ 6000; rw [List.length_replicate]; omega) (fun y hy => by obtain rfl := (List.mem_replicate.1 hy).2; show (upTo (D + 1)).length ≤ 6000; rw [upTo_len]; omega)
  have HLB := hide fun w => HLB0.out w
  rw [hE] at HLB
  unfold Geo.v at HFI HRF
  unfold newAnc Anc.v at HFI HRF HKX
  try dsimp only at HFI HRF HKX
  have HRD := hide fun (w : World) (hT : Tabs w) (h : Bs w B nb cb b) => aread_some (g := g) hg hxo hxk hT h (by omega)
  have HRR := hide fun (w : World) (h : Bs w B nb cb b) => ranch_some (g := g) hg hxo hxk h (by omega)
  have HXL := anc_light hg hxk
  have HKR := hide fun (V U : Option Addr) (p q r u : Nat) (w : World) (h : Sl homR 3 w (Old w) V p q x.homes) (h2 : Sl homR 3 w (Old w) U r u x.homes) => keepa_same (x := x) h h2 HXL.1 HXL.2
  unfold Geo.v at HRD HRR
  unfold Anc.v at HRD HRR HKR
  try dsimp only at HRD HRR
  clear hxo hxk HXL
  have HBY := hide fun (V : Option Addr) (q : Nat) (w : World) (hT : Tabs w) (h : Sl homR 3 w (Old w) V n q a.homes) => abytes_yes (g := g) (a := a) hg hok hT h HIN.out HL.out
  have HCK := hide fun (V : Option Addr) (q : Nat) (w : World) (hT : Tabs w) (h : Sl homR 3 w (Old w) V n q a.homes) => acheck_yes (g := g) (a := a) hg hok hT h HIN.out HL.out
  have HRB := hide fun w h => rabytes_yes hg hok (A := A) (n := n) (c := c) (w := w) h
  have hrm := (anc_room hg hok).2
  obtain ⟨LA, hLA⟩ : ∃ LA, LA = (ancL a).length := ⟨_, rfl⟩
  rw [← hLA] at HBY HRB hrm
  have HBB := hide fun (V U : Option Addr) (q u : Nat) (w : World) (h : Bs w V LA q (ancL a)) (h2 : Bs w U LA u (ancL a)) => (bytes_any V U LA q LA u (ancL a) (ancL a) w h h2 (by omega)).mono (fun e w' (hh : e = .returned (.bool (decide (ancL a = ancL a))) ∧ ∃ q, w' = w.drewN q) => (⟨by rw [hh.1, decide_eq_true rfl], by obtain ⟨_, q, rfl⟩ := hh; exact drewN_below _ q⟩ : e = .returned (.bool true) ∧ Below w.heap.size w w'))
  unfold Geo.v at HBY HCK
  unfold Anc.v at HBY HCK HRB
  clear hLA hok
  clear hZ hD hg
  go_enter Tryd.func6, Tryd.ntmps6
  go_wp2_with fail
  rw [← hW0]
  clear hW0
  clear p0 p1 p2 p3 p4
  clear q0 q1 q2 q3 q4 q5 q6
  with_reducible refine (HHV.out _ ha0).mono ?_
  rintro e w1 ⟨rfl, hb1⟩
  obtain ⟨q0, q1, q2, q3, q4, q5, q6⟩ := HSV.out.onB hN1 hb1
  go_wp2_with fail
  with_reducible refine (HTW1.out _ (ha0.on homR_fine hb1)).mono ?_
  rintro e w2 ⟨hb2, VI, ci, rfl, how2⟩
  obtain ⟨W3, hW3⟩ : ∃ W3, W3 = w2.alloc (.cells #[.int .i64 a.gen, .int .i64 a.epoch, .int .i64 a.pos, .int .i64 a.seq, .int .i64 a.last, .string a.label, .slice VI n ci] 26) := ⟨_, rfl⟩
  have hE3 : Below w2.heap.size w2 W3 := by rw [hW3]; exact alloc_below _ _
  have hN3 : w2.heap.size < W3.heap.size := by rw [hW3]; simp
  have hv3 : Sev W3 w2.heap.size (.int .i64 a.gen) (.int .i64 a.epoch) (.int .i64 a.pos) (.int .i64 a.seq) (.int .i64 a.last) (.string a.label) (.slice VI n ci) := by rw [hW3]; exact Sev.new rfl (Below.refl _ _)
  have HVI := hide hv3
  have hi3 := (how2.read.old_ homR_fine).on homR_fine hE3
  have hb03 := th hb1 (th hb2 hE3)
  clear hv3 q0 q1 q2 q3 q4 q5 q6
  go_upto_region 4 with fail
  rw [← hW3]
  clear hW3
  obtain ⟨_, p0, p1, p2, p3, p4⟩ := HGB.out.on hb03
  go_wp2_with fail
  with_reducible refine (HFI.out _ (hT.below (th hb0 hb03))).mono ?_
  rintro e w4 ⟨hb4, V4, c4, rfl, hs4⟩
  have hs4 := hs4.old_ homR_fine
  obtain ⟨W5, hW5⟩ : ∃ W5, W5 = w4.alloc (.cells #[.int .i64 1, .int .i64 0, .int .i64 0, .int .i64 1, .int .i64 0, .string name, .slice V4 Z c4] 26) := ⟨_, rfl⟩
  have hE5 : Below w4.heap.size w4 W5 := by rw [hW5]; exact alloc_below _ _
  have hN5 : w4.heap.size < W5.heap.size := by rw [hW5]; simp
  have hv5 : Sev W5 w4.heap.size (.int .i64 1) (.int .i64 0) (.int .i64 0) (.int .i64 1) (.int .i64 0) (.string name) (.slice V4 Z c4) := by rw [hW5]; exact Sev.new rfl (Below.refl _ _)
  have HVX := hide hv5
  have hx5 := hs4.on homR_fine hE5
  have hb35 := th hb4 hE5
  have hb05 := th hb03 hb35
  clear hv5 p0 p1 p2 p3 p4
  go_upto_region 5 with fail
  rw [← hW5]
  clear hW5
  obtain ⟨_, p0, p1, p2, p3, p4⟩ := HGB.out.on hb05
  obtain ⟨i0, i1, i2, i3, i4, i5, i6⟩ := HVI.out.on hN3 hb35
  go_wp2_with fail
  with_reducible refine (HBY.out _ _ _ (hT.below (th hb0 hb05)) (hi3.on homR_fine hb35)).mono ?_
  rintro e w6 ⟨hb6, V6, c6, rfl, ho6⟩
  have hy6 := ho6.read byteR_fine
  have hb56 := hb6
  have hb06 := th hb05 hb6
  clear p0 p1 p2 p3 p4
  clear i0 i1 i2 i3 i4 i5 i6
  obtain ⟨_, p0, p1, p2, p3, p4⟩ := HGB.out.on hb06
  go_wp2_with fail
  with_reducible refine (HRD.out _ (hT.below (th hb0 hb06)) (hr0.on byteR_fine hb06)).mono ?_
  rintro e w7 ⟨hb7, V7, m7, c7, rfl, hs7⟩
  obtain ⟨W9, hW9⟩ : ∃ W9, W9 = (w7.alloc (.cells #[.int .i64 x.gen, .int .i64 x.epoch, .int .i64 x.pos, .int .i64 x.seq, .int .i64 x.last, .string x.label, .slice V7 m7 c7] 26)).alloc (.cells #[.int .i64 0, .int .i64 0, .int .i64 0, .int .i64 0, .int .i64 0, .string ⟨#[]⟩, .slice none 0 0] 26) := ⟨_, rfl⟩
  have hE9 : Below w7.heap.size w7 W9 := by rw [hW9]; exact (alloc_below _ _).alloc (by simp) _
  have hN9 : w7.heap.size < W9.heap.size := by rw [hW9]; simp; omega
  have hN9' : w7.heap.size + 1 < W9.heap.size := by rw [hW9]; simp
  have hv9 : Sev W9 w7.heap.size (.int .i64 x.gen) (.int .i64 x.epoch) (.int .i64 x.pos) (.int .i64 x.seq) (.int .i64 x.last) (.string x.label) (.slice V7 m7 c7) := by rw [hW9]; exact (Sev.new rfl (Below.refl _ _)).on (by simp) (alloc_below _ _)
  have hv9' : Sev W9 (w7.heap.size + 1) (.int .i64 0) (.int .i64 0) (.int .i64 0) (.int .i64 0) (.int .i64 0) (.string ⟨#[]⟩) (.slice none 0 0) := by rw [hW9]; exact Sev.new (by simp) (Below.refl _ _)
  have HVZ := hide hv9
  have HVN := hide hv9'
  have hz9 := hs7.on homR_fine hE9
  have hb69 := th hb7 hE9
  have hb59 := th hb6 hb69
  have hb39 := th hb35 hb59
  have hb09 := th hb03 hb39
  clear hv9 hv9' p0 p1 p2 p3 p4
  go_upto_region 8 with fail
  rw [← hW9]
  clear hW9
  obtain ⟨_, p0, p1, p2, p3, p4⟩ := HGB.out.on hb09
  go_wp2_with fail
  with_reducible refine (HGE.out _).mono ?_
  rintro e w10 ⟨rfl, hb10⟩
  have hb910 := hb10
  have hb010 := th hb09 hb10
  clear p0 p1 p2 p3 p4
  go_wp2_with fail
  with_reducible refine (HLB.out _).mono ?_
  rintro e w11 ⟨rfl, hb11⟩
  have hb911 := th hb910 hb11
  have hb011 := th hb010 hb11
  have HS : Hid (∀ W, Below w11.heap.size w11 W → W.cell? ⟨w4.heap.size, 0, none⟩ = some (.int .i64 1) ∧ W.cell? ⟨w4.heap.size, 1, none⟩ = some (.int .i64 0) ∧ W.cell? ⟨w4.heap.size, 2, none⟩ = some (.int .i64 0) ∧ W.cell? ⟨w4.heap.size, 3, none⟩ = some (.int .i64 1) ∧ W.cell? ⟨w4.heap.size, 4, none⟩ = some (.int .i64 0) ∧ W.cell? ⟨w4.heap.size, 5, none⟩ = some (.string name) ∧ W.cell? ⟨w4.heap.size, 6, none⟩ = some (.slice V4 Z c4) ∧ W.cell? ⟨w.heap.size, 0, none⟩ = some (.int .i64 g.zones) ∧ W.cell? ⟨w.heap.size, 1, none⟩ = some (.int .i64 g.data) ∧ W.cell? ⟨w.heap.size, 2, none⟩ = some (.int .i64 g.spares) ∧ W.cell? ⟨w.heap.size, 3, none⟩ = some (.int .i64 g.slots) ∧ W.cell? ⟨w.heap.size, 4, none⟩ = some (.int .i64 g.anchors) ∧ W.cell? ⟨w7.heap.size + 1, 0, none⟩ = some (.int .i64 0) ∧ W.cell? ⟨w7.heap.size + 1, 1, none⟩ = some (.int .i64 0) ∧ W.cell? ⟨w7.heap.size + 1, 2, none⟩ = some (.int .i64 0) ∧ W.cell? ⟨w7.heap.size + 1, 3, none⟩ = some (.int .i64 0) ∧ W.cell? ⟨w7.heap.size + 1, 4, none⟩ = some (.int .i64 0) ∧ W.cell? ⟨w7.heap.size + 1, 5, none⟩ = some (.string ⟨#[]⟩) ∧ W.cell? ⟨w7.heap.size + 1, 6, none⟩ = some (.slice none 0 0)) := hide fun W hW => by
    obtain ⟨x0, x1, x2, x3, x4, x5, x6⟩ := HVX.out.on hN5 (th hb59 (th hb911 hW))
    obtain ⟨_, p0, p1, p2, p3, p4⟩ := HGB.out.on (th hb011 hW)
    obtain ⟨n0, n1, n2, n3, n4, n5, n6⟩ := HVN.out.on hN9' (th hb911 hW)
    exact ⟨x0, x1, x2, x3, x4, x5, x6, p0, p1, p2, p3, p4, n0, n1, n2, n3, n4, n5, n6⟩
  have hx11 := hx5.on homR_fine (th hb59 hb911)
  have hcur := Below.refl w11.heap.size w11
  go_upto_region 11 with fail
  go_cut [116] (fun v wx => v = .bool false ∧ Below w11.heap.size w11 wx)
  case first =>
    refine wp_region_held_drew (S := (fun W => W.cell? ⟨w4.heap.size, 0, none⟩ = some (.int .i64 1) ∧ W.cell? ⟨w4.heap.size, 1, none⟩ = some (.int .i64 0) ∧ W.cell? ⟨w4.heap.size, 2, none⟩ = some (.int .i64 0) ∧ W.cell? ⟨w4.heap.size, 3, none⟩ = some (.int .i64 1) ∧ W.cell? ⟨w4.heap.size, 4, none⟩ = some (.int .i64 0) ∧ W.cell? ⟨w4.heap.size, 5, none⟩ = some (.string name) ∧ W.cell? ⟨w4.heap.size, 6, none⟩ = some (.slice V4 Z c4) ∧ W.cell? ⟨w.heap.size, 0, none⟩ = some (.int .i64 g.zones) ∧ W.cell? ⟨w.heap.size, 1, none⟩ = some (.int .i64 g.data) ∧ W.cell? ⟨w.heap.size, 2, none⟩ = some (.int .i64 g.spares) ∧ W.cell? ⟨w.heap.size, 3, none⟩ = some (.int .i64 g.slots) ∧ W.cell? ⟨w.heap.size, 4, none⟩ = some (.int .i64 g.anchors) ∧ W.cell? ⟨w7.heap.size + 1, 0, none⟩ = some (.int .i64 0) ∧ W.cell? ⟨w7.heap.size + 1, 1, none⟩ = some (.int .i64 0) ∧ W.cell? ⟨w7.heap.size + 1, 2, none⟩ = some (.int .i64 0) ∧ W.cell? ⟨w7.heap.size + 1, 3, none⟩ = some (.int .i64 0) ∧ W.cell? ⟨w7.heap.size + 1, 4, none⟩ = some (.int .i64 0) ∧ W.cell? ⟨w7.heap.size + 1, 5, none⟩ = some (.string ⟨#[]⟩) ∧ W.cell? ⟨w7.heap.size + 1, 6, none⟩ = some (.slice none 0 0))) (by kernel_rfl) (by (try dsimp only); first | with_reducible exact HS.out _ hcur | with_reducible exact HS.out _ hcur.drew) (fun hHeld => ?_)
    refine wpAnyH_take (i := 0) (v := ?_) rfl (by kernel_rfl) (by kernel_rfl) (by kernel_rfl) (fun _ _ _ h => h) (Or.inl ⟨by rfl, ?_⟩) (by assumption) ?_
    rotate_left
    · (intro w hSw; (try dsimp only at hSw); go_simp; try with_reducible rfl)
    simp only [Act.put, List.getElem_toArray, List.getElem_cons_zero, List.setIfInBounds_toArray, List.set_cons_zero, List.set_cons_succ]
    refine wpAnyH_take (i := 1) (v := ?_) rfl (by kernel_rfl) (by kernel_rfl) (by kernel_rfl) (fun _ _ _ h => h) (Or.inl ⟨by rfl, ?_⟩) (by assumption) ?_
    rotate_left
    · (intro w hSw; (try dsimp only at hSw); go_simp; try with_reducible rfl)
    simp only [Act.put, List.getElem_toArray, List.getElem_cons_succ, List.getElem_cons_zero, List.setIfInBounds_toArray, List.set_cons_zero, List.set_cons_succ]
    refine wpAnyH_take (i := 2) (v := ?_) rfl (by kernel_rfl) (by kernel_rfl) (by kernel_rfl) (fun _ _ _ h => h) (Or.inl ⟨by rfl, ?_⟩) (by assumption) ?_
    rotate_left
    · (intro w hSw; (try dsimp only at hSw); go_simp; try with_reducible rfl)
    simp only [Act.put, List.getElem_toArray, List.getElem_cons_succ, List.getElem_cons_zero, List.setIfInBounds_toArray, List.set_cons_zero, List.set_cons_succ]
    refine wpAnyH_take (i := 3) (v := ?_) rfl (by kernel_rfl) (by kernel_rfl) (by kernel_rfl) (fun _ _ _ h => h) (Or.inl ⟨by rfl, ?_⟩) (by assumption) ?_
    rotate_left
    · (intro w hSw; (try dsimp only at hSw); go_simp; try with_reducible rfl)
    simp only [Act.put, List.getElem_toArray, List.getElem_cons_succ, List.getElem_cons_zero, List.setIfInBounds_toArray, List.set_cons_zero, List.set_cons_succ]
    refine wpAnyH_take (i := 4) (v := ?_) rfl (by kernel_rfl) (by kernel_rfl) (by kernel_rfl) (fun _ _ _ h => h) (Or.inl ⟨by rfl, ?_⟩) (by assumption) ?_
    rotate_left
    · (intro w hSw; (try dsimp only at hSw); go_simp; try with_reducible rfl)
    simp only [Act.put, List.getElem_toArray, List.getElem_cons_succ, List.getElem_cons_zero, List.setIfInBounds_toArray, List.set_cons_zero, List.set_cons_succ]
    refine wpAnyH_take (i := 5) (v := ?_) rfl (by kernel_rfl) (by kernel_rfl) (by kernel_rfl) (fun _ _ _ h => h) (Or.inl ⟨by rfl, ?_⟩) (by assumption) ?_
    rotate_left
    · (intro w hSw; (try dsimp only at hSw); go_simp; try with_reducible rfl)
    simp only [Act.put, List.getElem_toArray, List.getElem_cons_succ, List.getElem_cons_zero, List.setIfInBounds_toArray, List.set_cons_zero, List.set_cons_succ]
    refine wpAnyH_take (i := 6) (v := ?_) rfl (by kernel_rfl) (by kernel_rfl) (by kernel_rfl) (fun _ _ _ h => h) (Or.inl ⟨by rfl, ?_⟩) (by assumption) ?_
    rotate_left
    · (intro w hSw; (try dsimp only at hSw); go_simp; try with_reducible rfl)
    simp only [Act.put, List.getElem_toArray, List.getElem_cons_succ, List.getElem_cons_zero, List.setIfInBounds_toArray, List.set_cons_zero, List.set_cons_succ]
    refine wpAnyH_take (i := 7) (v := ?_) rfl (by kernel_rfl) (by kernel_rfl) (by kernel_rfl) (fun _ _ _ h => h) (Or.inl ⟨by rfl, ?_⟩) (by assumption) ?_
    rotate_left
    · (intro w hSw; (try dsimp only at hSw); go_simp; try with_reducible rfl)
    simp only [Act.put, List.getElem_toArray, List.getElem_cons_succ, List.getElem_cons_zero, List.setIfInBounds_toArray, List.set_cons_zero, List.set_cons_succ]
    refine wpAnyH_take (i := 8) (v := ?_) rfl (by kernel_rfl) (by kernel_rfl) (by kernel_rfl) (fun _ _ _ h => h) (Or.inl ⟨by rfl, ?_⟩) (by assumption) ?_
    rotate_left
    · (intro w hSw; (try dsimp only at hSw); go_simp; try with_reducible rfl)
    simp only [Act.put, List.getElem_toArray, List.getElem_cons_succ, List.getElem_cons_zero, List.setIfInBounds_toArray, List.set_cons_zero, List.set_cons_succ]
    refine wpAnyH_take (i := 9) (v := ?_) rfl (by kernel_rfl) (by kernel_rfl) (by kernel_rfl) (fun _ _ _ h => h) (Or.inl ⟨by rfl, ?_⟩) (by assumption) ?_
    rotate_left
    · (intro w hSw; (try dsimp only at hSw); go_simp; try with_reducible rfl)
    simp only [Act.put, List.getElem_toArray, List.getElem_cons_succ, List.getElem_cons_zero, List.setIfInBounds_toArray, List.set_cons_zero, List.set_cons_succ]
    refine wpAnyH_ready (rs := [10]) (by kernel_rfl) (by simp) ?_
    refine AllReadyH.cons rfl (fun K hK => ?_) AllReadyH.nil
    go_simp
    ((go_at_call 31; (with_reducible refine (HRF.out _).mono ?_)); rintro e wA ⟨hzA, VA, cA, rfl, hsA⟩; have hcur := th (by first | with_reducible exact hcur | with_reducible exact hcur.drew) hzA; have hsA := hsA.old_ homR_fine)
    go_wp2_with fail
    refine hK.out _ _ ?_ (fun hHeld => ?_)
    · ((try dsimp only); first | with_reducible exact HS.out _ hcur | with_reducible exact HS.out _ hcur.drew)
    clear hK K
    refine wpAnyH_ready (rs := [11]) (by kernel_rfl) (by simp) ?_
    refine AllReadyH.cons rfl (fun K hK => ?_) AllReadyH.nil
    go_simp
    ((go_at_call 22; (with_reducible refine (HKX.out _ _ _ _ _ (hx11.on homR_fine (by first | with_reducible exact hcur | with_reducible exact hcur.drew)) (by first | exact hsA | exact Sl.drew homR_fine hsA)).mono ?_)); rintro e wB ⟨rfl, hzB⟩; have hcur := th (by first | with_reducible exact hcur | with_reducible exact hcur.drew) hzB)
    go_wp2_with fail
    refine hK.out _ _ ?_ (fun hHeld => ?_)
    · ((try dsimp only); first | with_reducible exact HS.out _ hcur | with_reducible exact HS.out _ hcur.drew)
    clear hK K
    refine wpAnyH_take (i := 12) (v := ?_) rfl (by kernel_rfl) (by kernel_rfl) (by kernel_rfl) (fun _ _ _ h => h) (Or.inl ⟨by rfl, ?_⟩) (by assumption) ?_
    rotate_left
    · (intro w hSw; (try dsimp only at hSw); go_simp; try with_reducible rfl)
    simp only [Act.put, List.getElem_toArray, List.getElem_cons_succ, List.getElem_cons_zero, List.setIfInBounds_toArray, List.set_cons_zero, List.set_cons_succ]
    refine wpAnyH_take (i := 13) (v := ?_) rfl (by kernel_rfl) (by kernel_rfl) (by kernel_rfl) (fun _ _ _ h => h) (Or.inl ⟨by rfl, ?_⟩) (by assumption) ?_
    rotate_left
    · (intro w hSw; (try dsimp only at hSw); go_simp; try with_reducible rfl)
    simp only [Act.put, List.getElem_toArray, List.getElem_cons_succ, List.getElem_cons_zero, List.setIfInBounds_toArray, List.set_cons_zero, List.set_cons_succ]
    refine wpAnyH_take (i := 14) (v := ?_) rfl (by kernel_rfl) (by kernel_rfl) (by kernel_rfl) (fun _ _ _ h => h) (Or.inl ⟨by rfl, ?_⟩) (by assumption) ?_
    rotate_left
    · (intro w hSw; (try dsimp only at hSw); go_simp; try with_reducible rfl)
    simp only [Act.put, List.getElem_toArray, List.getElem_cons_succ, List.getElem_cons_zero, List.setIfInBounds_toArray, List.set_cons_zero, List.set_cons_succ]
    refine wpAnyH_take (i := 15) (v := ?_) rfl (by kernel_rfl) (by kernel_rfl) (by kernel_rfl) (fun _ _ _ h => h) (Or.inl ⟨by rfl, ?_⟩) (by assumption) ?_
    rotate_left
    · (intro w hSw; (try dsimp only at hSw); go_simp; try with_reducible rfl)
    simp only [Act.put, List.getElem_toArray, List.getElem_cons_succ, List.getElem_cons_zero, List.setIfInBounds_toArray, List.set_cons_zero, List.set_cons_succ]
    refine wpAnyH_take (i := 16) (v := ?_) rfl (by kernel_rfl) (by kernel_rfl) (by kernel_rfl) (fun _ _ _ h => h) (Or.inl ⟨by rfl, ?_⟩) (by assumption) ?_
    rotate_left
    · (intro w hSw; (try dsimp only at hSw); go_simp; try with_reducible rfl)
    simp only [Act.put, List.getElem_toArray, List.getElem_cons_succ, List.getElem_cons_zero, List.setIfInBounds_toArray, List.set_cons_zero, List.set_cons_succ]
    refine wpAnyH_take (i := 17) (v := ?_) rfl (by kernel_rfl) (by kernel_rfl) (by kernel_rfl) (fun _ _ _ h => h) (Or.inl ⟨by rfl, ?_⟩) (by assumption) ?_
    rotate_left
    · (intro w hSw; (try dsimp only at hSw); go_simp; try with_reducible rfl)
    simp only [Act.put, List.getElem_toArray, List.getElem_cons_succ, List.getElem_cons_zero, List.setIfInBounds_toArray, List.set_cons_zero, List.set_cons_succ]
    refine wpAnyH_take (i := 18) (v := ?_) rfl (by kernel_rfl) (by kernel_rfl) (by kernel_rfl) (fun _ _ _ h => h) (Or.inl ⟨by rfl, ?_⟩) (by assumption) ?_
    rotate_left
    · (intro w hSw; (try dsimp only at hSw); go_simp; try with_reducible rfl)
    simp only [Act.put, List.getElem_toArray, List.getElem_cons_succ, List.getElem_cons_zero, List.setIfInBounds_toArray, List.set_cons_zero, List.set_cons_succ]
    refine wpAnyH_take (i := 19) (v := undef) rfl (by kernel_rfl) (by kernel_rfl) (by kernel_rfl) (fun _ _ _ h => h) (Or.inr ⟨by rfl, rfl⟩) (by assumption) ?_
    simp only [Act.put, List.getElem_toArray, List.getElem_cons_succ, List.getElem_cons_zero, List.setIfInBounds_toArray, List.set_cons_zero, List.set_cons_succ]
    refine wpAnyH_take (i := 20) (v := undef) rfl (by kernel_rfl) (by kernel_rfl) (by kernel_rfl) (fun _ _ _ h => h) (Or.inr ⟨by rfl, rfl⟩) (by assumption) ?_
    simp only [Act.put, List.getElem_toArray, List.getElem_cons_succ, List.getElem_cons_zero, List.setIfInBounds_toArray, List.set_cons_zero, List.set_cons_succ]
    refine wpAnyH_take (i := 21) (v := undef) rfl (by kernel_rfl) (by kernel_rfl) (by kernel_rfl) (fun _ _ _ h => h) (Or.inr ⟨by rfl, rfl⟩) (by assumption) ?_
    simp only [Act.put, List.getElem_toArray, List.getElem_cons_succ, List.getElem_cons_zero, List.setIfInBounds_toArray, List.set_cons_zero, List.set_cons_succ]
    refine wpAnyH_take (i := 22) (v := undef) rfl (by kernel_rfl) (by kernel_rfl) (by kernel_rfl) (fun _ _ _ h => h) (Or.inr ⟨by rfl, rfl⟩) (by assumption) ?_
    simp only [Act.put, List.getElem_toArray, List.getElem_cons_succ, List.getElem_cons_zero, List.setIfInBounds_toArray, List.set_cons_zero, List.set_cons_succ]
    refine wpAnyH_take (i := 23) (v := ?_) rfl (by kernel_rfl) (by kernel_rfl) (by kernel_rfl) (fun _ _ _ h => h) (Or.inl ⟨by rfl, ?_⟩) (by assumption) ?_
    rotate_left
    · (intro w hSw; (try dsimp only at hSw); go_simp; try with_reducible rfl)
    simp only [Act.put, List.getElem_toArray, List.getElem_cons_succ, List.getElem_cons_zero, List.setIfInBounds_toArray, List.set_cons_zero, List.set_cons_succ]
    refine wpAnyH_take (i := 24) (v := ?_) rfl (by kernel_rfl) (by kernel_rfl) (by kernel_rfl) (fun _ _ _ h => h) (Or.inl ⟨by rfl, ?_⟩) (by assumption) ?_
    rotate_left
    · (intro w hSw; (try dsimp only at hSw); go_simp; try with_reducible rfl)
    simp only [Act.put, List.getElem_toArray, List.getElem_cons_succ, List.getElem_cons_zero, List.setIfInBounds_toArray, List.set_cons_zero, List.set_cons_succ]
    refine wpAnyH_done (by kernel_rfl) ?_ _
    go_wp2_with fail
    go_meet
    exact ⟨rfl, by first | exact hcur | exact hcur.drew⟩
  case rest =>
    obtain ⟨rfl, hb12⟩ := hcut
    have hb912 := th hb911 hb12
    have hb012 := th hb011 hb12
    obtain ⟨_, p0, p1, p2, p3, p4⟩ := HGB.out.on hb012
    go_wp2_with fail
    with_reducible refine (HRR.out _ (hr0.on byteR_fine hb012)).mono ?_
    rintro e w13 ⟨hb13, V13, m13, c13, rfl, hs13⟩
    obtain ⟨W14, hW14⟩ : ∃ W14, W14 = w13.alloc (.cells #[.int .i64 x.gen, .int .i64 x.epoch, .int .i64 x.pos, .int .i64 x.seq, .int .i64 x.last, .string x.label, .slice V13 m13 c13] 26) := ⟨_, rfl⟩
    have hE14 : Below w13.heap.size w13 W14 := by rw [hW14]; exact alloc_below _ _
    have hv14 : Sev W14 w13.heap.size (.int .i64 x.gen) (.int .i64 x.epoch) (.int .i64 x.pos) (.int .i64 x.seq) (.int .i64 x.last) (.string x.label) (.slice V13 m13 c13) := by rw [hW14]; exact Sev.new rfl (Below.refl _ _)
    have HVW := hide hv14
    have hw14 := hs13.on homR_fine hE14
    have hb914 := th hb912 (th hb13 hE14)
    have hb014 := th hb012 (th hb13 hE14)
    clear hv14 p0 p1 p2 p3 p4
    go_upto_region 14 with fail
    rw [← hW14]
    clear hW14
    obtain ⟨z0, z1, z2, z3, z4, z5, z6⟩ := HVZ.out.on hN9 hb914
    obtain ⟨r0, r1, r2, r3, r4, r5, r6⟩ := HVW.out
    go_wp2_with fail
    with_reducible refine (HKR.out _ _ _ _ _ _ _ (hz9.on homR_fine hb914) hw14).mono ?_
    rintro e w15 ⟨rfl, hb15⟩
    have hb915 := th hb914 hb15
    have hb015 := th hb014 hb15
    clear z0 z1 z2 z3 z4 z5 z6
    clear r0 r1 r2 r3 r4 r5 r6
    obtain ⟨_, p0, p1, p2, p3, p4⟩ := HGB.out.on hb015
    obtain ⟨q0, q1, q2, q3, q4, q5, q6⟩ := HSV.out.onB hN1 hb015
    go_wp2_with fail
    with_reducible refine (HRA1.out _ (ha0.on homR_fine hb015)).mono ?_
    rintro e w16 ⟨rfl, hb16⟩
    have hb916 := th hb915 hb16
    have hb016 := th hb015 hb16
    clear p0 p1 p2 p3 p4
    clear q0 q1 q2 q3 q4 q5 q6
    obtain ⟨_, p0, p1, p2, p3, p4⟩ := HGB.out.on hb016
    obtain ⟨i0, i1, i2, i3, i4, i5, i6⟩ := HVI.out.on hN3 (th hb39 hb916)
    go_wp2_with fail
    with_reducible refine (HCK.out _ _ _ (hT.below (th hb0 hb016)) (hi3.on homR_fine (th hb39 hb916))).mono ?_
    rintro e w17 ⟨rfl, hb17⟩
    have hb917 := th hb916 hb17
    have hb017 := th hb016 hb17
    clear p0 p1 p2 p3 p4
    clear i0 i1 i2 i3 i4 i5 i6
    obtain ⟨q0, q1, q2, q3, q4, q5, q6⟩ := HSV.out.onB hN1 hb017
    go_wp2_with fail
    with_reducible refine (HRB.out _ (ha0.on homR_fine hb017)).mono ?_
    rintro e w18 ⟨hb18, V18, c18, rfl, hs18⟩
    have hb918 := th hb917 hb18
    have hb018 := th hb017 hb18
    clear q0 q1 q2 q3 q4 q5 q6
    go_wp2_with fail
    with_reducible refine (HBB.out _ _ _ _ _ (hy6.on byteR_fine (th hb69 hb918)) hs18).mono ?_
    rintro e w19 ⟨rfl, hb19⟩
    have hb919 := th hb918 hb19
    have hb019 := th hb018 hb19
    obtain ⟨i0, i1, i2, i3, i4, i5, i6⟩ := HVI.out.on hN3 (th hb39 hb919)
    obtain ⟨q0, q1, q2, q3, q4, q5, q6⟩ := HSV.out.onB hN1 hb019
    go_wp2_with fail
    with_reducible refine (HKI.out _ _ _ (hi3.on homR_fine (th hb39 hb919)) (ha0.on homR_fine hb019)).mono ?_
    rintro e w20 ⟨rfl, hb20⟩
    have hb020 := th hb019 hb20
    clear i0 i1 i2 i3 i4 i5 i6
    clear q0 q1 q2 q3 q4 q5 q6
    go_wp2_with fail
    with_reducible refine (wakes08 _ (hT.below (th hb0 hb020))).mono ?_
    rintro e w30 ⟨rfl, hb30⟩
    go_wp2_with fail
    go_ret
    exact ⟨rfl, th hb0 (th hb020 hb30)⟩

set_option maxHeartbeats 16000000 in
theorem ae_110 {w : World} (hT : Tabs w) (g : Geo) (a : Anc) (A B : Option Addr) (n c nb cb : Nat) (name : ByteArray) (b : List UInt8) (ha : Sl homR 3 w (Old w) A n c a.homes) (hin : a.In) (hb : Bs w B nb cb b) (HH : heavyA a = false) (t1 : ¬ 200 < name.size) (t2 : ¬ 300 < nb) (hg : GeoOk g) (hE : labE (sL name) = 0) (x : Anc) (hxo : ancOf g.zones.toNat g.data.toNat b = some x) (hxk : AncOk g x) (hok : ¬ AncOk g a) :
    Calls Tryd.prog 6 #[g.v, a.v (.slice A n c), .string name, .slice B nb cb] w fun e w' => e = .returned (.bool true) ∧ Below w.heap.size w w' := by
  have HHV := hide fun w h => heavya_any a A n c w h
  have HGE := hide fun w => rgeo_any g w
  have HRA := hide fun hG hl w h => ranchor_any g hG a A n c w h hin hl
  have HTW := hide fun hn hp w h => katwin_any a A n c w h hn hp
  have HLEN := hide ha.len
  have HBLEN := hide hb.len
  have HIN := hide hin
  rw [HH] at HHV
  have HL := hide (heavyA_light HH)
  rw [decide_eq_true hg] at HGE
  rw [decide_eq_false hok] at HRA
  have HRA1 := hide fun w h => HRA.out hg HL.out w h
  unfold ATwinPost at HTW
  obtain ⟨W0, hW0⟩ : ∃ W0, W0 = (w.alloc (.cells #[.int .i64 g.zones, .int .i64 g.data, .int .i64 g.spares, .int .i64 g.slots, .int .i64 g.anchors] 23)).alloc (.cells #[.int .i64 a.gen, .int .i64 a.epoch, .int .i64 a.pos, .int .i64 a.seq, .int .i64 a.last, .string a.label, .slice A n c] 26) := ⟨_, rfl⟩
  have hb0 : Below w.heap.size w W0 := by rw [hW0]; exact (alloc_below w _).alloc (by simp) _
  have ha0 := ha.on homR_fine hb0
  have hr0 := hb.on byteR_fine hb0
  have hgb : GeoAt W0 w.heap.size g := by rw [hW0]; exact (GeoAt.new w g 23).on (alloc_below _ _)
  have hsv : Sev W0 (w.heap.size + 1) (.int .i64 a.gen) (.int .i64 a.epoch) (.int .i64 a.pos) (.int .i64 a.seq) (.int .i64 a.last) (.string a.label) (.slice A n c) := by rw [hW0]; exact Sev.new (by simp) (Below.refl _ _)
  have hN1 : w.heap.size + 1 < W0.heap.size := by rw [hW0]; simp
  have HSV := hide hsv
  have HGB := hide hgb
  have hpq := hgb.2
  rw [hW0] at hpq hsv
  obtain ⟨p0, p1, p2, p3, p4⟩ := hpq
  obtain ⟨q0, q1, q2, q3, q4, q5, q6⟩ := hsv
  clear hgb ha hb
  clear hin HH
  have HNN := hide fun (V : Option Addr) (m q : Nat) (w : World) (h : Sl homR 3 w (Old w) V m q []) => keepa_same (x := noAnc) (A := V) (B := none) (n := m) (c := q) (m := 0) (d := 0) (w := w) h (Sl.nil_ _) (by show 0 ≤ 6000; omega) (fun y hy => by cases hy)
  unfold Geo.v Anc.v at *
  unfold noAnc at HNN
  dsimp only at HNN
  have t1' : ¬ (200 : Int) < (name.size : Int) := by omega
  have t2' : ¬ (300 : Int) < (nb : Int) := by omega
  have hn6 : n ≤ 6000 := by have := HL.out.2.1; have := HLEN.out; omega
  have HTW1 := hide fun w h => HTW.out hn6 HL.out.2.2 w h
  have HNS : Hid (name.size ≤ 60000) := hide (by omega)
  have HKI := hide fun (V : Option Addr) (q : Nat) (w : World) (h : Sl homR 3 w (Old w) V n q a.homes) (h2 : Sl homR 3 w (Old w) A n c a.homes) => keepa_same (x := a) h h2 HL.out.2.1 HL.out.2.2
  unfold Anc.v at HKI
  have HLB0 := hide fun w => rlabel_any name (by have := HNS.out; omega) w
  obtain ⟨Z, hZ⟩ : ∃ Z : Nat, g.zones = (Z : Int) := ⟨g.zones.toNat, by have := hg.1; omega⟩
  obtain ⟨D, hD⟩ : ∃ D : Nat, g.data = (D : Int) := ⟨g.data.toNat, by have := hg.2.1; omega⟩
  have hZ4 : Z ≤ 4 := by have := hg.1; omega
  have hD4 : D ≤ 4 := by have := hg.2.1; omega
  have HFI := hide fun w hT => afirst_yes (g := g) (name := name) hg hZ hD HNS.out hE w hT
  have HRF := hide fun w => rafirst_any (g := g) hZ hD hZ4 hD4 name w
  have HKX := hide fun (V U : Option Addr) (q u : Nat) (w : World) (h : Sl homR 3 w (Old w) V Z q (List.replicate Z (newHom D))) (h2 : Sl homR 3 w (Old w) U Z u (List.replicate Z (newHom D))) => keepa_same (x := newAnc Z D name) h h2 (by show (List.replicate Z (newHom D)).length ≤ 6000; rw [List.length_replicate]; omega) (fun y hy => by obtain rfl := (List.mem_replicate.1 hy).2; show (upTo (D + 1)).length ≤ 6000; rw [upTo_len]; omega)
  have HLB := hide fun w => HLB0.out w
  rw [hE] at HLB
  unfold Geo.v at HFI HRF
  unfold newAnc Anc.v at HFI HRF HKX
  try dsimp only at HFI HRF HKX
  have HRD := hide fun (w : World) (hT : Tabs w) (h : Bs w B nb cb b) => aread_some (g := g) hg hxo hxk hT h (by omega)
  have HRR := hide fun (w : World) (h : Bs w B nb cb b) => ranch_some (g := g) hg hxo hxk h (by omega)
  have HXL := anc_light hg hxk
  have HKR := hide fun (V U : Option Addr) (p q r u : Nat) (w : World) (h : Sl homR 3 w (Old w) V p q x.homes) (h2 : Sl homR 3 w (Old w) U r u x.homes) => keepa_same (x := x) h h2 HXL.1 HXL.2
  unfold Geo.v at HRD HRR
  unfold Anc.v at HRD HRR HKR
  try dsimp only at HRD HRR
  clear hxo hxk HXL
  have HBY := hide fun (V : Option Addr) (q : Nat) (w : World) (hT : Tabs w) (h : Sl homR 3 w (Old w) V n q a.homes) => abytes_no (g := g) (a := a) (fun h => hok h.2) hT h HIN.out HL.out
  have HCK := hide fun (V : Option Addr) (q : Nat) (w : World) (hT : Tabs w) (h : Sl homR 3 w (Old w) V n q a.homes) => acheck_bad (g := g) (a := a) (fun h => hok h.2) hT h HIN.out HL.out
  unfold Geo.v at HBY HCK
  unfold Anc.v at HBY HCK
  clear hok
  clear hZ hD hg
  go_enter Tryd.func6, Tryd.ntmps6
  go_wp2_with fail
  rw [← hW0]
  clear hW0
  clear p0 p1 p2 p3 p4
  clear q0 q1 q2 q3 q4 q5 q6
  with_reducible refine (HHV.out _ ha0).mono ?_
  rintro e w1 ⟨rfl, hb1⟩
  obtain ⟨q0, q1, q2, q3, q4, q5, q6⟩ := HSV.out.onB hN1 hb1
  go_wp2_with fail
  with_reducible refine (HTW1.out _ (ha0.on homR_fine hb1)).mono ?_
  rintro e w2 ⟨hb2, VI, ci, rfl, how2⟩
  obtain ⟨W3, hW3⟩ : ∃ W3, W3 = w2.alloc (.cells #[.int .i64 a.gen, .int .i64 a.epoch, .int .i64 a.pos, .int .i64 a.seq, .int .i64 a.last, .string a.label, .slice VI n ci] 26) := ⟨_, rfl⟩
  have hE3 : Below w2.heap.size w2 W3 := by rw [hW3]; exact alloc_below _ _
  have hN3 : w2.heap.size < W3.heap.size := by rw [hW3]; simp
  have hv3 : Sev W3 w2.heap.size (.int .i64 a.gen) (.int .i64 a.epoch) (.int .i64 a.pos) (.int .i64 a.seq) (.int .i64 a.last) (.string a.label) (.slice VI n ci) := by rw [hW3]; exact Sev.new rfl (Below.refl _ _)
  have HVI := hide hv3
  have hi3 := (how2.read.old_ homR_fine).on homR_fine hE3
  have hb03 := th hb1 (th hb2 hE3)
  clear hv3 q0 q1 q2 q3 q4 q5 q6
  go_upto_region 4 with fail
  rw [← hW3]
  clear hW3
  obtain ⟨_, p0, p1, p2, p3, p4⟩ := HGB.out.on hb03
  go_wp2_with fail
  with_reducible refine (HFI.out _ (hT.below (th hb0 hb03))).mono ?_
  rintro e w4 ⟨hb4, V4, c4, rfl, hs4⟩
  have hs4 := hs4.old_ homR_fine
  obtain ⟨W5, hW5⟩ : ∃ W5, W5 = w4.alloc (.cells #[.int .i64 1, .int .i64 0, .int .i64 0, .int .i64 1, .int .i64 0, .string name, .slice V4 Z c4] 26) := ⟨_, rfl⟩
  have hE5 : Below w4.heap.size w4 W5 := by rw [hW5]; exact alloc_below _ _
  have hN5 : w4.heap.size < W5.heap.size := by rw [hW5]; simp
  have hv5 : Sev W5 w4.heap.size (.int .i64 1) (.int .i64 0) (.int .i64 0) (.int .i64 1) (.int .i64 0) (.string name) (.slice V4 Z c4) := by rw [hW5]; exact Sev.new rfl (Below.refl _ _)
  have HVX := hide hv5
  have hx5 := hs4.on homR_fine hE5
  have hb35 := th hb4 hE5
  have hb05 := th hb03 hb35
  clear hv5 p0 p1 p2 p3 p4
  go_upto_region 5 with fail
  rw [← hW5]
  clear hW5
  obtain ⟨_, p0, p1, p2, p3, p4⟩ := HGB.out.on hb05
  obtain ⟨i0, i1, i2, i3, i4, i5, i6⟩ := HVI.out.on hN3 hb35
  go_wp2_with fail
  with_reducible refine (HBY.out _ _ _ (hT.below (th hb0 hb05)) (hi3.on homR_fine hb35)).mono ?_
  rintro e w6 ⟨hb6, V6, c6, rfl⟩
  have hb56 := hb6
  have hb06 := th hb05 hb6
  clear p0 p1 p2 p3 p4
  clear i0 i1 i2 i3 i4 i5 i6
  obtain ⟨_, p0, p1, p2, p3, p4⟩ := HGB.out.on hb06
  go_wp2_with fail
  with_reducible refine (HRD.out _ (hT.below (th hb0 hb06)) (hr0.on byteR_fine hb06)).mono ?_
  rintro e w7 ⟨hb7, V7, m7, c7, rfl, hs7⟩
  obtain ⟨W9, hW9⟩ : ∃ W9, W9 = (w7.alloc (.cells #[.int .i64 x.gen, .int .i64 x.epoch, .int .i64 x.pos, .int .i64 x.seq, .int .i64 x.last, .string x.label, .slice V7 m7 c7] 26)).alloc (.cells #[.int .i64 0, .int .i64 0, .int .i64 0, .int .i64 0, .int .i64 0, .string ⟨#[]⟩, .slice none 0 0] 26) := ⟨_, rfl⟩
  have hE9 : Below w7.heap.size w7 W9 := by rw [hW9]; exact (alloc_below _ _).alloc (by simp) _
  have hN9 : w7.heap.size < W9.heap.size := by rw [hW9]; simp; omega
  have hN9' : w7.heap.size + 1 < W9.heap.size := by rw [hW9]; simp
  have hv9 : Sev W9 w7.heap.size (.int .i64 x.gen) (.int .i64 x.epoch) (.int .i64 x.pos) (.int .i64 x.seq) (.int .i64 x.last) (.string x.label) (.slice V7 m7 c7) := by rw [hW9]; exact (Sev.new rfl (Below.refl _ _)).on (by simp) (alloc_below _ _)
  have hv9' : Sev W9 (w7.heap.size + 1) (.int .i64 0) (.int .i64 0) (.int .i64 0) (.int .i64 0) (.int .i64 0) (.string ⟨#[]⟩) (.slice none 0 0) := by rw [hW9]; exact Sev.new (by simp) (Below.refl _ _)
  have HVZ := hide hv9
  have HVN := hide hv9'
  have hz9 := hs7.on homR_fine hE9
  have hb69 := th hb7 hE9
  have hb59 := th hb6 hb69
  have hb39 := th hb35 hb59
  have hb09 := th hb03 hb39
  clear hv9 hv9' p0 p1 p2 p3 p4
  go_upto_region 8 with fail
  rw [← hW9]
  clear hW9
  obtain ⟨_, p0, p1, p2, p3, p4⟩ := HGB.out.on hb09
  go_wp2_with fail
  with_reducible refine (HGE.out _).mono ?_
  rintro e w10 ⟨rfl, hb10⟩
  have hb910 := hb10
  have hb010 := th hb09 hb10
  clear p0 p1 p2 p3 p4
  go_wp2_with fail
  with_reducible refine (HLB.out _).mono ?_
  rintro e w11 ⟨rfl, hb11⟩
  have hb911 := th hb910 hb11
  have hb011 := th hb010 hb11
  have HS : Hid (∀ W, Below w11.heap.size w11 W → W.cell? ⟨w4.heap.size, 0, none⟩ = some (.int .i64 1) ∧ W.cell? ⟨w4.heap.size, 1, none⟩ = some (.int .i64 0) ∧ W.cell? ⟨w4.heap.size, 2, none⟩ = some (.int .i64 0) ∧ W.cell? ⟨w4.heap.size, 3, none⟩ = some (.int .i64 1) ∧ W.cell? ⟨w4.heap.size, 4, none⟩ = some (.int .i64 0) ∧ W.cell? ⟨w4.heap.size, 5, none⟩ = some (.string name) ∧ W.cell? ⟨w4.heap.size, 6, none⟩ = some (.slice V4 Z c4) ∧ W.cell? ⟨w.heap.size, 0, none⟩ = some (.int .i64 g.zones) ∧ W.cell? ⟨w.heap.size, 1, none⟩ = some (.int .i64 g.data) ∧ W.cell? ⟨w.heap.size, 2, none⟩ = some (.int .i64 g.spares) ∧ W.cell? ⟨w.heap.size, 3, none⟩ = some (.int .i64 g.slots) ∧ W.cell? ⟨w.heap.size, 4, none⟩ = some (.int .i64 g.anchors) ∧ W.cell? ⟨w7.heap.size + 1, 0, none⟩ = some (.int .i64 0) ∧ W.cell? ⟨w7.heap.size + 1, 1, none⟩ = some (.int .i64 0) ∧ W.cell? ⟨w7.heap.size + 1, 2, none⟩ = some (.int .i64 0) ∧ W.cell? ⟨w7.heap.size + 1, 3, none⟩ = some (.int .i64 0) ∧ W.cell? ⟨w7.heap.size + 1, 4, none⟩ = some (.int .i64 0) ∧ W.cell? ⟨w7.heap.size + 1, 5, none⟩ = some (.string ⟨#[]⟩) ∧ W.cell? ⟨w7.heap.size + 1, 6, none⟩ = some (.slice none 0 0)) := hide fun W hW => by
    obtain ⟨x0, x1, x2, x3, x4, x5, x6⟩ := HVX.out.on hN5 (th hb59 (th hb911 hW))
    obtain ⟨_, p0, p1, p2, p3, p4⟩ := HGB.out.on (th hb011 hW)
    obtain ⟨n0, n1, n2, n3, n4, n5, n6⟩ := HVN.out.on hN9' (th hb911 hW)
    exact ⟨x0, x1, x2, x3, x4, x5, x6, p0, p1, p2, p3, p4, n0, n1, n2, n3, n4, n5, n6⟩
  have hx11 := hx5.on homR_fine (th hb59 hb911)
  have hcur := Below.refl w11.heap.size w11
  go_upto_region 11 with fail
  go_cut [116] (fun v wx => v = .bool false ∧ Below w11.heap.size w11 wx)
  case first =>
    refine wp_region_held_drew (S := (fun W => W.cell? ⟨w4.heap.size, 0, none⟩ = some (.int .i64 1) ∧ W.cell? ⟨w4.heap.size, 1, none⟩ = some (.int .i64 0) ∧ W.cell? ⟨w4.heap.size, 2, none⟩ = some (.int .i64 0) ∧ W.cell? ⟨w4.heap.size, 3, none⟩ = some (.int .i64 1) ∧ W.cell? ⟨w4.heap.size, 4, none⟩ = some (.int .i64 0) ∧ W.cell? ⟨w4.heap.size, 5, none⟩ = some (.string name) ∧ W.cell? ⟨w4.heap.size, 6, none⟩ = some (.slice V4 Z c4) ∧ W.cell? ⟨w.heap.size, 0, none⟩ = some (.int .i64 g.zones) ∧ W.cell? ⟨w.heap.size, 1, none⟩ = some (.int .i64 g.data) ∧ W.cell? ⟨w.heap.size, 2, none⟩ = some (.int .i64 g.spares) ∧ W.cell? ⟨w.heap.size, 3, none⟩ = some (.int .i64 g.slots) ∧ W.cell? ⟨w.heap.size, 4, none⟩ = some (.int .i64 g.anchors) ∧ W.cell? ⟨w7.heap.size + 1, 0, none⟩ = some (.int .i64 0) ∧ W.cell? ⟨w7.heap.size + 1, 1, none⟩ = some (.int .i64 0) ∧ W.cell? ⟨w7.heap.size + 1, 2, none⟩ = some (.int .i64 0) ∧ W.cell? ⟨w7.heap.size + 1, 3, none⟩ = some (.int .i64 0) ∧ W.cell? ⟨w7.heap.size + 1, 4, none⟩ = some (.int .i64 0) ∧ W.cell? ⟨w7.heap.size + 1, 5, none⟩ = some (.string ⟨#[]⟩) ∧ W.cell? ⟨w7.heap.size + 1, 6, none⟩ = some (.slice none 0 0))) (by kernel_rfl) (by (try dsimp only); first | with_reducible exact HS.out _ hcur | with_reducible exact HS.out _ hcur.drew) (fun hHeld => ?_)
    refine wpAnyH_take (i := 0) (v := ?_) rfl (by kernel_rfl) (by kernel_rfl) (by kernel_rfl) (fun _ _ _ h => h) (Or.inl ⟨by rfl, ?_⟩) (by assumption) ?_
    rotate_left
    · (intro w hSw; (try dsimp only at hSw); go_simp; try with_reducible rfl)
    simp only [Act.put, List.getElem_toArray, List.getElem_cons_zero, List.setIfInBounds_toArray, List.set_cons_zero, List.set_cons_succ]
    refine wpAnyH_take (i := 1) (v := ?_) rfl (by kernel_rfl) (by kernel_rfl) (by kernel_rfl) (fun _ _ _ h => h) (Or.inl ⟨by rfl, ?_⟩) (by assumption) ?_
    rotate_left
    · (intro w hSw; (try dsimp only at hSw); go_simp; try with_reducible rfl)
    simp only [Act.put, List.getElem_toArray, List.getElem_cons_succ, List.getElem_cons_zero, List.setIfInBounds_toArray, List.set_cons_zero, List.set_cons_succ]
    refine wpAnyH_take (i := 2) (v := ?_) rfl (by kernel_rfl) (by kernel_rfl) (by kernel_rfl) (fun _ _ _ h => h) (Or.inl ⟨by rfl, ?_⟩) (by assumption) ?_
    rotate_left
    · (intro w hSw; (try dsimp only at hSw); go_simp; try with_reducible rfl)
    simp only [Act.put, List.getElem_toArray, List.getElem_cons_succ, List.getElem_cons_zero, List.setIfInBounds_toArray, List.set_cons_zero, List.set_cons_succ]
    refine wpAnyH_take (i := 3) (v := ?_) rfl (by kernel_rfl) (by kernel_rfl) (by kernel_rfl) (fun _ _ _ h => h) (Or.inl ⟨by rfl, ?_⟩) (by assumption) ?_
    rotate_left
    · (intro w hSw; (try dsimp only at hSw); go_simp; try with_reducible rfl)
    simp only [Act.put, List.getElem_toArray, List.getElem_cons_succ, List.getElem_cons_zero, List.setIfInBounds_toArray, List.set_cons_zero, List.set_cons_succ]
    refine wpAnyH_take (i := 4) (v := ?_) rfl (by kernel_rfl) (by kernel_rfl) (by kernel_rfl) (fun _ _ _ h => h) (Or.inl ⟨by rfl, ?_⟩) (by assumption) ?_
    rotate_left
    · (intro w hSw; (try dsimp only at hSw); go_simp; try with_reducible rfl)
    simp only [Act.put, List.getElem_toArray, List.getElem_cons_succ, List.getElem_cons_zero, List.setIfInBounds_toArray, List.set_cons_zero, List.set_cons_succ]
    refine wpAnyH_take (i := 5) (v := ?_) rfl (by kernel_rfl) (by kernel_rfl) (by kernel_rfl) (fun _ _ _ h => h) (Or.inl ⟨by rfl, ?_⟩) (by assumption) ?_
    rotate_left
    · (intro w hSw; (try dsimp only at hSw); go_simp; try with_reducible rfl)
    simp only [Act.put, List.getElem_toArray, List.getElem_cons_succ, List.getElem_cons_zero, List.setIfInBounds_toArray, List.set_cons_zero, List.set_cons_succ]
    refine wpAnyH_take (i := 6) (v := ?_) rfl (by kernel_rfl) (by kernel_rfl) (by kernel_rfl) (fun _ _ _ h => h) (Or.inl ⟨by rfl, ?_⟩) (by assumption) ?_
    rotate_left
    · (intro w hSw; (try dsimp only at hSw); go_simp; try with_reducible rfl)
    simp only [Act.put, List.getElem_toArray, List.getElem_cons_succ, List.getElem_cons_zero, List.setIfInBounds_toArray, List.set_cons_zero, List.set_cons_succ]
    refine wpAnyH_take (i := 7) (v := ?_) rfl (by kernel_rfl) (by kernel_rfl) (by kernel_rfl) (fun _ _ _ h => h) (Or.inl ⟨by rfl, ?_⟩) (by assumption) ?_
    rotate_left
    · (intro w hSw; (try dsimp only at hSw); go_simp; try with_reducible rfl)
    simp only [Act.put, List.getElem_toArray, List.getElem_cons_succ, List.getElem_cons_zero, List.setIfInBounds_toArray, List.set_cons_zero, List.set_cons_succ]
    refine wpAnyH_take (i := 8) (v := ?_) rfl (by kernel_rfl) (by kernel_rfl) (by kernel_rfl) (fun _ _ _ h => h) (Or.inl ⟨by rfl, ?_⟩) (by assumption) ?_
    rotate_left
    · (intro w hSw; (try dsimp only at hSw); go_simp; try with_reducible rfl)
    simp only [Act.put, List.getElem_toArray, List.getElem_cons_succ, List.getElem_cons_zero, List.setIfInBounds_toArray, List.set_cons_zero, List.set_cons_succ]
    refine wpAnyH_take (i := 9) (v := ?_) rfl (by kernel_rfl) (by kernel_rfl) (by kernel_rfl) (fun _ _ _ h => h) (Or.inl ⟨by rfl, ?_⟩) (by assumption) ?_
    rotate_left
    · (intro w hSw; (try dsimp only at hSw); go_simp; try with_reducible rfl)
    simp only [Act.put, List.getElem_toArray, List.getElem_cons_succ, List.getElem_cons_zero, List.setIfInBounds_toArray, List.set_cons_zero, List.set_cons_succ]
    refine wpAnyH_ready (rs := [10]) (by kernel_rfl) (by simp) ?_
    refine AllReadyH.cons rfl (fun K hK => ?_) AllReadyH.nil
    go_simp
    ((go_at_call 31; (with_reducible refine (HRF.out _).mono ?_)); rintro e wA ⟨hzA, VA, cA, rfl, hsA⟩; have hcur := th (by first | with_reducible exact hcur | with_reducible exact hcur.drew) hzA; have hsA := hsA.old_ homR_fine)
    go_wp2_with fail
    refine hK.out _ _ ?_ (fun hHeld => ?_)
    · ((try dsimp only); first | with_reducible exact HS.out _ hcur | with_reducible exact HS.out _ hcur.drew)
    clear hK K
    refine wpAnyH_ready (rs := [11]) (by kernel_rfl) (by simp) ?_
    refine AllReadyH.cons rfl (fun K hK => ?_) AllReadyH.nil
    go_simp
    ((go_at_call 22; (with_reducible refine (HKX.out _ _ _ _ _ (hx11.on homR_fine (by first | with_reducible exact hcur | with_reducible exact hcur.drew)) (by first | exact hsA | exact Sl.drew homR_fine hsA)).mono ?_)); rintro e wB ⟨rfl, hzB⟩; have hcur := th (by first | with_reducible exact hcur | with_reducible exact hcur.drew) hzB)
    go_wp2_with fail
    refine hK.out _ _ ?_ (fun hHeld => ?_)
    · ((try dsimp only); first | with_reducible exact HS.out _ hcur | with_reducible exact HS.out _ hcur.drew)
    clear hK K
    refine wpAnyH_take (i := 12) (v := ?_) rfl (by kernel_rfl) (by kernel_rfl) (by kernel_rfl) (fun _ _ _ h => h) (Or.inl ⟨by rfl, ?_⟩) (by assumption) ?_
    rotate_left
    · (intro w hSw; (try dsimp only at hSw); go_simp; try with_reducible rfl)
    simp only [Act.put, List.getElem_toArray, List.getElem_cons_succ, List.getElem_cons_zero, List.setIfInBounds_toArray, List.set_cons_zero, List.set_cons_succ]
    refine wpAnyH_take (i := 13) (v := ?_) rfl (by kernel_rfl) (by kernel_rfl) (by kernel_rfl) (fun _ _ _ h => h) (Or.inl ⟨by rfl, ?_⟩) (by assumption) ?_
    rotate_left
    · (intro w hSw; (try dsimp only at hSw); go_simp; try with_reducible rfl)
    simp only [Act.put, List.getElem_toArray, List.getElem_cons_succ, List.getElem_cons_zero, List.setIfInBounds_toArray, List.set_cons_zero, List.set_cons_succ]
    refine wpAnyH_take (i := 14) (v := ?_) rfl (by kernel_rfl) (by kernel_rfl) (by kernel_rfl) (fun _ _ _ h => h) (Or.inl ⟨by rfl, ?_⟩) (by assumption) ?_
    rotate_left
    · (intro w hSw; (try dsimp only at hSw); go_simp; try with_reducible rfl)
    simp only [Act.put, List.getElem_toArray, List.getElem_cons_succ, List.getElem_cons_zero, List.setIfInBounds_toArray, List.set_cons_zero, List.set_cons_succ]
    refine wpAnyH_take (i := 15) (v := ?_) rfl (by kernel_rfl) (by kernel_rfl) (by kernel_rfl) (fun _ _ _ h => h) (Or.inl ⟨by rfl, ?_⟩) (by assumption) ?_
    rotate_left
    · (intro w hSw; (try dsimp only at hSw); go_simp; try with_reducible rfl)
    simp only [Act.put, List.getElem_toArray, List.getElem_cons_succ, List.getElem_cons_zero, List.setIfInBounds_toArray, List.set_cons_zero, List.set_cons_succ]
    refine wpAnyH_take (i := 16) (v := ?_) rfl (by kernel_rfl) (by kernel_rfl) (by kernel_rfl) (fun _ _ _ h => h) (Or.inl ⟨by rfl, ?_⟩) (by assumption) ?_
    rotate_left
    · (intro w hSw; (try dsimp only at hSw); go_simp; try with_reducible rfl)
    simp only [Act.put, List.getElem_toArray, List.getElem_cons_succ, List.getElem_cons_zero, List.setIfInBounds_toArray, List.set_cons_zero, List.set_cons_succ]
    refine wpAnyH_take (i := 17) (v := ?_) rfl (by kernel_rfl) (by kernel_rfl) (by kernel_rfl) (fun _ _ _ h => h) (Or.inl ⟨by rfl, ?_⟩) (by assumption) ?_
    rotate_left
    · (intro w hSw; (try dsimp only at hSw); go_simp; try with_reducible rfl)
    simp only [Act.put, List.getElem_toArray, List.getElem_cons_succ, List.getElem_cons_zero, List.setIfInBounds_toArray, List.set_cons_zero, List.set_cons_succ]
    refine wpAnyH_take (i := 18) (v := ?_) rfl (by kernel_rfl) (by kernel_rfl) (by kernel_rfl) (fun _ _ _ h => h) (Or.inl ⟨by rfl, ?_⟩) (by assumption) ?_
    rotate_left
    · (intro w hSw; (try dsimp only at hSw); go_simp; try with_reducible rfl)
    simp only [Act.put, List.getElem_toArray, List.getElem_cons_succ, List.getElem_cons_zero, List.setIfInBounds_toArray, List.set_cons_zero, List.set_cons_succ]
    refine wpAnyH_take (i := 19) (v := undef) rfl (by kernel_rfl) (by kernel_rfl) (by kernel_rfl) (fun _ _ _ h => h) (Or.inr ⟨by rfl, rfl⟩) (by assumption) ?_
    simp only [Act.put, List.getElem_toArray, List.getElem_cons_succ, List.getElem_cons_zero, List.setIfInBounds_toArray, List.set_cons_zero, List.set_cons_succ]
    refine wpAnyH_take (i := 20) (v := undef) rfl (by kernel_rfl) (by kernel_rfl) (by kernel_rfl) (fun _ _ _ h => h) (Or.inr ⟨by rfl, rfl⟩) (by assumption) ?_
    simp only [Act.put, List.getElem_toArray, List.getElem_cons_succ, List.getElem_cons_zero, List.setIfInBounds_toArray, List.set_cons_zero, List.set_cons_succ]
    refine wpAnyH_take (i := 21) (v := undef) rfl (by kernel_rfl) (by kernel_rfl) (by kernel_rfl) (fun _ _ _ h => h) (Or.inr ⟨by rfl, rfl⟩) (by assumption) ?_
    simp only [Act.put, List.getElem_toArray, List.getElem_cons_succ, List.getElem_cons_zero, List.setIfInBounds_toArray, List.set_cons_zero, List.set_cons_succ]
    refine wpAnyH_take (i := 22) (v := undef) rfl (by kernel_rfl) (by kernel_rfl) (by kernel_rfl) (fun _ _ _ h => h) (Or.inr ⟨by rfl, rfl⟩) (by assumption) ?_
    simp only [Act.put, List.getElem_toArray, List.getElem_cons_succ, List.getElem_cons_zero, List.setIfInBounds_toArray, List.set_cons_zero, List.set_cons_succ]
    refine wpAnyH_take (i := 23) (v := ?_) rfl (by kernel_rfl) (by kernel_rfl) (by kernel_rfl) (fun _ _ _ h => h) (Or.inl ⟨by rfl, ?_⟩) (by assumption) ?_
    rotate_left
    · (intro w hSw; (try dsimp only at hSw); go_simp; try with_reducible rfl)
    simp only [Act.put, List.getElem_toArray, List.getElem_cons_succ, List.getElem_cons_zero, List.setIfInBounds_toArray, List.set_cons_zero, List.set_cons_succ]
    refine wpAnyH_take (i := 24) (v := ?_) rfl (by kernel_rfl) (by kernel_rfl) (by kernel_rfl) (fun _ _ _ h => h) (Or.inl ⟨by rfl, ?_⟩) (by assumption) ?_
    rotate_left
    · (intro w hSw; (try dsimp only at hSw); go_simp; try with_reducible rfl)
    simp only [Act.put, List.getElem_toArray, List.getElem_cons_succ, List.getElem_cons_zero, List.setIfInBounds_toArray, List.set_cons_zero, List.set_cons_succ]
    refine wpAnyH_done (by kernel_rfl) ?_ _
    go_wp2_with fail
    go_meet
    exact ⟨rfl, by first | exact hcur | exact hcur.drew⟩
  case rest =>
    obtain ⟨rfl, hb12⟩ := hcut
    have hb912 := th hb911 hb12
    have hb012 := th hb011 hb12
    obtain ⟨_, p0, p1, p2, p3, p4⟩ := HGB.out.on hb012
    go_wp2_with fail
    with_reducible refine (HRR.out _ (hr0.on byteR_fine hb012)).mono ?_
    rintro e w13 ⟨hb13, V13, m13, c13, rfl, hs13⟩
    obtain ⟨W14, hW14⟩ : ∃ W14, W14 = w13.alloc (.cells #[.int .i64 x.gen, .int .i64 x.epoch, .int .i64 x.pos, .int .i64 x.seq, .int .i64 x.last, .string x.label, .slice V13 m13 c13] 26) := ⟨_, rfl⟩
    have hE14 : Below w13.heap.size w13 W14 := by rw [hW14]; exact alloc_below _ _
    have hv14 : Sev W14 w13.heap.size (.int .i64 x.gen) (.int .i64 x.epoch) (.int .i64 x.pos) (.int .i64 x.seq) (.int .i64 x.last) (.string x.label) (.slice V13 m13 c13) := by rw [hW14]; exact Sev.new rfl (Below.refl _ _)
    have HVW := hide hv14
    have hw14 := hs13.on homR_fine hE14
    have hb914 := th hb912 (th hb13 hE14)
    have hb014 := th hb012 (th hb13 hE14)
    clear hv14 p0 p1 p2 p3 p4
    go_upto_region 14 with fail
    rw [← hW14]
    clear hW14
    obtain ⟨z0, z1, z2, z3, z4, z5, z6⟩ := HVZ.out.on hN9 hb914
    obtain ⟨r0, r1, r2, r3, r4, r5, r6⟩ := HVW.out
    go_wp2_with fail
    with_reducible refine (HKR.out _ _ _ _ _ _ _ (hz9.on homR_fine hb914) hw14).mono ?_
    rintro e w15 ⟨rfl, hb15⟩
    have hb915 := th hb914 hb15
    have hb015 := th hb014 hb15
    clear z0 z1 z2 z3 z4 z5 z6
    clear r0 r1 r2 r3 r4 r5 r6
    obtain ⟨_, p0, p1, p2, p3, p4⟩ := HGB.out.on hb015
    obtain ⟨q0, q1, q2, q3, q4, q5, q6⟩ := HSV.out.onB hN1 hb015
    go_wp2_with fail
    with_reducible refine (HRA1.out _ (ha0.on homR_fine hb015)).mono ?_
    rintro e w16 ⟨rfl, hb16⟩
    have hb916 := th hb915 hb16
    have hb016 := th hb015 hb16
    clear p0 p1 p2 p3 p4
    clear q0 q1 q2 q3 q4 q5 q6
    obtain ⟨_, p0, p1, p2, p3, p4⟩ := HGB.out.on hb016
    obtain ⟨i0, i1, i2, i3, i4, i5, i6⟩ := HVI.out.on hN3 (th hb39 hb916)
    go_wp2_with fail
    with_reducible refine (HCK.out _ _ _ (hT.below (th hb0 hb016)) (hi3.on homR_fine (th hb39 hb916))).mono ?_
    rintro e w17 ⟨rfl, hb17⟩
    have hb917 := th hb916 hb17
    have hb017 := th hb016 hb17
    clear p0 p1 p2 p3 p4
    clear i0 i1 i2 i3 i4 i5 i6
    have hb919 := hb917
    have hb019 := hb017
    obtain ⟨i0, i1, i2, i3, i4, i5, i6⟩ := HVI.out.on hN3 (th hb39 hb919)
    obtain ⟨q0, q1, q2, q3, q4, q5, q6⟩ := HSV.out.onB hN1 hb019
    go_wp2_with fail
    with_reducible refine (HKI.out _ _ _ (hi3.on homR_fine (th hb39 hb919)) (ha0.on homR_fine hb019)).mono ?_
    rintro e w20 ⟨rfl, hb20⟩
    have hb020 := th hb019 hb20
    clear i0 i1 i2 i3 i4 i5 i6
    clear q0 q1 q2 q3 q4 q5 q6
    go_wp2_with fail
    with_reducible refine (wakes08 _ (hT.below (th hb0 hb020))).mono ?_
    rintro e w30 ⟨rfl, hb30⟩
    go_wp2_with fail
    go_ret
    exact ⟨rfl, th hb0 (th hb020 hb30)⟩

set_option maxHeartbeats 16000000 in
theorem ae_101 {w : World} (hT : Tabs w) (g : Geo) (a : Anc) (A B : Option Addr) (n c nb cb : Nat) (name : ByteArray) (b : List UInt8) (ha : Sl homR 3 w (Old w) A n c a.homes) (hin : a.In) (hb : Bs w B nb cb b) (HH : heavyA a = false) (t1 : ¬ 200 < name.size) (t2 : ¬ 300 < nb) (hg : GeoOk g) (hE : labE (sL name) = 0) (hxn : ∀ x, ancOf g.zones.toNat g.data.toNat b = some x → ¬ AncOk g x) (hok : AncOk g a) :
    Calls Tryd.prog 6 #[g.v, a.v (.slice A n c), .string name, .slice B nb cb] w fun e w' => e = .returned (.bool true) ∧ Below w.heap.size w w' := by
  have HHV := hide fun w h => heavya_any a A n c w h
  have HGE := hide fun w => rgeo_any g w
  have HRA := hide fun hG hl w h => ranchor_any g hG a A n c w h hin hl
  have HTW := hide fun hn hp w h => katwin_any a A n c w h hn hp
  have HLEN := hide ha.len
  have HBLEN := hide hb.len
  have HIN := hide hin
  rw [HH] at HHV
  have HL := hide (heavyA_light HH)
  rw [decide_eq_true hg] at HGE
  rw [decide_eq_true hok] at HRA
  have HRA1 := hide fun w h => HRA.out hg HL.out w h
  unfold ATwinPost at HTW
  obtain ⟨W0, hW0⟩ : ∃ W0, W0 = (w.alloc (.cells #[.int .i64 g.zones, .int .i64 g.data, .int .i64 g.spares, .int .i64 g.slots, .int .i64 g.anchors] 23)).alloc (.cells #[.int .i64 a.gen, .int .i64 a.epoch, .int .i64 a.pos, .int .i64 a.seq, .int .i64 a.last, .string a.label, .slice A n c] 26) := ⟨_, rfl⟩
  have hb0 : Below w.heap.size w W0 := by rw [hW0]; exact (alloc_below w _).alloc (by simp) _
  have ha0 := ha.on homR_fine hb0
  have hr0 := hb.on byteR_fine hb0
  have hgb : GeoAt W0 w.heap.size g := by rw [hW0]; exact (GeoAt.new w g 23).on (alloc_below _ _)
  have hsv : Sev W0 (w.heap.size + 1) (.int .i64 a.gen) (.int .i64 a.epoch) (.int .i64 a.pos) (.int .i64 a.seq) (.int .i64 a.last) (.string a.label) (.slice A n c) := by rw [hW0]; exact Sev.new (by simp) (Below.refl _ _)
  have hN1 : w.heap.size + 1 < W0.heap.size := by rw [hW0]; simp
  have HSV := hide hsv
  have HGB := hide hgb
  have hpq := hgb.2
  rw [hW0] at hpq hsv
  obtain ⟨p0, p1, p2, p3, p4⟩ := hpq
  obtain ⟨q0, q1, q2, q3, q4, q5, q6⟩ := hsv
  clear hgb ha hb
  clear hin HH
  have HNN := hide fun (V : Option Addr) (m q : Nat) (w : World) (h : Sl homR 3 w (Old w) V m q []) => keepa_same (x := noAnc) (A := V) (B := none) (n := m) (c := q) (m := 0) (d := 0) (w := w) h (Sl.nil_ _) (by show 0 ≤ 6000; omega) (fun y hy => by cases hy)
  unfold Geo.v Anc.v at *
  unfold noAnc at HNN
  dsimp only at HNN
  have t1' : ¬ (200 : Int) < (name.size : Int) := by omega
  have t2' : ¬ (300 : Int) < (nb : Int) := by omega
  have hn6 : n ≤ 6000 := by have := HL.out.2.1; have := HLEN.out; omega
  have HTW1 := hide fun w h => HTW.out hn6 HL.out.2.2 w h
  have HNS : Hid (name.size ≤ 60000) := hide (by omega)
  have HKI := hide fun (V : Option Addr) (q : Nat) (w : World) (h : Sl homR 3 w (Old w) V n q a.homes) (h2 : Sl homR 3 w (Old w) A n c a.homes) => keepa_same (x := a) h h2 HL.out.2.1 HL.out.2.2
  unfold Anc.v at HKI
  have HLB0 := hide fun w => rlabel_any name (by have := HNS.out; omega) w
  obtain ⟨Z, hZ⟩ : ∃ Z : Nat, g.zones = (Z : Int) := ⟨g.zones.toNat, by have := hg.1; omega⟩
  obtain ⟨D, hD⟩ : ∃ D : Nat, g.data = (D : Int) := ⟨g.data.toNat, by have := hg.2.1; omega⟩
  have hZ4 : Z ≤ 4 := by have := hg.1; omega
  have hD4 : D ≤ 4 := by have := hg.2.1; omega
  have HFI := hide fun w hT => afirst_yes (g := g) (name := name) hg hZ hD HNS.out hE w hT
  have HRF := hide fun w => rafirst_any (g := g) hZ hD hZ4 hD4 name w
  have HKX := hide fun (V U : Option Addr) (q u : Nat) (w : World) (h : Sl homR 3 w (Old w) V Z q (List.replicate Z (newHom D))) (h2 : Sl homR 3 w (Old w) U Z u (List.replicate Z (newHom D))) => keepa_same (x := newAnc Z D name) h h2 (by show (List.replicate Z (newHom D)).length ≤ 6000; rw [List.length_replicate]; omega) (fun y hy => by obtain rfl := (List.mem_replicate.1 hy).2; show (upTo (D + 1)).length ≤ 6000; rw [upTo_len]; omega)
  have HLB := hide fun w => HLB0.out w
  rw [hE] at HLB
  unfold Geo.v at HFI HRF
  unfold newAnc Anc.v at HFI HRF HKX
  try dsimp only at HFI HRF HKX
  have HRD := hide fun (w : World) (hT : Tabs w) (h : Bs w B nb cb b) => aread_none (g := g) hg hxn hT h (by omega)
  have HRR := hide fun (w : World) (h : Bs w B nb cb b) => ranch_none (g := g) hg hxn h (by omega)
  have HKR := hide fun (V U : Option Addr) (p q r u : Nat) (w : World) (h : Sl homR 3 w (Old w) V p q []) (h2 : Sl homR 3 w (Old w) U r u []) => keepa_same (x := noAnc) (A := V) (B := U) h h2 (by show 0 ≤ 6000; omega) (fun y hy => by cases hy)
  unfold Geo.v at HRD HRR
  unfold noAnc Anc.v at HRD HRR HKR
  try dsimp only at HRD HRR HKR
  clear hxn
  have HBY := hide fun (V : Option Addr) (q : Nat) (w : World) (hT : Tabs w) (h : Sl homR 3 w (Old w) V n q a.homes) => abytes_yes (g := g) (a := a) hg hok hT h HIN.out HL.out
  have HCK := hide fun (V : Option Addr) (q : Nat) (w : World) (hT : Tabs w) (h : Sl homR 3 w (Old w) V n q a.homes) => acheck_yes (g := g) (a := a) hg hok hT h HIN.out HL.out
  have HRB := hide fun w h => rabytes_yes hg hok (A := A) (n := n) (c := c) (w := w) h
  have hrm := (anc_room hg hok).2
  obtain ⟨LA, hLA⟩ : ∃ LA, LA = (ancL a).length := ⟨_, rfl⟩
  rw [← hLA] at HBY HRB hrm
  have HBB := hide fun (V U : Option Addr) (q u : Nat) (w : World) (h : Bs w V LA q (ancL a)) (h2 : Bs w U LA u (ancL a)) => (bytes_any V U LA q LA u (ancL a) (ancL a) w h h2 (by omega)).mono (fun e w' (hh : e = .returned (.bool (decide (ancL a = ancL a))) ∧ ∃ q, w' = w.drewN q) => (⟨by rw [hh.1, decide_eq_true rfl], by obtain ⟨_, q, rfl⟩ := hh; exact drewN_below _ q⟩ : e = .returned (.bool true) ∧ Below w.heap.size w w'))
  unfold Geo.v at HBY HCK
  unfold Anc.v at HBY HCK HRB
  clear hLA hok
  clear hZ hD hg
  go_enter Tryd.func6, Tryd.ntmps6
  go_wp2_with fail
  rw [← hW0]
  clear hW0
  clear p0 p1 p2 p3 p4
  clear q0 q1 q2 q3 q4 q5 q6
  with_reducible refine (HHV.out _ ha0).mono ?_
  rintro e w1 ⟨rfl, hb1⟩
  obtain ⟨q0, q1, q2, q3, q4, q5, q6⟩ := HSV.out.onB hN1 hb1
  go_wp2_with fail
  with_reducible refine (HTW1.out _ (ha0.on homR_fine hb1)).mono ?_
  rintro e w2 ⟨hb2, VI, ci, rfl, how2⟩
  obtain ⟨W3, hW3⟩ : ∃ W3, W3 = w2.alloc (.cells #[.int .i64 a.gen, .int .i64 a.epoch, .int .i64 a.pos, .int .i64 a.seq, .int .i64 a.last, .string a.label, .slice VI n ci] 26) := ⟨_, rfl⟩
  have hE3 : Below w2.heap.size w2 W3 := by rw [hW3]; exact alloc_below _ _
  have hN3 : w2.heap.size < W3.heap.size := by rw [hW3]; simp
  have hv3 : Sev W3 w2.heap.size (.int .i64 a.gen) (.int .i64 a.epoch) (.int .i64 a.pos) (.int .i64 a.seq) (.int .i64 a.last) (.string a.label) (.slice VI n ci) := by rw [hW3]; exact Sev.new rfl (Below.refl _ _)
  have HVI := hide hv3
  have hi3 := (how2.read.old_ homR_fine).on homR_fine hE3
  have hb03 := th hb1 (th hb2 hE3)
  clear hv3 q0 q1 q2 q3 q4 q5 q6
  go_upto_region 4 with fail
  rw [← hW3]
  clear hW3
  obtain ⟨_, p0, p1, p2, p3, p4⟩ := HGB.out.on hb03
  go_wp2_with fail
  with_reducible refine (HFI.out _ (hT.below (th hb0 hb03))).mono ?_
  rintro e w4 ⟨hb4, V4, c4, rfl, hs4⟩
  have hs4 := hs4.old_ homR_fine
  obtain ⟨W5, hW5⟩ : ∃ W5, W5 = w4.alloc (.cells #[.int .i64 1, .int .i64 0, .int .i64 0, .int .i64 1, .int .i64 0, .string name, .slice V4 Z c4] 26) := ⟨_, rfl⟩
  have hE5 : Below w4.heap.size w4 W5 := by rw [hW5]; exact alloc_below _ _
  have hN5 : w4.heap.size < W5.heap.size := by rw [hW5]; simp
  have hv5 : Sev W5 w4.heap.size (.int .i64 1) (.int .i64 0) (.int .i64 0) (.int .i64 1) (.int .i64 0) (.string name) (.slice V4 Z c4) := by rw [hW5]; exact Sev.new rfl (Below.refl _ _)
  have HVX := hide hv5
  have hx5 := hs4.on homR_fine hE5
  have hb35 := th hb4 hE5
  have hb05 := th hb03 hb35
  clear hv5 p0 p1 p2 p3 p4
  go_upto_region 5 with fail
  rw [← hW5]
  clear hW5
  obtain ⟨_, p0, p1, p2, p3, p4⟩ := HGB.out.on hb05
  obtain ⟨i0, i1, i2, i3, i4, i5, i6⟩ := HVI.out.on hN3 hb35
  go_wp2_with fail
  with_reducible refine (HBY.out _ _ _ (hT.below (th hb0 hb05)) (hi3.on homR_fine hb35)).mono ?_
  rintro e w6 ⟨hb6, V6, c6, rfl, ho6⟩
  have hy6 := ho6.read byteR_fine
  have hb56 := hb6
  have hb06 := th hb05 hb6
  clear p0 p1 p2 p3 p4
  clear i0 i1 i2 i3 i4 i5 i6
  obtain ⟨_, p0, p1, p2, p3, p4⟩ := HGB.out.on hb06
  go_wp2_with fail
  with_reducible refine (HRD.out _ (hT.below (th hb0 hb06)) (hr0.on byteR_fine hb06)).mono ?_
  rintro e w7 ⟨hb7, V7, m7, c7, rfl, hs7⟩
  obtain ⟨W9, hW9⟩ : ∃ W9, W9 = (w7.alloc (.cells #[.int .i64 0, .int .i64 0, .int .i64 0, .int .i64 0, .int .i64 0, .string ⟨#[]⟩, .slice V7 m7 c7] 26)).alloc (.cells #[.int .i64 0, .int .i64 0, .int .i64 0, .int .i64 0, .int .i64 0, .string ⟨#[]⟩, .slice none 0 0] 26) := ⟨_, rfl⟩
  have hE9 : Below w7.heap.size w7 W9 := by rw [hW9]; exact (alloc_below _ _).alloc (by simp) _
  have hN9 : w7.heap.size < W9.heap.size := by rw [hW9]; simp; omega
  have hN9' : w7.heap.size + 1 < W9.heap.size := by rw [hW9]; simp
  have hv9 : Sev W9 w7.heap.size (.int .i64 0) (.int .i64 0) (.int .i64 0) (.int .i64 0) (.int .i64 0) (.string ⟨#[]⟩) (.slice V7 m7 c7) := by rw [hW9]; exact (Sev.new rfl (Below.refl _ _)).on (by simp) (alloc_below _ _)
  have hv9' : Sev W9 (w7.heap.size + 1) (.int .i64 0) (.int .i64 0) (.int .i64 0) (.int .i64 0) (.int .i64 0) (.string ⟨#[]⟩) (.slice none 0 0) := by rw [hW9]; exact Sev.new (by simp) (Below.refl _ _)
  have HVZ := hide hv9
  have HVN := hide hv9'
  have hz9 := hs7.on homR_fine hE9
  have hb69 := th hb7 hE9
  have hb59 := th hb6 hb69
  have hb39 := th hb35 hb59
  have hb09 := th hb03 hb39
  clear hv9 hv9' p0 p1 p2 p3 p4
  go_upto_region 8 with fail
  rw [← hW9]
  clear hW9
  obtain ⟨_, p0, p1, p2, p3, p4⟩ := HGB.out.on hb09
  go_wp2_with fail
  with_reducible refine (HGE.out _).mono ?_
  rintro e w10 ⟨rfl, hb10⟩
  have hb910 := hb10
  have hb010 := th hb09 hb10
  clear p0 p1 p2 p3 p4
  go_wp2_with fail
  with_reducible refine (HLB.out _).mono ?_
  rintro e w11 ⟨rfl, hb11⟩
  have hb911 := th hb910 hb11
  have hb011 := th hb010 hb11
  have HS : Hid (∀ W, Below w11.heap.size w11 W → W.cell? ⟨w4.heap.size, 0, none⟩ = some (.int .i64 1) ∧ W.cell? ⟨w4.heap.size, 1, none⟩ = some (.int .i64 0) ∧ W.cell? ⟨w4.heap.size, 2, none⟩ = some (.int .i64 0) ∧ W.cell? ⟨w4.heap.size, 3, none⟩ = some (.int .i64 1) ∧ W.cell? ⟨w4.heap.size, 4, none⟩ = some (.int .i64 0) ∧ W.cell? ⟨w4.heap.size, 5, none⟩ = some (.string name) ∧ W.cell? ⟨w4.heap.size, 6, none⟩ = some (.slice V4 Z c4) ∧ W.cell? ⟨w.heap.size, 0, none⟩ = some (.int .i64 g.zones) ∧ W.cell? ⟨w.heap.size, 1, none⟩ = some (.int .i64 g.data) ∧ W.cell? ⟨w.heap.size, 2, none⟩ = some (.int .i64 g.spares) ∧ W.cell? ⟨w.heap.size, 3, none⟩ = some (.int .i64 g.slots) ∧ W.cell? ⟨w.heap.size, 4, none⟩ = some (.int .i64 g.anchors) ∧ W.cell? ⟨w7.heap.size + 1, 0, none⟩ = some (.int .i64 0) ∧ W.cell? ⟨w7.heap.size + 1, 1, none⟩ = some (.int .i64 0) ∧ W.cell? ⟨w7.heap.size + 1, 2, none⟩ = some (.int .i64 0) ∧ W.cell? ⟨w7.heap.size + 1, 3, none⟩ = some (.int .i64 0) ∧ W.cell? ⟨w7.heap.size + 1, 4, none⟩ = some (.int .i64 0) ∧ W.cell? ⟨w7.heap.size + 1, 5, none⟩ = some (.string ⟨#[]⟩) ∧ W.cell? ⟨w7.heap.size + 1, 6, none⟩ = some (.slice none 0 0)) := hide fun W hW => by
    obtain ⟨x0, x1, x2, x3, x4, x5, x6⟩ := HVX.out.on hN5 (th hb59 (th hb911 hW))
    obtain ⟨_, p0, p1, p2, p3, p4⟩ := HGB.out.on (th hb011 hW)
    obtain ⟨n0, n1, n2, n3, n4, n5, n6⟩ := HVN.out.on hN9' (th hb911 hW)
    exact ⟨x0, x1, x2, x3, x4, x5, x6, p0, p1, p2, p3, p4, n0, n1, n2, n3, n4, n5, n6⟩
  have hx11 := hx5.on homR_fine (th hb59 hb911)
  have hcur := Below.refl w11.heap.size w11
  go_upto_region 11 with fail
  go_cut [116] (fun v wx => v = .bool false ∧ Below w11.heap.size w11 wx)
  case first =>
    refine wp_region_held_drew (S := (fun W => W.cell? ⟨w4.heap.size, 0, none⟩ = some (.int .i64 1) ∧ W.cell? ⟨w4.heap.size, 1, none⟩ = some (.int .i64 0) ∧ W.cell? ⟨w4.heap.size, 2, none⟩ = some (.int .i64 0) ∧ W.cell? ⟨w4.heap.size, 3, none⟩ = some (.int .i64 1) ∧ W.cell? ⟨w4.heap.size, 4, none⟩ = some (.int .i64 0) ∧ W.cell? ⟨w4.heap.size, 5, none⟩ = some (.string name) ∧ W.cell? ⟨w4.heap.size, 6, none⟩ = some (.slice V4 Z c4) ∧ W.cell? ⟨w.heap.size, 0, none⟩ = some (.int .i64 g.zones) ∧ W.cell? ⟨w.heap.size, 1, none⟩ = some (.int .i64 g.data) ∧ W.cell? ⟨w.heap.size, 2, none⟩ = some (.int .i64 g.spares) ∧ W.cell? ⟨w.heap.size, 3, none⟩ = some (.int .i64 g.slots) ∧ W.cell? ⟨w.heap.size, 4, none⟩ = some (.int .i64 g.anchors) ∧ W.cell? ⟨w7.heap.size + 1, 0, none⟩ = some (.int .i64 0) ∧ W.cell? ⟨w7.heap.size + 1, 1, none⟩ = some (.int .i64 0) ∧ W.cell? ⟨w7.heap.size + 1, 2, none⟩ = some (.int .i64 0) ∧ W.cell? ⟨w7.heap.size + 1, 3, none⟩ = some (.int .i64 0) ∧ W.cell? ⟨w7.heap.size + 1, 4, none⟩ = some (.int .i64 0) ∧ W.cell? ⟨w7.heap.size + 1, 5, none⟩ = some (.string ⟨#[]⟩) ∧ W.cell? ⟨w7.heap.size + 1, 6, none⟩ = some (.slice none 0 0))) (by kernel_rfl) (by (try dsimp only); first | with_reducible exact HS.out _ hcur | with_reducible exact HS.out _ hcur.drew) (fun hHeld => ?_)
    refine wpAnyH_take (i := 0) (v := ?_) rfl (by kernel_rfl) (by kernel_rfl) (by kernel_rfl) (fun _ _ _ h => h) (Or.inl ⟨by rfl, ?_⟩) (by assumption) ?_
    rotate_left
    · (intro w hSw; (try dsimp only at hSw); go_simp; try with_reducible rfl)
    simp only [Act.put, List.getElem_toArray, List.getElem_cons_zero, List.setIfInBounds_toArray, List.set_cons_zero, List.set_cons_succ]
    refine wpAnyH_take (i := 1) (v := ?_) rfl (by kernel_rfl) (by kernel_rfl) (by kernel_rfl) (fun _ _ _ h => h) (Or.inl ⟨by rfl, ?_⟩) (by assumption) ?_
    rotate_left
    · (intro w hSw; (try dsimp only at hSw); go_simp; try with_reducible rfl)
    simp only [Act.put, List.getElem_toArray, List.getElem_cons_succ, List.getElem_cons_zero, List.setIfInBounds_toArray, List.set_cons_zero, List.set_cons_succ]
    refine wpAnyH_take (i := 2) (v := ?_) rfl (by kernel_rfl) (by kernel_rfl) (by kernel_rfl) (fun _ _ _ h => h) (Or.inl ⟨by rfl, ?_⟩) (by assumption) ?_
    rotate_left
    · (intro w hSw; (try dsimp only at hSw); go_simp; try with_reducible rfl)
    simp only [Act.put, List.getElem_toArray, List.getElem_cons_succ, List.getElem_cons_zero, List.setIfInBounds_toArray, List.set_cons_zero, List.set_cons_succ]
    refine wpAnyH_take (i := 3) (v := ?_) rfl (by kernel_rfl) (by kernel_rfl) (by kernel_rfl) (fun _ _ _ h => h) (Or.inl ⟨by rfl, ?_⟩) (by assumption) ?_
    rotate_left
    · (intro w hSw; (try dsimp only at hSw); go_simp; try with_reducible rfl)
    simp only [Act.put, List.getElem_toArray, List.getElem_cons_succ, List.getElem_cons_zero, List.setIfInBounds_toArray, List.set_cons_zero, List.set_cons_succ]
    refine wpAnyH_take (i := 4) (v := ?_) rfl (by kernel_rfl) (by kernel_rfl) (by kernel_rfl) (fun _ _ _ h => h) (Or.inl ⟨by rfl, ?_⟩) (by assumption) ?_
    rotate_left
    · (intro w hSw; (try dsimp only at hSw); go_simp; try with_reducible rfl)
    simp only [Act.put, List.getElem_toArray, List.getElem_cons_succ, List.getElem_cons_zero, List.setIfInBounds_toArray, List.set_cons_zero, List.set_cons_succ]
    refine wpAnyH_take (i := 5) (v := ?_) rfl (by kernel_rfl) (by kernel_rfl) (by kernel_rfl) (fun _ _ _ h => h) (Or.inl ⟨by rfl, ?_⟩) (by assumption) ?_
    rotate_left
    · (intro w hSw; (try dsimp only at hSw); go_simp; try with_reducible rfl)
    simp only [Act.put, List.getElem_toArray, List.getElem_cons_succ, List.getElem_cons_zero, List.setIfInBounds_toArray, List.set_cons_zero, List.set_cons_succ]
    refine wpAnyH_take (i := 6) (v := ?_) rfl (by kernel_rfl) (by kernel_rfl) (by kernel_rfl) (fun _ _ _ h => h) (Or.inl ⟨by rfl, ?_⟩) (by assumption) ?_
    rotate_left
    · (intro w hSw; (try dsimp only at hSw); go_simp; try with_reducible rfl)
    simp only [Act.put, List.getElem_toArray, List.getElem_cons_succ, List.getElem_cons_zero, List.setIfInBounds_toArray, List.set_cons_zero, List.set_cons_succ]
    refine wpAnyH_take (i := 7) (v := ?_) rfl (by kernel_rfl) (by kernel_rfl) (by kernel_rfl) (fun _ _ _ h => h) (Or.inl ⟨by rfl, ?_⟩) (by assumption) ?_
    rotate_left
    · (intro w hSw; (try dsimp only at hSw); go_simp; try with_reducible rfl)
    simp only [Act.put, List.getElem_toArray, List.getElem_cons_succ, List.getElem_cons_zero, List.setIfInBounds_toArray, List.set_cons_zero, List.set_cons_succ]
    refine wpAnyH_take (i := 8) (v := ?_) rfl (by kernel_rfl) (by kernel_rfl) (by kernel_rfl) (fun _ _ _ h => h) (Or.inl ⟨by rfl, ?_⟩) (by assumption) ?_
    rotate_left
    · (intro w hSw; (try dsimp only at hSw); go_simp; try with_reducible rfl)
    simp only [Act.put, List.getElem_toArray, List.getElem_cons_succ, List.getElem_cons_zero, List.setIfInBounds_toArray, List.set_cons_zero, List.set_cons_succ]
    refine wpAnyH_take (i := 9) (v := ?_) rfl (by kernel_rfl) (by kernel_rfl) (by kernel_rfl) (fun _ _ _ h => h) (Or.inl ⟨by rfl, ?_⟩) (by assumption) ?_
    rotate_left
    · (intro w hSw; (try dsimp only at hSw); go_simp; try with_reducible rfl)
    simp only [Act.put, List.getElem_toArray, List.getElem_cons_succ, List.getElem_cons_zero, List.setIfInBounds_toArray, List.set_cons_zero, List.set_cons_succ]
    refine wpAnyH_ready (rs := [10]) (by kernel_rfl) (by simp) ?_
    refine AllReadyH.cons rfl (fun K hK => ?_) AllReadyH.nil
    go_simp
    ((go_at_call 31; (with_reducible refine (HRF.out _).mono ?_)); rintro e wA ⟨hzA, VA, cA, rfl, hsA⟩; have hcur := th (by first | with_reducible exact hcur | with_reducible exact hcur.drew) hzA; have hsA := hsA.old_ homR_fine)
    go_wp2_with fail
    refine hK.out _ _ ?_ (fun hHeld => ?_)
    · ((try dsimp only); first | with_reducible exact HS.out _ hcur | with_reducible exact HS.out _ hcur.drew)
    clear hK K
    refine wpAnyH_ready (rs := [11]) (by kernel_rfl) (by simp) ?_
    refine AllReadyH.cons rfl (fun K hK => ?_) AllReadyH.nil
    go_simp
    ((go_at_call 22; (with_reducible refine (HKX.out _ _ _ _ _ (hx11.on homR_fine (by first | with_reducible exact hcur | with_reducible exact hcur.drew)) (by first | exact hsA | exact Sl.drew homR_fine hsA)).mono ?_)); rintro e wB ⟨rfl, hzB⟩; have hcur := th (by first | with_reducible exact hcur | with_reducible exact hcur.drew) hzB)
    go_wp2_with fail
    refine hK.out _ _ ?_ (fun hHeld => ?_)
    · ((try dsimp only); first | with_reducible exact HS.out _ hcur | with_reducible exact HS.out _ hcur.drew)
    clear hK K
    refine wpAnyH_take (i := 12) (v := ?_) rfl (by kernel_rfl) (by kernel_rfl) (by kernel_rfl) (fun _ _ _ h => h) (Or.inl ⟨by rfl, ?_⟩) (by assumption) ?_
    rotate_left
    · (intro w hSw; (try dsimp only at hSw); go_simp; try with_reducible rfl)
    simp only [Act.put, List.getElem_toArray, List.getElem_cons_succ, List.getElem_cons_zero, List.setIfInBounds_toArray, List.set_cons_zero, List.set_cons_succ]
    refine wpAnyH_take (i := 13) (v := ?_) rfl (by kernel_rfl) (by kernel_rfl) (by kernel_rfl) (fun _ _ _ h => h) (Or.inl ⟨by rfl, ?_⟩) (by assumption) ?_
    rotate_left
    · (intro w hSw; (try dsimp only at hSw); go_simp; try with_reducible rfl)
    simp only [Act.put, List.getElem_toArray, List.getElem_cons_succ, List.getElem_cons_zero, List.setIfInBounds_toArray, List.set_cons_zero, List.set_cons_succ]
    refine wpAnyH_take (i := 14) (v := ?_) rfl (by kernel_rfl) (by kernel_rfl) (by kernel_rfl) (fun _ _ _ h => h) (Or.inl ⟨by rfl, ?_⟩) (by assumption) ?_
    rotate_left
    · (intro w hSw; (try dsimp only at hSw); go_simp; try with_reducible rfl)
    simp only [Act.put, List.getElem_toArray, List.getElem_cons_succ, List.getElem_cons_zero, List.setIfInBounds_toArray, List.set_cons_zero, List.set_cons_succ]
    refine wpAnyH_take (i := 15) (v := ?_) rfl (by kernel_rfl) (by kernel_rfl) (by kernel_rfl) (fun _ _ _ h => h) (Or.inl ⟨by rfl, ?_⟩) (by assumption) ?_
    rotate_left
    · (intro w hSw; (try dsimp only at hSw); go_simp; try with_reducible rfl)
    simp only [Act.put, List.getElem_toArray, List.getElem_cons_succ, List.getElem_cons_zero, List.setIfInBounds_toArray, List.set_cons_zero, List.set_cons_succ]
    refine wpAnyH_take (i := 16) (v := ?_) rfl (by kernel_rfl) (by kernel_rfl) (by kernel_rfl) (fun _ _ _ h => h) (Or.inl ⟨by rfl, ?_⟩) (by assumption) ?_
    rotate_left
    · (intro w hSw; (try dsimp only at hSw); go_simp; try with_reducible rfl)
    simp only [Act.put, List.getElem_toArray, List.getElem_cons_succ, List.getElem_cons_zero, List.setIfInBounds_toArray, List.set_cons_zero, List.set_cons_succ]
    refine wpAnyH_take (i := 17) (v := ?_) rfl (by kernel_rfl) (by kernel_rfl) (by kernel_rfl) (fun _ _ _ h => h) (Or.inl ⟨by rfl, ?_⟩) (by assumption) ?_
    rotate_left
    · (intro w hSw; (try dsimp only at hSw); go_simp; try with_reducible rfl)
    simp only [Act.put, List.getElem_toArray, List.getElem_cons_succ, List.getElem_cons_zero, List.setIfInBounds_toArray, List.set_cons_zero, List.set_cons_succ]
    refine wpAnyH_take (i := 18) (v := ?_) rfl (by kernel_rfl) (by kernel_rfl) (by kernel_rfl) (fun _ _ _ h => h) (Or.inl ⟨by rfl, ?_⟩) (by assumption) ?_
    rotate_left
    · (intro w hSw; (try dsimp only at hSw); go_simp; try with_reducible rfl)
    simp only [Act.put, List.getElem_toArray, List.getElem_cons_succ, List.getElem_cons_zero, List.setIfInBounds_toArray, List.set_cons_zero, List.set_cons_succ]
    refine wpAnyH_take (i := 19) (v := undef) rfl (by kernel_rfl) (by kernel_rfl) (by kernel_rfl) (fun _ _ _ h => h) (Or.inr ⟨by rfl, rfl⟩) (by assumption) ?_
    simp only [Act.put, List.getElem_toArray, List.getElem_cons_succ, List.getElem_cons_zero, List.setIfInBounds_toArray, List.set_cons_zero, List.set_cons_succ]
    refine wpAnyH_take (i := 20) (v := undef) rfl (by kernel_rfl) (by kernel_rfl) (by kernel_rfl) (fun _ _ _ h => h) (Or.inr ⟨by rfl, rfl⟩) (by assumption) ?_
    simp only [Act.put, List.getElem_toArray, List.getElem_cons_succ, List.getElem_cons_zero, List.setIfInBounds_toArray, List.set_cons_zero, List.set_cons_succ]
    refine wpAnyH_take (i := 21) (v := undef) rfl (by kernel_rfl) (by kernel_rfl) (by kernel_rfl) (fun _ _ _ h => h) (Or.inr ⟨by rfl, rfl⟩) (by assumption) ?_
    simp only [Act.put, List.getElem_toArray, List.getElem_cons_succ, List.getElem_cons_zero, List.setIfInBounds_toArray, List.set_cons_zero, List.set_cons_succ]
    refine wpAnyH_take (i := 22) (v := undef) rfl (by kernel_rfl) (by kernel_rfl) (by kernel_rfl) (fun _ _ _ h => h) (Or.inr ⟨by rfl, rfl⟩) (by assumption) ?_
    simp only [Act.put, List.getElem_toArray, List.getElem_cons_succ, List.getElem_cons_zero, List.setIfInBounds_toArray, List.set_cons_zero, List.set_cons_succ]
    refine wpAnyH_take (i := 23) (v := ?_) rfl (by kernel_rfl) (by kernel_rfl) (by kernel_rfl) (fun _ _ _ h => h) (Or.inl ⟨by rfl, ?_⟩) (by assumption) ?_
    rotate_left
    · (intro w hSw; (try dsimp only at hSw); go_simp; try with_reducible rfl)
    simp only [Act.put, List.getElem_toArray, List.getElem_cons_succ, List.getElem_cons_zero, List.setIfInBounds_toArray, List.set_cons_zero, List.set_cons_succ]
    refine wpAnyH_take (i := 24) (v := ?_) rfl (by kernel_rfl) (by kernel_rfl) (by kernel_rfl) (fun _ _ _ h => h) (Or.inl ⟨by rfl, ?_⟩) (by assumption) ?_
    rotate_left
    · (intro w hSw; (try dsimp only at hSw); go_simp; try with_reducible rfl)
    simp only [Act.put, List.getElem_toArray, List.getElem_cons_succ, List.getElem_cons_zero, List.setIfInBounds_toArray, List.set_cons_zero, List.set_cons_succ]
    refine wpAnyH_done (by kernel_rfl) ?_ _
    go_wp2_with fail
    go_meet
    exact ⟨rfl, by first | exact hcur | exact hcur.drew⟩
  case rest =>
    obtain ⟨rfl, hb12⟩ := hcut
    have hb912 := th hb911 hb12
    have hb012 := th hb011 hb12
    obtain ⟨_, p0, p1, p2, p3, p4⟩ := HGB.out.on hb012
    go_wp2_with fail
    with_reducible refine (HRR.out _ (hr0.on byteR_fine hb012)).mono ?_
    rintro e w13 ⟨hb13, V13, m13, c13, rfl, hs13⟩
    obtain ⟨W14, hW14⟩ : ∃ W14, W14 = w13.alloc (.cells #[.int .i64 0, .int .i64 0, .int .i64 0, .int .i64 0, .int .i64 0, .string ⟨#[]⟩, .slice V13 m13 c13] 26) := ⟨_, rfl⟩
    have hE14 : Below w13.heap.size w13 W14 := by rw [hW14]; exact alloc_below _ _
    have hv14 : Sev W14 w13.heap.size (.int .i64 0) (.int .i64 0) (.int .i64 0) (.int .i64 0) (.int .i64 0) (.string ⟨#[]⟩) (.slice V13 m13 c13) := by rw [hW14]; exact Sev.new rfl (Below.refl _ _)
    have HVW := hide hv14
    have hw14 := hs13.on homR_fine hE14
    have hb914 := th hb912 (th hb13 hE14)
    have hb014 := th hb012 (th hb13 hE14)
    clear hv14 p0 p1 p2 p3 p4
    go_upto_region 14 with fail
    rw [← hW14]
    clear hW14
    obtain ⟨z0, z1, z2, z3, z4, z5, z6⟩ := HVZ.out.on hN9 hb914
    obtain ⟨r0, r1, r2, r3, r4, r5, r6⟩ := HVW.out
    go_wp2_with fail
    with_reducible refine (HKR.out _ _ _ _ _ _ _ (hz9.on homR_fine hb914) hw14).mono ?_
    rintro e w15 ⟨rfl, hb15⟩
    have hb915 := th hb914 hb15
    have hb015 := th hb014 hb15
    clear z0 z1 z2 z3 z4 z5 z6
    clear r0 r1 r2 r3 r4 r5 r6
    obtain ⟨_, p0, p1, p2, p3, p4⟩ := HGB.out.on hb015
    obtain ⟨q0, q1, q2, q3, q4, q5, q6⟩ := HSV.out.onB hN1 hb015
    go_wp2_with fail
    with_reducible refine (HRA1.out _ (ha0.on homR_fine hb015)).mono ?_
    rintro e w16 ⟨rfl, hb16⟩
    have hb916 := th hb915 hb16
    have hb016 := th hb015 hb16
    clear p0 p1 p2 p3 p4
    clear q0 q1 q2 q3 q4 q5 q6
    obtain ⟨_, p0, p1, p2, p3, p4⟩ := HGB.out.on hb016
    obtain ⟨i0, i1, i2, i3, i4, i5, i6⟩ := HVI.out.on hN3 (th hb39 hb916)
    go_wp2_with fail
    with_reducible refine (HCK.out _ _ _ (hT.below (th hb0 hb016)) (hi3.on homR_fine (th hb39 hb916))).mono ?_
    rintro e w17 ⟨rfl, hb17⟩
    have hb917 := th hb916 hb17
    have hb017 := th hb016 hb17
    clear p0 p1 p2 p3 p4
    clear i0 i1 i2 i3 i4 i5 i6
    obtain ⟨q0, q1, q2, q3, q4, q5, q6⟩ := HSV.out.onB hN1 hb017
    go_wp2_with fail
    with_reducible refine (HRB.out _ (ha0.on homR_fine hb017)).mono ?_
    rintro e w18 ⟨hb18, V18, c18, rfl, hs18⟩
    have hb918 := th hb917 hb18
    have hb018 := th hb017 hb18
    clear q0 q1 q2 q3 q4 q5 q6
    go_wp2_with fail
    with_reducible refine (HBB.out _ _ _ _ _ (hy6.on byteR_fine (th hb69 hb918)) hs18).mono ?_
    rintro e w19 ⟨rfl, hb19⟩
    have hb919 := th hb918 hb19
    have hb019 := th hb018 hb19
    obtain ⟨i0, i1, i2, i3, i4, i5, i6⟩ := HVI.out.on hN3 (th hb39 hb919)
    obtain ⟨q0, q1, q2, q3, q4, q5, q6⟩ := HSV.out.onB hN1 hb019
    go_wp2_with fail
    with_reducible refine (HKI.out _ _ _ (hi3.on homR_fine (th hb39 hb919)) (ha0.on homR_fine hb019)).mono ?_
    rintro e w20 ⟨rfl, hb20⟩
    have hb020 := th hb019 hb20
    clear i0 i1 i2 i3 i4 i5 i6
    clear q0 q1 q2 q3 q4 q5 q6
    go_wp2_with fail
    with_reducible refine (wakes08 _ (hT.below (th hb0 hb020))).mono ?_
    rintro e w30 ⟨rfl, hb30⟩
    go_wp2_with fail
    go_ret
    exact ⟨rfl, th hb0 (th hb020 hb30)⟩

set_option maxHeartbeats 16000000 in
theorem ae_100 {w : World} (hT : Tabs w) (g : Geo) (a : Anc) (A B : Option Addr) (n c nb cb : Nat) (name : ByteArray) (b : List UInt8) (ha : Sl homR 3 w (Old w) A n c a.homes) (hin : a.In) (hb : Bs w B nb cb b) (HH : heavyA a = false) (t1 : ¬ 200 < name.size) (t2 : ¬ 300 < nb) (hg : GeoOk g) (hE : labE (sL name) = 0) (hxn : ∀ x, ancOf g.zones.toNat g.data.toNat b = some x → ¬ AncOk g x) (hok : ¬ AncOk g a) :
    Calls Tryd.prog 6 #[g.v, a.v (.slice A n c), .string name, .slice B nb cb] w fun e w' => e = .returned (.bool true) ∧ Below w.heap.size w w' := by
  have HHV := hide fun w h => heavya_any a A n c w h
  have HGE := hide fun w => rgeo_any g w
  have HRA := hide fun hG hl w h => ranchor_any g hG a A n c w h hin hl
  have HTW := hide fun hn hp w h => katwin_any a A n c w h hn hp
  have HLEN := hide ha.len
  have HBLEN := hide hb.len
  have HIN := hide hin
  rw [HH] at HHV
  have HL := hide (heavyA_light HH)
  rw [decide_eq_true hg] at HGE
  rw [decide_eq_false hok] at HRA
  have HRA1 := hide fun w h => HRA.out hg HL.out w h
  unfold ATwinPost at HTW
  obtain ⟨W0, hW0⟩ : ∃ W0, W0 = (w.alloc (.cells #[.int .i64 g.zones, .int .i64 g.data, .int .i64 g.spares, .int .i64 g.slots, .int .i64 g.anchors] 23)).alloc (.cells #[.int .i64 a.gen, .int .i64 a.epoch, .int .i64 a.pos, .int .i64 a.seq, .int .i64 a.last, .string a.label, .slice A n c] 26) := ⟨_, rfl⟩
  have hb0 : Below w.heap.size w W0 := by rw [hW0]; exact (alloc_below w _).alloc (by simp) _
  have ha0 := ha.on homR_fine hb0
  have hr0 := hb.on byteR_fine hb0
  have hgb : GeoAt W0 w.heap.size g := by rw [hW0]; exact (GeoAt.new w g 23).on (alloc_below _ _)
  have hsv : Sev W0 (w.heap.size + 1) (.int .i64 a.gen) (.int .i64 a.epoch) (.int .i64 a.pos) (.int .i64 a.seq) (.int .i64 a.last) (.string a.label) (.slice A n c) := by rw [hW0]; exact Sev.new (by simp) (Below.refl _ _)
  have hN1 : w.heap.size + 1 < W0.heap.size := by rw [hW0]; simp
  have HSV := hide hsv
  have HGB := hide hgb
  have hpq := hgb.2
  rw [hW0] at hpq hsv
  obtain ⟨p0, p1, p2, p3, p4⟩ := hpq
  obtain ⟨q0, q1, q2, q3, q4, q5, q6⟩ := hsv
  clear hgb ha hb
  clear hin HH
  have HNN := hide fun (V : Option Addr) (m q : Nat) (w : World) (h : Sl homR 3 w (Old w) V m q []) => keepa_same (x := noAnc) (A := V) (B := none) (n := m) (c := q) (m := 0) (d := 0) (w := w) h (Sl.nil_ _) (by show 0 ≤ 6000; omega) (fun y hy => by cases hy)
  unfold Geo.v Anc.v at *
  unfold noAnc at HNN
  dsimp only at HNN
  have t1' : ¬ (200 : Int) < (name.size : Int) := by omega
  have t2' : ¬ (300 : Int) < (nb : Int) := by omega
  have hn6 : n ≤ 6000 := by have := HL.out.2.1; have := HLEN.out; omega
  have HTW1 := hide fun w h => HTW.out hn6 HL.out.2.2 w h
  have HNS : Hid (name.size ≤ 60000) := hide (by omega)
  have HKI := hide fun (V : Option Addr) (q : Nat) (w : World) (h : Sl homR 3 w (Old w) V n q a.homes) (h2 : Sl homR 3 w (Old w) A n c a.homes) => keepa_same (x := a) h h2 HL.out.2.1 HL.out.2.2
  unfold Anc.v at HKI
  have HLB0 := hide fun w => rlabel_any name (by have := HNS.out; omega) w
  obtain ⟨Z, hZ⟩ : ∃ Z : Nat, g.zones = (Z : Int) := ⟨g.zones.toNat, by have := hg.1; omega⟩
  obtain ⟨D, hD⟩ : ∃ D : Nat, g.data = (D : Int) := ⟨g.data.toNat, by have := hg.2.1; omega⟩
  have hZ4 : Z ≤ 4 := by have := hg.1; omega
  have hD4 : D ≤ 4 := by have := hg.2.1; omega
  have HFI := hide fun w hT => afirst_yes (g := g) (name := name) hg hZ hD HNS.out hE w hT
  have HRF := hide fun w => rafirst_any (g := g) hZ hD hZ4 hD4 name w
  have HKX := hide fun (V U : Option Addr) (q u : Nat) (w : World) (h : Sl homR 3 w (Old w) V Z q (List.replicate Z (newHom D))) (h2 : Sl homR 3 w (Old w) U Z u (List.replicate Z (newHom D))) => keepa_same (x := newAnc Z D name) h h2 (by show (List.replicate Z (newHom D)).length ≤ 6000; rw [List.length_replicate]; omega) (fun y hy => by obtain rfl := (List.mem_replicate.1 hy).2; show (upTo (D + 1)).length ≤ 6000; rw [upTo_len]; omega)
  have HLB := hide fun w => HLB0.out w
  rw [hE] at HLB
  unfold Geo.v at HFI HRF
  unfold newAnc Anc.v at HFI HRF HKX
  try dsimp only at HFI HRF HKX
  have HRD := hide fun (w : World) (hT : Tabs w) (h : Bs w B nb cb b) => aread_none (g := g) hg hxn hT h (by omega)
  have HRR := hide fun (w : World) (h : Bs w B nb cb b) => ranch_none (g := g) hg hxn h (by omega)
  have HKR := hide fun (V U : Option Addr) (p q r u : Nat) (w : World) (h : Sl homR 3 w (Old w) V p q []) (h2 : Sl homR 3 w (Old w) U r u []) => keepa_same (x := noAnc) (A := V) (B := U) h h2 (by show 0 ≤ 6000; omega) (fun y hy => by cases hy)
  unfold Geo.v at HRD HRR
  unfold noAnc Anc.v at HRD HRR HKR
  try dsimp only at HRD HRR HKR
  clear hxn
  have HBY := hide fun (V : Option Addr) (q : Nat) (w : World) (hT : Tabs w) (h : Sl homR 3 w (Old w) V n q a.homes) => abytes_no (g := g) (a := a) (fun h => hok h.2) hT h HIN.out HL.out
  have HCK := hide fun (V : Option Addr) (q : Nat) (w : World) (hT : Tabs w) (h : Sl homR 3 w (Old w) V n q a.homes) => acheck_bad (g := g) (a := a) (fun h => hok h.2) hT h HIN.out HL.out
  unfold Geo.v at HBY HCK
  unfold Anc.v at HBY HCK
  clear hok
  clear hZ hD hg
  go_enter Tryd.func6, Tryd.ntmps6
  go_wp2_with fail
  rw [← hW0]
  clear hW0
  clear p0 p1 p2 p3 p4
  clear q0 q1 q2 q3 q4 q5 q6
  with_reducible refine (HHV.out _ ha0).mono ?_
  rintro e w1 ⟨rfl, hb1⟩
  obtain ⟨q0, q1, q2, q3, q4, q5, q6⟩ := HSV.out.onB hN1 hb1
  go_wp2_with fail
  with_reducible refine (HTW1.out _ (ha0.on homR_fine hb1)).mono ?_
  rintro e w2 ⟨hb2, VI, ci, rfl, how2⟩
  obtain ⟨W3, hW3⟩ : ∃ W3, W3 = w2.alloc (.cells #[.int .i64 a.gen, .int .i64 a.epoch, .int .i64 a.pos, .int .i64 a.seq, .int .i64 a.last, .string a.label, .slice VI n ci] 26) := ⟨_, rfl⟩
  have hE3 : Below w2.heap.size w2 W3 := by rw [hW3]; exact alloc_below _ _
  have hN3 : w2.heap.size < W3.heap.size := by rw [hW3]; simp
  have hv3 : Sev W3 w2.heap.size (.int .i64 a.gen) (.int .i64 a.epoch) (.int .i64 a.pos) (.int .i64 a.seq) (.int .i64 a.last) (.string a.label) (.slice VI n ci) := by rw [hW3]; exact Sev.new rfl (Below.refl _ _)
  have HVI := hide hv3
  have hi3 := (how2.read.old_ homR_fine).on homR_fine hE3
  have hb03 := th hb1 (th hb2 hE3)
  clear hv3 q0 q1 q2 q3 q4 q5 q6
  go_upto_region 4 with fail
  rw [← hW3]
  clear hW3
  obtain ⟨_, p0, p1, p2, p3, p4⟩ := HGB.out.on hb03
  go_wp2_with fail
  with_reducible refine (HFI.out _ (hT.below (th hb0 hb03))).mono ?_
  rintro e w4 ⟨hb4, V4, c4, rfl, hs4⟩
  have hs4 := hs4.old_ homR_fine
  obtain ⟨W5, hW5⟩ : ∃ W5, W5 = w4.alloc (.cells #[.int .i64 1, .int .i64 0, .int .i64 0, .int .i64 1, .int .i64 0, .string name, .slice V4 Z c4] 26) := ⟨_, rfl⟩
  have hE5 : Below w4.heap.size w4 W5 := by rw [hW5]; exact alloc_below _ _
  have hN5 : w4.heap.size < W5.heap.size := by rw [hW5]; simp
  have hv5 : Sev W5 w4.heap.size (.int .i64 1) (.int .i64 0) (.int .i64 0) (.int .i64 1) (.int .i64 0) (.string name) (.slice V4 Z c4) := by rw [hW5]; exact Sev.new rfl (Below.refl _ _)
  have HVX := hide hv5
  have hx5 := hs4.on homR_fine hE5
  have hb35 := th hb4 hE5
  have hb05 := th hb03 hb35
  clear hv5 p0 p1 p2 p3 p4
  go_upto_region 5 with fail
  rw [← hW5]
  clear hW5
  obtain ⟨_, p0, p1, p2, p3, p4⟩ := HGB.out.on hb05
  obtain ⟨i0, i1, i2, i3, i4, i5, i6⟩ := HVI.out.on hN3 hb35
  go_wp2_with fail
  with_reducible refine (HBY.out _ _ _ (hT.below (th hb0 hb05)) (hi3.on homR_fine hb35)).mono ?_
  rintro e w6 ⟨hb6, V6, c6, rfl⟩
  have hb56 := hb6
  have hb06 := th hb05 hb6
  clear p0 p1 p2 p3 p4
  clear i0 i1 i2 i3 i4 i5 i6
  obtain ⟨_, p0, p1, p2, p3, p4⟩ := HGB.out.on hb06
  go_wp2_with fail
  with_reducible refine (HRD.out _ (hT.below (th hb0 hb06)) (hr0.on byteR_fine hb06)).mono ?_
  rintro e w7 ⟨hb7, V7, m7, c7, rfl, hs7⟩
  obtain ⟨W9, hW9⟩ : ∃ W9, W9 = (w7.alloc (.cells #[.int .i64 0, .int .i64 0, .int .i64 0, .int .i64 0, .int .i64 0, .string ⟨#[]⟩, .slice V7 m7 c7] 26)).alloc (.cells #[.int .i64 0, .int .i64 0, .int .i64 0, .int .i64 0, .int .i64 0, .string ⟨#[]⟩, .slice none 0 0] 26) := ⟨_, rfl⟩
  have hE9 : Below w7.heap.size w7 W9 := by rw [hW9]; exact (alloc_below _ _).alloc (by simp) _
  have hN9 : w7.heap.size < W9.heap.size := by rw [hW9]; simp; omega
  have hN9' : w7.heap.size + 1 < W9.heap.size := by rw [hW9]; simp
  have hv9 : Sev W9 w7.heap.size (.int .i64 0) (.int .i64 0) (.int .i64 0) (.int .i64 0) (.int .i64 0) (.string ⟨#[]⟩) (.slice V7 m7 c7) := by rw [hW9]; exact (Sev.new rfl (Below.refl _ _)).on (by simp) (alloc_below _ _)
  have hv9' : Sev W9 (w7.heap.size + 1) (.int .i64 0) (.int .i64 0) (.int .i64 0) (.int .i64 0) (.int .i64 0) (.string ⟨#[]⟩) (.slice none 0 0) := by rw [hW9]; exact Sev.new (by simp) (Below.refl _ _)
  have HVZ := hide hv9
  have HVN := hide hv9'
  have hz9 := hs7.on homR_fine hE9
  have hb69 := th hb7 hE9
  have hb59 := th hb6 hb69
  have hb39 := th hb35 hb59
  have hb09 := th hb03 hb39
  clear hv9 hv9' p0 p1 p2 p3 p4
  go_upto_region 8 with fail
  rw [← hW9]
  clear hW9
  obtain ⟨_, p0, p1, p2, p3, p4⟩ := HGB.out.on hb09
  go_wp2_with fail
  with_reducible refine (HGE.out _).mono ?_
  rintro e w10 ⟨rfl, hb10⟩
  have hb910 := hb10
  have hb010 := th hb09 hb10
  clear p0 p1 p2 p3 p4
  go_wp2_with fail
  with_reducible refine (HLB.out _).mono ?_
  rintro e w11 ⟨rfl, hb11⟩
  have hb911 := th hb910 hb11
  have hb011 := th hb010 hb11
  have HS : Hid (∀ W, Below w11.heap.size w11 W → W.cell? ⟨w4.heap.size, 0, none⟩ = some (.int .i64 1) ∧ W.cell? ⟨w4.heap.size, 1, none⟩ = some (.int .i64 0) ∧ W.cell? ⟨w4.heap.size, 2, none⟩ = some (.int .i64 0) ∧ W.cell? ⟨w4.heap.size, 3, none⟩ = some (.int .i64 1) ∧ W.cell? ⟨w4.heap.size, 4, none⟩ = some (.int .i64 0) ∧ W.cell? ⟨w4.heap.size, 5, none⟩ = some (.string name) ∧ W.cell? ⟨w4.heap.size, 6, none⟩ = some (.slice V4 Z c4) ∧ W.cell? ⟨w.heap.size, 0, none⟩ = some (.int .i64 g.zones) ∧ W.cell? ⟨w.heap.size, 1, none⟩ = some (.int .i64 g.data) ∧ W.cell? ⟨w.heap.size, 2, none⟩ = some (.int .i64 g.spares) ∧ W.cell? ⟨w.heap.size, 3, none⟩ = some (.int .i64 g.slots) ∧ W.cell? ⟨w.heap.size, 4, none⟩ = some (.int .i64 g.anchors) ∧ W.cell? ⟨w7.heap.size + 1, 0, none⟩ = some (.int .i64 0) ∧ W.cell? ⟨w7.heap.size + 1, 1, none⟩ = some (.int .i64 0) ∧ W.cell? ⟨w7.heap.size + 1, 2, none⟩ = some (.int .i64 0) ∧ W.cell? ⟨w7.heap.size + 1, 3, none⟩ = some (.int .i64 0) ∧ W.cell? ⟨w7.heap.size + 1, 4, none⟩ = some (.int .i64 0) ∧ W.cell? ⟨w7.heap.size + 1, 5, none⟩ = some (.string ⟨#[]⟩) ∧ W.cell? ⟨w7.heap.size + 1, 6, none⟩ = some (.slice none 0 0)) := hide fun W hW => by
    obtain ⟨x0, x1, x2, x3, x4, x5, x6⟩ := HVX.out.on hN5 (th hb59 (th hb911 hW))
    obtain ⟨_, p0, p1, p2, p3, p4⟩ := HGB.out.on (th hb011 hW)
    obtain ⟨n0, n1, n2, n3, n4, n5, n6⟩ := HVN.out.on hN9' (th hb911 hW)
    exact ⟨x0, x1, x2, x3, x4, x5, x6, p0, p1, p2, p3, p4, n0, n1, n2, n3, n4, n5, n6⟩
  have hx11 := hx5.on homR_fine (th hb59 hb911)
  have hcur := Below.refl w11.heap.size w11
  go_upto_region 11 with fail
  go_cut [116] (fun v wx => v = .bool false ∧ Below w11.heap.size w11 wx)
  case first =>
    refine wp_region_held_drew (S := (fun W => W.cell? ⟨w4.heap.size, 0, none⟩ = some (.int .i64 1) ∧ W.cell? ⟨w4.heap.size, 1, none⟩ = some (.int .i64 0) ∧ W.cell? ⟨w4.heap.size, 2, none⟩ = some (.int .i64 0) ∧ W.cell? ⟨w4.heap.size, 3, none⟩ = some (.int .i64 1) ∧ W.cell? ⟨w4.heap.size, 4, none⟩ = some (.int .i64 0) ∧ W.cell? ⟨w4.heap.size, 5, none⟩ = some (.string name) ∧ W.cell? ⟨w4.heap.size, 6, none⟩ = some (.slice V4 Z c4) ∧ W.cell? ⟨w.heap.size, 0, none⟩ = some (.int .i64 g.zones) ∧ W.cell? ⟨w.heap.size, 1, none⟩ = some (.int .i64 g.data) ∧ W.cell? ⟨w.heap.size, 2, none⟩ = some (.int .i64 g.spares) ∧ W.cell? ⟨w.heap.size, 3, none⟩ = some (.int .i64 g.slots) ∧ W.cell? ⟨w.heap.size, 4, none⟩ = some (.int .i64 g.anchors) ∧ W.cell? ⟨w7.heap.size + 1, 0, none⟩ = some (.int .i64 0) ∧ W.cell? ⟨w7.heap.size + 1, 1, none⟩ = some (.int .i64 0) ∧ W.cell? ⟨w7.heap.size + 1, 2, none⟩ = some (.int .i64 0) ∧ W.cell? ⟨w7.heap.size + 1, 3, none⟩ = some (.int .i64 0) ∧ W.cell? ⟨w7.heap.size + 1, 4, none⟩ = some (.int .i64 0) ∧ W.cell? ⟨w7.heap.size + 1, 5, none⟩ = some (.string ⟨#[]⟩) ∧ W.cell? ⟨w7.heap.size + 1, 6, none⟩ = some (.slice none 0 0))) (by kernel_rfl) (by (try dsimp only); first | with_reducible exact HS.out _ hcur | with_reducible exact HS.out _ hcur.drew) (fun hHeld => ?_)
    refine wpAnyH_take (i := 0) (v := ?_) rfl (by kernel_rfl) (by kernel_rfl) (by kernel_rfl) (fun _ _ _ h => h) (Or.inl ⟨by rfl, ?_⟩) (by assumption) ?_
    rotate_left
    · (intro w hSw; (try dsimp only at hSw); go_simp; try with_reducible rfl)
    simp only [Act.put, List.getElem_toArray, List.getElem_cons_zero, List.setIfInBounds_toArray, List.set_cons_zero, List.set_cons_succ]
    refine wpAnyH_take (i := 1) (v := ?_) rfl (by kernel_rfl) (by kernel_rfl) (by kernel_rfl) (fun _ _ _ h => h) (Or.inl ⟨by rfl, ?_⟩) (by assumption) ?_
    rotate_left
    · (intro w hSw; (try dsimp only at hSw); go_simp; try with_reducible rfl)
    simp only [Act.put, List.getElem_toArray, List.getElem_cons_succ, List.getElem_cons_zero, List.setIfInBounds_toArray, List.set_cons_zero, List.set_cons_succ]
    refine wpAnyH_take (i := 2) (v := ?_) rfl (by kernel_rfl) (by kernel_rfl) (by kernel_rfl) (fun _ _ _ h => h) (Or.inl ⟨by rfl, ?_⟩) (by assumption) ?_
    rotate_left
    · (intro w hSw; (try dsimp only at hSw); go_simp; try with_reducible rfl)
    simp only [Act.put, List.getElem_toArray, List.getElem_cons_succ, List.getElem_cons_zero, List.setIfInBounds_toArray, List.set_cons_zero, List.set_cons_succ]
    refine wpAnyH_take (i := 3) (v := ?_) rfl (by kernel_rfl) (by kernel_rfl) (by kernel_rfl) (fun _ _ _ h => h) (Or.inl ⟨by rfl, ?_⟩) (by assumption) ?_
    rotate_left
    · (intro w hSw; (try dsimp only at hSw); go_simp; try with_reducible rfl)
    simp only [Act.put, List.getElem_toArray, List.getElem_cons_succ, List.getElem_cons_zero, List.setIfInBounds_toArray, List.set_cons_zero, List.set_cons_succ]
    refine wpAnyH_take (i := 4) (v := ?_) rfl (by kernel_rfl) (by kernel_rfl) (by kernel_rfl) (fun _ _ _ h => h) (Or.inl ⟨by rfl, ?_⟩) (by assumption) ?_
    rotate_left
    · (intro w hSw; (try dsimp only at hSw); go_simp; try with_reducible rfl)
    simp only [Act.put, List.getElem_toArray, List.getElem_cons_succ, List.getElem_cons_zero, List.setIfInBounds_toArray, List.set_cons_zero, List.set_cons_succ]
    refine wpAnyH_take (i := 5) (v := ?_) rfl (by kernel_rfl) (by kernel_rfl) (by kernel_rfl) (fun _ _ _ h => h) (Or.inl ⟨by rfl, ?_⟩) (by assumption) ?_
    rotate_left
    · (intro w hSw; (try dsimp only at hSw); go_simp; try with_reducible rfl)
    simp only [Act.put, List.getElem_toArray, List.getElem_cons_succ, List.getElem_cons_zero, List.setIfInBounds_toArray, List.set_cons_zero, List.set_cons_succ]
    refine wpAnyH_take (i := 6) (v := ?_) rfl (by kernel_rfl) (by kernel_rfl) (by kernel_rfl) (fun _ _ _ h => h) (Or.inl ⟨by rfl, ?_⟩) (by assumption) ?_
    rotate_left
    · (intro w hSw; (try dsimp only at hSw); go_simp; try with_reducible rfl)
    simp only [Act.put, List.getElem_toArray, List.getElem_cons_succ, List.getElem_cons_zero, List.setIfInBounds_toArray, List.set_cons_zero, List.set_cons_succ]
    refine wpAnyH_take (i := 7) (v := ?_) rfl (by kernel_rfl) (by kernel_rfl) (by kernel_rfl) (fun _ _ _ h => h) (Or.inl ⟨by rfl, ?_⟩) (by assumption) ?_
    rotate_left
    · (intro w hSw; (try dsimp only at hSw); go_simp; try with_reducible rfl)
    simp only [Act.put, List.getElem_toArray, List.getElem_cons_succ, List.getElem_cons_zero, List.setIfInBounds_toArray, List.set_cons_zero, List.set_cons_succ]
    refine wpAnyH_take (i := 8) (v := ?_) rfl (by kernel_rfl) (by kernel_rfl) (by kernel_rfl) (fun _ _ _ h => h) (Or.inl ⟨by rfl, ?_⟩) (by assumption) ?_
    rotate_left
    · (intro w hSw; (try dsimp only at hSw); go_simp; try with_reducible rfl)
    simp only [Act.put, List.getElem_toArray, List.getElem_cons_succ, List.getElem_cons_zero, List.setIfInBounds_toArray, List.set_cons_zero, List.set_cons_succ]
    refine wpAnyH_take (i := 9) (v := ?_) rfl (by kernel_rfl) (by kernel_rfl) (by kernel_rfl) (fun _ _ _ h => h) (Or.inl ⟨by rfl, ?_⟩) (by assumption) ?_
    rotate_left
    · (intro w hSw; (try dsimp only at hSw); go_simp; try with_reducible rfl)
    simp only [Act.put, List.getElem_toArray, List.getElem_cons_succ, List.getElem_cons_zero, List.setIfInBounds_toArray, List.set_cons_zero, List.set_cons_succ]
    refine wpAnyH_ready (rs := [10]) (by kernel_rfl) (by simp) ?_
    refine AllReadyH.cons rfl (fun K hK => ?_) AllReadyH.nil
    go_simp
    ((go_at_call 31; (with_reducible refine (HRF.out _).mono ?_)); rintro e wA ⟨hzA, VA, cA, rfl, hsA⟩; have hcur := th (by first | with_reducible exact hcur | with_reducible exact hcur.drew) hzA; have hsA := hsA.old_ homR_fine)
    go_wp2_with fail
    refine hK.out _ _ ?_ (fun hHeld => ?_)
    · ((try dsimp only); first | with_reducible exact HS.out _ hcur | with_reducible exact HS.out _ hcur.drew)
    clear hK K
    refine wpAnyH_ready (rs := [11]) (by kernel_rfl) (by simp) ?_
    refine AllReadyH.cons rfl (fun K hK => ?_) AllReadyH.nil
    go_simp
    ((go_at_call 22; (with_reducible refine (HKX.out _ _ _ _ _ (hx11.on homR_fine (by first | with_reducible exact hcur | with_reducible exact hcur.drew)) (by first | exact hsA | exact Sl.drew homR_fine hsA)).mono ?_)); rintro e wB ⟨rfl, hzB⟩; have hcur := th (by first | with_reducible exact hcur | with_reducible exact hcur.drew) hzB)
    go_wp2_with fail
    refine hK.out _ _ ?_ (fun hHeld => ?_)
    · ((try dsimp only); first | with_reducible exact HS.out _ hcur | with_reducible exact HS.out _ hcur.drew)
    clear hK K
    refine wpAnyH_take (i := 12) (v := ?_) rfl (by kernel_rfl) (by kernel_rfl) (by kernel_rfl) (fun _ _ _ h => h) (Or.inl ⟨by rfl, ?_⟩) (by assumption) ?_
    rotate_left
    · (intro w hSw; (try dsimp only at hSw); go_simp; try with_reducible rfl)
    simp only [Act.put, List.getElem_toArray, List.getElem_cons_succ, List.getElem_cons_zero, List.setIfInBounds_toArray, List.set_cons_zero, List.set_cons_succ]
    refine wpAnyH_take (i := 13) (v := ?_) rfl (by kernel_rfl) (by kernel_rfl) (by kernel_rfl) (fun _ _ _ h => h) (Or.inl ⟨by rfl, ?_⟩) (by assumption) ?_
    rotate_left
    · (intro w hSw; (try dsimp only at hSw); go_simp; try with_reducible rfl)
    simp only [Act.put, List.getElem_toArray, List.getElem_cons_succ, List.getElem_cons_zero, List.setIfInBounds_toArray, List.set_cons_zero, List.set_cons_succ]
    refine wpAnyH_take (i := 14) (v := ?_) rfl (by kernel_rfl) (by kernel_rfl) (by kernel_rfl) (fun _ _ _ h => h) (Or.inl ⟨by rfl, ?_⟩) (by assumption) ?_
    rotate_left
    · (intro w hSw; (try dsimp only at hSw); go_simp; try with_reducible rfl)
    simp only [Act.put, List.getElem_toArray, List.getElem_cons_succ, List.getElem_cons_zero, List.setIfInBounds_toArray, List.set_cons_zero, List.set_cons_succ]
    refine wpAnyH_take (i := 15) (v := ?_) rfl (by kernel_rfl) (by kernel_rfl) (by kernel_rfl) (fun _ _ _ h => h) (Or.inl ⟨by rfl, ?_⟩) (by assumption) ?_
    rotate_left
    · (intro w hSw; (try dsimp only at hSw); go_simp; try with_reducible rfl)
    simp only [Act.put, List.getElem_toArray, List.getElem_cons_succ, List.getElem_cons_zero, List.setIfInBounds_toArray, List.set_cons_zero, List.set_cons_succ]
    refine wpAnyH_take (i := 16) (v := ?_) rfl (by kernel_rfl) (by kernel_rfl) (by kernel_rfl) (fun _ _ _ h => h) (Or.inl ⟨by rfl, ?_⟩) (by assumption) ?_
    rotate_left
    · (intro w hSw; (try dsimp only at hSw); go_simp; try with_reducible rfl)
    simp only [Act.put, List.getElem_toArray, List.getElem_cons_succ, List.getElem_cons_zero, List.setIfInBounds_toArray, List.set_cons_zero, List.set_cons_succ]
    refine wpAnyH_take (i := 17) (v := ?_) rfl (by kernel_rfl) (by kernel_rfl) (by kernel_rfl) (fun _ _ _ h => h) (Or.inl ⟨by rfl, ?_⟩) (by assumption) ?_
    rotate_left
    · (intro w hSw; (try dsimp only at hSw); go_simp; try with_reducible rfl)
    simp only [Act.put, List.getElem_toArray, List.getElem_cons_succ, List.getElem_cons_zero, List.setIfInBounds_toArray, List.set_cons_zero, List.set_cons_succ]
    refine wpAnyH_take (i := 18) (v := ?_) rfl (by kernel_rfl) (by kernel_rfl) (by kernel_rfl) (fun _ _ _ h => h) (Or.inl ⟨by rfl, ?_⟩) (by assumption) ?_
    rotate_left
    · (intro w hSw; (try dsimp only at hSw); go_simp; try with_reducible rfl)
    simp only [Act.put, List.getElem_toArray, List.getElem_cons_succ, List.getElem_cons_zero, List.setIfInBounds_toArray, List.set_cons_zero, List.set_cons_succ]
    refine wpAnyH_take (i := 19) (v := undef) rfl (by kernel_rfl) (by kernel_rfl) (by kernel_rfl) (fun _ _ _ h => h) (Or.inr ⟨by rfl, rfl⟩) (by assumption) ?_
    simp only [Act.put, List.getElem_toArray, List.getElem_cons_succ, List.getElem_cons_zero, List.setIfInBounds_toArray, List.set_cons_zero, List.set_cons_succ]
    refine wpAnyH_take (i := 20) (v := undef) rfl (by kernel_rfl) (by kernel_rfl) (by kernel_rfl) (fun _ _ _ h => h) (Or.inr ⟨by rfl, rfl⟩) (by assumption) ?_
    simp only [Act.put, List.getElem_toArray, List.getElem_cons_succ, List.getElem_cons_zero, List.setIfInBounds_toArray, List.set_cons_zero, List.set_cons_succ]
    refine wpAnyH_take (i := 21) (v := undef) rfl (by kernel_rfl) (by kernel_rfl) (by kernel_rfl) (fun _ _ _ h => h) (Or.inr ⟨by rfl, rfl⟩) (by assumption) ?_
    simp only [Act.put, List.getElem_toArray, List.getElem_cons_succ, List.getElem_cons_zero, List.setIfInBounds_toArray, List.set_cons_zero, List.set_cons_succ]
    refine wpAnyH_take (i := 22) (v := undef) rfl (by kernel_rfl) (by kernel_rfl) (by kernel_rfl) (fun _ _ _ h => h) (Or.inr ⟨by rfl, rfl⟩) (by assumption) ?_
    simp only [Act.put, List.getElem_toArray, List.getElem_cons_succ, List.getElem_cons_zero, List.setIfInBounds_toArray, List.set_cons_zero, List.set_cons_succ]
    refine wpAnyH_take (i := 23) (v := ?_) rfl (by kernel_rfl) (by kernel_rfl) (by kernel_rfl) (fun _ _ _ h => h) (Or.inl ⟨by rfl, ?_⟩) (by assumption) ?_
    rotate_left
    · (intro w hSw; (try dsimp only at hSw); go_simp; try with_reducible rfl)
    simp only [Act.put, List.getElem_toArray, List.getElem_cons_succ, List.getElem_cons_zero, List.setIfInBounds_toArray, List.set_cons_zero, List.set_cons_succ]
    refine wpAnyH_take (i := 24) (v := ?_) rfl (by kernel_rfl) (by kernel_rfl) (by kernel_rfl) (fun _ _ _ h => h) (Or.inl ⟨by rfl, ?_⟩) (by assumption) ?_
    rotate_left
    · (intro w hSw; (try dsimp only at hSw); go_simp; try with_reducible rfl)
    simp only [Act.put, List.getElem_toArray, List.getElem_cons_succ, List.getElem_cons_zero, List.setIfInBounds_toArray, List.set_cons_zero, List.set_cons_succ]
    refine wpAnyH_done (by kernel_rfl) ?_ _
    go_wp2_with fail
    go_meet
    exact ⟨rfl, by first | exact hcur | exact hcur.drew⟩
  case rest =>
    obtain ⟨rfl, hb12⟩ := hcut
    have hb912 := th hb911 hb12
    have hb012 := th hb011 hb12
    obtain ⟨_, p0, p1, p2, p3, p4⟩ := HGB.out.on hb012
    go_wp2_with fail
    with_reducible refine (HRR.out _ (hr0.on byteR_fine hb012)).mono ?_
    rintro e w13 ⟨hb13, V13, m13, c13, rfl, hs13⟩
    obtain ⟨W14, hW14⟩ : ∃ W14, W14 = w13.alloc (.cells #[.int .i64 0, .int .i64 0, .int .i64 0, .int .i64 0, .int .i64 0, .string ⟨#[]⟩, .slice V13 m13 c13] 26) := ⟨_, rfl⟩
    have hE14 : Below w13.heap.size w13 W14 := by rw [hW14]; exact alloc_below _ _
    have hv14 : Sev W14 w13.heap.size (.int .i64 0) (.int .i64 0) (.int .i64 0) (.int .i64 0) (.int .i64 0) (.string ⟨#[]⟩) (.slice V13 m13 c13) := by rw [hW14]; exact Sev.new rfl (Below.refl _ _)
    have HVW := hide hv14
    have hw14 := hs13.on homR_fine hE14
    have hb914 := th hb912 (th hb13 hE14)
    have hb014 := th hb012 (th hb13 hE14)
    clear hv14 p0 p1 p2 p3 p4
    go_upto_region 14 with fail
    rw [← hW14]
    clear hW14
    obtain ⟨z0, z1, z2, z3, z4, z5, z6⟩ := HVZ.out.on hN9 hb914
    obtain ⟨r0, r1, r2, r3, r4, r5, r6⟩ := HVW.out
    go_wp2_with fail
    with_reducible refine (HKR.out _ _ _ _ _ _ _ (hz9.on homR_fine hb914) hw14).mono ?_
    rintro e w15 ⟨rfl, hb15⟩
    have hb915 := th hb914 hb15
    have hb015 := th hb014 hb15
    clear z0 z1 z2 z3 z4 z5 z6
    clear r0 r1 r2 r3 r4 r5 r6
    obtain ⟨_, p0, p1, p2, p3, p4⟩ := HGB.out.on hb015
    obtain ⟨q0, q1, q2, q3, q4, q5, q6⟩ := HSV.out.onB hN1 hb015
    go_wp2_with fail
    with_reducible refine (HRA1.out _ (ha0.on homR_fine hb015)).mono ?_
    rintro e w16 ⟨rfl, hb16⟩
    have hb916 := th hb915 hb16
    have hb016 := th hb015 hb16
    clear p0 p1 p2 p3 p4
    clear q0 q1 q2 q3 q4 q5 q6
    obtain ⟨_, p0, p1, p2, p3, p4⟩ := HGB.out.on hb016
    obtain ⟨i0, i1, i2, i3, i4, i5, i6⟩ := HVI.out.on hN3 (th hb39 hb916)
    go_wp2_with fail
    with_reducible refine (HCK.out _ _ _ (hT.below (th hb0 hb016)) (hi3.on homR_fine (th hb39 hb916))).mono ?_
    rintro e w17 ⟨rfl, hb17⟩
    have hb917 := th hb916 hb17
    have hb017 := th hb016 hb17
    clear p0 p1 p2 p3 p4
    clear i0 i1 i2 i3 i4 i5 i6
    have hb919 := hb917
    have hb019 := hb017
    obtain ⟨i0, i1, i2, i3, i4, i5, i6⟩ := HVI.out.on hN3 (th hb39 hb919)
    obtain ⟨q0, q1, q2, q3, q4, q5, q6⟩ := HSV.out.onB hN1 hb019
    go_wp2_with fail
    with_reducible refine (HKI.out _ _ _ (hi3.on homR_fine (th hb39 hb919)) (ha0.on homR_fine hb019)).mono ?_
    rintro e w20 ⟨rfl, hb20⟩
    have hb020 := th hb019 hb20
    clear i0 i1 i2 i3 i4 i5 i6
    clear q0 q1 q2 q3 q4 q5 q6
    go_wp2_with fail
    with_reducible refine (wakes08 _ (hT.below (th hb0 hb020))).mono ?_
    rintro e w30 ⟨rfl, hb30⟩
    go_wp2_with fail
    go_ret
    exact ⟨rfl, th hb0 (th hb020 hb30)⟩


end Go.Proofs.YtamgpbkakmffiaaDoor
