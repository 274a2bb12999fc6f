/-
  The walk of casematelaw09.NewestMoved.
-/
import Derived.Test.YtamgpbkakmffiaaDoorNwC
import Derived.Test.YtamgpbkakmffiaaDoorAncQ
import Derived.Deep.RegionHeld3
import Derived.Deep.CutRange
import Derived.Deep.DeepCutAuto
namespace Go.Proofs.YtamgpbkakmffiaaDoor
open Go.RowKit Go.Lib
set_option linter.unusedVariables false
set_option maxRecDepth 100000

theorem says_stamp {g : Geo} {a : Anc} (hG : GeoOk g) (ho : AncOk g a) {i s : Nat} (hi : i ≤ 65535) (hs : s ≤ 4294967295) : saysN g 0 (sealL i s (ancL a)) (i : Int) = if a.gen = (s : Int) then some a else none := by
  have hr := (anc_room hG ho).2
  have h1 := open_seal (a := i) (s := s) (l := ancL a) (by omega) hi hs
  have h2 := anc_back hG ho
  unfold saysN
  rw [h1]
  dsimp only
  rw [if_pos ⟨hG, ⟨by omega, by omega⟩, rfl, rfl, rfl⟩, h2]
  by_cases hg : a.gen = (s : Int)
  · rw [if_pos hg]
    exact if_pos ⟨ho, hg⟩
  · rw [if_neg hg]
    exact if_neg (fun h => hg h.2)
theorem saysis_some {a b : Anc} {r : Bool} (h : SaysIs (some a) b r) : r = true ∧ b = a := by
  rcases h with ⟨h1, h2⟩ | ⟨_, _, h2⟩
  · injection h2 with h2
    exact ⟨h1, h2.symm⟩
  · cases h2
theorem saysis_none {b : Anc} {r : Bool} (h : SaysIs none b r) : r = false ∧ b = noAnc := by
  rcases h with ⟨_, h2⟩ | ⟨h1, h2, _⟩
  · cases h2
  · exact ⟨h1, h2⟩
/-- newest.Says, where the answer is known. -/
theorem nsays_some {g : Geo} {a : Anc} {err : Int} {A : Option Addr} {n c : Nat} {l : List UInt8} {addr : Int} (hs : saysN g err l addr = some a) {w : World} (hT : Tabs w) (hl : Bs w A n c l) (hn : n ≤ 60000) :
    Calls Tryd.prog 46 #[g.v, .agg #[.int .i64 err, .slice A n c], .int .i64 addr] w fun e w' => Below w.heap.size w w' ∧ ∃ V m d, e = .returned (.tuple #[a.v (.slice V m d), .bool true]) ∧ Sl homR 3 w' (Old w') V m d a.homes := by
  refine (nsays_any g err A n c l addr w hT hl hn).mono ?_
  rintro e w' ⟨hb, b, V, m, d, r, rfl, hsl, hi⟩
  rw [hs] at hi
  obtain ⟨rfl, rfl⟩ := saysis_some hi
  exact ⟨hb, V, m, d, rfl, hsl.old_ homR_fine⟩
theorem nsays_none {g : Geo} {err : Int} {A : Option Addr} {n c : Nat} {l : List UInt8} {addr : Int} (hs : saysN g err l addr = none) {w : World} (hT : Tabs w) (hl : Bs w A n c l) (hn : n ≤ 60000) :
    Calls Tryd.prog 46 #[g.v, .agg #[.int .i64 err, .slice A n c], .int .i64 addr] w fun e w' => Below w.heap.size w w' ∧ ∃ V m d, e = .returned (.tuple #[noAnc.v (.slice V m d), .bool false]) ∧ Sl homR 3 w' (Old w') V m d noAnc.homes := by
  refine (nsays_any g err A n c l addr w hT hl hn).mono ?_
  rintro e w' ⟨hb, b, V, m, d, r, rfl, hsl, hi⟩
  rw [hs] at hi
  obtain ⟨rfl, rfl⟩ := saysis_none hi
  exact ⟨hb, V, m, d, rfl, hsl.old_ homR_fine⟩

set_option maxHeartbeats 16000000 in
theorem walk_newestMoved {w : World} (hT : Tabs w) (g : Geo) (a : Anc) (A : Option Addr) (n c : Nat) (i k : Int) (ha : Sl homR 3 w (Old w) A n c a.homes) (hin : a.In) (hi : InI i) (hk : InI k) :
    Calls Tryd.prog 15 #[g.v, a.v (.slice A n c), .int .i64 i, .int .i64 k] w fun e w' => e = .returned (.bool true) ∧ Below w.heap.size w w' := by
  have HHV := hide fun w h => heavya_any a A n c w h
  have HGE := hide fun w => rgeo_any g w
  have HRA := hide fun hG hl w h => ranchor_any g hG a A n c w h hin hl
  have HLI := hide fun (h : heavyA a = false) => heavyA_light h
  have HCE0 := hide fun hl i w hT hs hok => ncell_yes g a A n c i w hT hs hin hl hok
  have HLEN := hide ha.len
  obtain ⟨H, hH⟩ : ∃ H, H = heavyA a := ⟨_, rfl⟩
  obtain ⟨Gb, hGb⟩ : ∃ Gb, Gb = decide (GeoOk g) := ⟨_, rfl⟩
  obtain ⟨Rb, hRb⟩ : ∃ Rb, Rb = decide (AncOk g a) := ⟨_, rfl⟩
  rw [← hH] at HHV HLI
  rw [← hGb] at HGE
  rw [← hRb] at HRA
  obtain ⟨W0, hW0⟩ : ∃ W0, W0 = (w.alloc (.cells #[.int .i64 g.zones, .int .i64 g.data, .int .i64 g.spares, .int .i64 g.slots, .int .i64 g.anchors] 23)).alloc (.cells #[.int .i64 a.gen, .int .i64 a.epoch, .int .i64 a.pos, .int .i64 a.seq, .int .i64 a.last, .string a.label, .slice A n c] 26) := ⟨_, rfl⟩
  have hb0 : Below w.heap.size w W0 := by rw [hW0]; exact (alloc_below w _).alloc (by simp) _
  have ha0 := ha.on homR_fine hb0
  have hgb : GeoAt W0 w.heap.size g := by rw [hW0]; exact (GeoAt.new w g 23).on (alloc_below _ _)
  have hsv : Sev W0 (w.heap.size + 1) (.int .i64 a.gen) (.int .i64 a.epoch) (.int .i64 a.pos) (.int .i64 a.seq) (.int .i64 a.last) (.string a.label) (.slice A n c) := by rw [hW0]; exact Sev.new (by simp) (Below.refl _ _)
  have hN1 : w.heap.size + 1 < W0.heap.size := by rw [hW0]; simp
  have HSV := hide hsv
  have HGB := hide hgb
  have hpq := hgb.2
  rw [hW0] at hpq hsv
  obtain ⟨p0, p1, p2, p3, p4⟩ := hpq
  obtain ⟨q0, q1, q2, q3, q4, q5, q6⟩ := hsv
  clear hgb
  have HG0 : Hid (GeoOk g → AncOk g a → True) := hide fun _ _ => trivial
  have HGD := hide hGb
  have HRD := hide hRb
  clear hGb hRb hH
  unfold Geo.v Anc.v at *
  cases H with
  | true =>
    go_enter Tryd.func15, Tryd.ntmps15
    go_wp2_with fail
    rw [← hW0]
    clear p0 p1 p2 p3 p4
    clear q0 q1 q2 q3 q4 q5 q6
    refine (HHV.out _ ha0).mono ?_
    rintro e w1 ⟨rfl, hb1⟩
    go_wp2_with fail
    go_ret
    exact ⟨rfl, th hb0 hb1⟩
  | false =>
    have HL := hide (HLI.out rfl)
    cases Gb with
    | false =>
      go_enter Tryd.func15, Tryd.ntmps15
      go_wp2_with fail
      rw [← hW0]
      clear p0 p1 p2 p3 p4
      clear q0 q1 q2 q3 q4 q5 q6
      refine (HHV.out _ ha0).mono ?_
      rintro e w1 ⟨rfl, hb1⟩
      obtain ⟨_, p0, p1, p2, p3, p4⟩ := HGB.out.on hb1
      go_wp2_with fail
      refine (HGE.out _).mono ?_
      rintro e w2 ⟨rfl, hb2⟩
      have hb02 := th hb1 hb2
      clear p0 p1 p2 p3 p4
      go_wp2_with fail
      go_ret
      exact ⟨rfl, th hb0 hb02⟩
    | true =>
      have HGO : Hid (GeoOk g) := hide (of_decide_eq_true HGD.out.symm)
      cases Rb with
      | false =>
        go_enter Tryd.func15, Tryd.ntmps15
        go_wp2_with fail
        rw [← hW0]
        clear p0 p1 p2 p3 p4
        clear q0 q1 q2 q3 q4 q5 q6
        refine (HHV.out _ ha0).mono ?_
        rintro e w1 ⟨rfl, hb1⟩
        obtain ⟨_, p0, p1, p2, p3, p4⟩ := HGB.out.on hb1
        go_wp2_with fail
        refine (HGE.out _).mono ?_
        rintro e w2 ⟨rfl, hb2⟩
        have hb02 := th hb1 hb2
        clear p0 p1 p2 p3 p4
        obtain ⟨_, p0, p1, p2, p3, p4⟩ := HGB.out.on hb02
        obtain ⟨q0, q1, q2, q3, q4, q5, q6⟩ := HSV.out.onB hN1 hb02
        go_wp2_with fail
        refine (HRA.out HGO.out HL.out _ (ha0.on homR_fine hb02)).mono ?_
        rintro e w3 ⟨rfl, hb3⟩
        have hb03 := th hb02 hb3
        clear p0 p1 p2 p3 p4
        clear q0 q1 q2 q3 q4 q5 q6
        go_wp2_with fail
        go_ret
        exact ⟨rfl, th hb0 hb03⟩
      | true =>
        have HOK : Hid (AncOk g a) := hide (of_decide_eq_true HRD.out.symm)
        have hga := HGO.out.2.2.2.2
        have hgn := HOK.out.1.1
        have hgn0 : 0 ≤ a.gen := hgn.1
        have hgn1 : a.gen ≤ 4294967295 := hgn.2
        have hrm := (anc_room HGO.out HOK.out).2
        obtain ⟨x, hu1, hx1⟩ := um_is i g.anchors.toNat (by omega) (by omega)
        rw [Int.toNat_of_nonneg (by omega)] at hu1
        obtain ⟨y, hu2, hy1⟩ := um_is k 300 (by omega) (by omega)
        obtain ⟨ha1, hc1⟩ := um_rawG hu1 (by omega) (by omega)
        obtain ⟨ha2, hc2⟩ := um_rawG hu2 (by omega) (by omega)
        have ha2' : (IntKind.u64.wrap k).tmod 300 = (y : Int) := ha2
        have hc2' : IntKind.u64.wrap k % 300 = (y : Int) := hc2
        have z1 : IntKind.i64.wrap (x : Int) = (x : Int) := IntWalk.i64_in _ (by omega)
        have z2 : IntKind.i64.wrap (y : Int) = (y : Int) := IntWalk.i64_in _ (by omega)
        have z3 : IntKind.u64.wrap (x : Int) = (x : Int) := by rw [IntKind.wrap_u64]; omega
        have z4 : IntKind.u64.wrap (y : Int) = (y : Int) := by rw [IntKind.wrap_u64]; omega
        have gz : IntKind.u64.wrap g.anchors = g.anchors := by rw [IntKind.wrap_u64]; omega
        have gz0 : ¬ g.anchors = 0 := by omega
        obtain ⟨s, hs⟩ : ∃ s : Nat, (s : Int) = (a.gen + 1) % 1000 + 1000000 := ⟨((a.gen + 1) % 1000 + 1000000).toNat, by omega⟩
        have hsl : s ≤ 4294967295 := by omega
        have s1 : IntKind.i64.wrap (a.gen + 1) = a.gen + 1 := IntWalk.i64_in _ (by omega)
        have s2 : (a.gen + 1).tmod 1000 = (a.gen + 1) % 1000 := Int.tmod_eq_emod_of_nonneg (by omega)
        have s3 : IntKind.i64.wrap ((a.gen + 1) % 1000) = (a.gen + 1) % 1000 := IntWalk.i64_in _ (by omega)
        have s4 : IntKind.i64.wrap ((a.gen + 1) % 1000 + 1000000) = (s : Int) := by rw [IntWalk.i64_in _ (by omega)]; exact hs.symm
        have hx6 : x ≤ 65535 := by omega
        have hok1 : CellOk g a (x : Int) := ⟨HGO.out, HOK.out, by omega, by omega⟩
        have HCE := hide fun w hT h => HCE0.out HL.out x w hT h hok1
        have hsy1 := says_cell HGO.out HOK.out (i := x) hx6 (y : Int)
        have hsy2 := says_stamp HGO.out HOK.out (i := x) (s := s) hx6 hsl
        have HRB := hide fun w h => rabytes_yes HGO.out HOK.out (A := A) (n := n) (c := c) (w := w) h
        obtain ⟨M, hM⟩ : ∃ M, M = (ancL a).length := ⟨_, rfl⟩
        rw [← hM] at HCE HRB hrm
        have HRC := hide fun (V : Option Addr) (m cv : Nat) (w : World) (h : Bs w V m cv (ancL a)) (hm : m ≤ 96) => rcell_any h x s hx6 hsl hm
        have hKN : ∀ (V : Option Addr) (m cv : Nat) (w : World), Sl homR 3 w (Old w) V m cv a.homes → m ≤ 65536 := fun V m cv w h => by
          have h1 := h.len
          have h2 := HL.out.2.1
          omega
        have HKA := hide fun (V : Option Addr) (m cv : Nat) (w : World) (h : Sl homR 3 w (Old w) V m cv a.homes) (h2 : Sl homR 3 w (Old w) A n c a.homes) => keepa_any a a V A m cv n c w h h2 (hKN V m cv w h) (fun x hx => Nat.le_trans (HL.out.2.2 x hx) (by omega))
        simp only [decide_true] at HKA
        obtain ⟨B1, hB1⟩ : ∃ B1, B1 = sealL x a.gen.toNat (ancL a) := ⟨_, rfl⟩
        obtain ⟨B2, hB2⟩ : ∃ B2, B2 = sealL x s (ancL a) := ⟨_, rfl⟩
        rw [← hB1] at HCE hsy1
        rw [← hB2] at HRC hsy2
        have hsy3 : saysN g 6 B1 (x : Int) = none := says_bad (by decide) _ _
        have HSC := hide fun (V : Option Addr) (m cv : Nat) (w : World) hT (h : Bs w V m cv B1) (hm : m ≤ 60000) => nsays_none (g := g) (err := 6) (addr := (x : Int)) hsy3 (w := w) hT h hm
        obtain ⟨is, his⟩ : ∃ is, is = decide (a.gen = (s : Int)) := ⟨_, rfl⟩
        have hge : is = true → decide (1000000 ≤ a.gen) = true := fun h => by
          rw [his] at h
          have h2 := of_decide_eq_true h
          exact decide_eq_true (by omega)
        have HHS := hide hs
        have HGQ := hide hge
        clear hM hs hge hu1 hu2 ha2 hc2 hga hgn hgn0 hgn1 hok1 hKN hB1 hB2 hsy3 HG0 s2
        have s2 : (a.gen + 1).tmod 1000 = (a.gen + 1) % 1000 := Int.tmod_eq_emod_of_nonneg (by have := HOK.out.1.1.1; omega)
        by_cases e1 : (x : Int) = (y : Int)
        · by_cases e2 : a.gen = (s : Int)
          · have HSA := hide fun (V : Option Addr) (m cv : Nat) (w : World) hT (h : Bs w V m cv B1) (hm : m ≤ 60000) => nsays_some (g := g) (err := 0) (addr := (y : Int)) (hsy1.trans (if_pos e1)) (w := w) hT h hm
            have HSB := hide fun (V : Option Addr) (m cv : Nat) (w : World) hT (h : Bs w V m cv B2) (hm : m ≤ 60000) => nsays_some (g := g) (err := 0) (addr := (x : Int)) (hsy2.trans (if_pos e2)) (w := w) hT h hm
            have gq : decide (1000000 ≤ a.gen) = true := HGQ.out (his.trans (decide_eq_true e2))
            have gq1 : (1000000 : Int) ≤ a.gen := of_decide_eq_true gq
            unfold Geo.v Anc.v noAnc at *
            dsimp only at HSA HSB HSC HKA HCE HRB
            have E1 := hide e1
            have E2 := hide e2
            clear hsy1 hsy2 his e2 HGQ HHS HCE0
            go_enter Tryd.func15, Tryd.ntmps15
            go_wp2_with fail
            rw [← hW0]
            clear p0 p1 p2 p3 p4
            clear q0 q1 q2 q3 q4 q5 q6
            refine (HHV.out _ ha0).mono ?_
            rintro e w1 ⟨rfl, hb1⟩
            obtain ⟨_, p0, p1, p2, p3, p4⟩ := HGB.out.on hb1
            go_wp2_with fail
            refine (HGE.out _).mono ?_
            rintro e w2 ⟨rfl, hb2⟩
            have hb02 := th hb1 hb2
            clear p0 p1 p2 p3 p4
            obtain ⟨_, p0, p1, p2, p3, p4⟩ := HGB.out.on hb02
            obtain ⟨q0, q1, q2, q3, q4, q5, q6⟩ := HSV.out.onB hN1 hb02
            go_wp2_with fail
            refine (HRA.out HGO.out HL.out _ (ha0.on homR_fine hb02)).mono ?_
            rintro e w3 ⟨rfl, hb3⟩
            have hb03 := th hb02 hb3
            clear p0 p1 p2 p3 p4
            clear q0 q1 q2 q3 q4 q5 q6
            obtain ⟨_, p0, p1, p2, p3, p4⟩ := HGB.out.on hb03
            clear e1
            go_upto_region 4 with fail
            clear p0 p1 p2 p3 p4
            obtain ⟨_, p0, p1, p2, p3, p4⟩ := HGB.out.on hb03
            obtain ⟨q0, q1, q2, q3, q4, q5, q6⟩ := HSV.out.onB hN1 hb03
            go_wp2_with fail
            with_reducible refine (HCE.out _ (hT.below (th hb0 hb03)) (ha0.on homR_fine hb03)).mono ?_
            rintro e w4 ⟨V4, c4, rfl, ho4, hb4⟩
            have hx4 := ho4.read byteR_fine
            have hb04 := th hb03 hb4
            clear p0 p1 p2 p3 p4
            clear q0 q1 q2 q3 q4 q5 q6
            obtain ⟨_, p0, p1, p2, p3, p4⟩ := HGB.out.on hb04
            go_wp2_with fail
            with_reducible refine (HSA.out _ _ _ _ (hT.below (th hb0 hb04)) hx4 (by omega)).mono ?_
            rintro e w5 ⟨hb5, V5, m5, d5, rfl, hs5⟩
            obtain ⟨W6, hW6⟩ : ∃ W6, W6 = w5.alloc (.cells #[.int .i64 a.gen, .int .i64 a.epoch, .int .i64 a.pos, .int .i64 a.seq, .int .i64 a.last, .string a.label, .slice V5 m5 d5] 26) := ⟨_, rfl⟩
            have hE6 : Below w5.heap.size w5 W6 := by rw [hW6]; exact alloc_below _ _
            have hv6 : Sev W6 w5.heap.size (.int .i64 a.gen) (.int .i64 a.epoch) (.int .i64 a.pos) (.int .i64 a.seq) (.int .i64 a.last) (.string a.label) (.slice V5 m5 d5) := by rw [hW6]; exact Sev.new rfl (Below.refl _ _)
            have hN6 : w5.heap.size < W6.heap.size := by rw [hW6]; simp
            have hb46 := th hb5 hE6
            have hb06 := th hb04 hb46
            have hx6' := hx4.on byteR_fine hb46
            have ha6 := ha0.on homR_fine hb06
            have hs6 := hs5.on homR_fine hE6
            have HV6 := hide hv6
            have HS : Hid (∀ W, Below W6.heap.size W6 W → W.cell? ⟨w.heap.size, 0, none⟩ = some (.int .i64 g.zones) ∧ W.cell? ⟨w.heap.size, 1, none⟩ = some (.int .i64 g.data) ∧ W.cell? ⟨w.heap.size, 2, none⟩ = some (.int .i64 g.spares) ∧ W.cell? ⟨w.heap.size, 3, none⟩ = some (.int .i64 g.slots) ∧ W.cell? ⟨w.heap.size, 4, none⟩ = some (.int .i64 g.anchors) ∧ W.cell? ⟨w.heap.size + 1, 0, none⟩ = some (.int .i64 a.gen) ∧ W.cell? ⟨w.heap.size + 1, 1, none⟩ = some (.int .i64 a.epoch) ∧ W.cell? ⟨w.heap.size + 1, 2, none⟩ = some (.int .i64 a.pos) ∧ W.cell? ⟨w.heap.size + 1, 3, none⟩ = some (.int .i64 a.seq) ∧ W.cell? ⟨w.heap.size + 1, 4, none⟩ = some (.int .i64 a.last) ∧ W.cell? ⟨w.heap.size + 1, 5, none⟩ = some (.string a.label) ∧ W.cell? ⟨w.heap.size + 1, 6, none⟩ = some (.slice A n c)) := hide fun W hW => by
              obtain ⟨_, p0, p1, p2, p3, p4⟩ := HGB.out.on (th hb06 hW)
              obtain ⟨q0, q1, q2, q3, q4, q5, q6⟩ := HSV.out.onB hN1 (th hb06 hW)
              exact ⟨p0, p1, p2, p3, p4, q0, q1, q2, q3, q4, q5, q6⟩
            have HC1 : Hid (∀ W, Below W6.heap.size W6 W → Calls Tryd.prog 41 #[.agg #[.int .i64 a.gen, .int .i64 a.epoch, .int .i64 a.pos, .int .i64 a.seq, .int .i64 a.last, .string a.label, .slice A n c]] W fun e w' => Below W.heap.size W w' ∧ ∃ V cv, e = .returned (.slice V M cv) ∧ Bs w' V M cv (ancL a)) := hide fun W hW => HRB.out W (ha6.on homR_fine hW)
            have HC2 : Hid (∀ W, Below W6.heap.size W6 W → ∀ V cv, Bs W V M cv (ancL a) → Calls Tryd.prog 55 #[.int .i64 (x : Int), .int .i64 (s : Int), .slice V M cv] W fun e w' => Below W.heap.size W w' ∧ ∃ V cv, e = .returned (.slice V (M + 11) cv) ∧ Bs w' V (M + 11) cv B2) := hide fun W hW V cv h => by
              refine (HRC.out V M cv W h (by omega)).mono ?_
              rintro e w' ⟨V, cv, rfl, ho, hb⟩
              exact ⟨hb, V, cv, rfl, ho.read byteR_fine⟩
            have HC3 : Hid (∀ W, Below W6.heap.size W6 W → ∀ V cv, Bs W V (M + 11) cv B2 → Calls Tryd.prog 46 #[.agg #[.int .i64 g.zones, .int .i64 g.data, .int .i64 g.spares, .int .i64 g.slots, .int .i64 g.anchors], .agg #[.int .i64 0, .slice V (M + 11) cv], .int .i64 (x : Int)] W fun e w' => Below W.heap.size W w' ∧ ∃ V m d, e = .returned (.tuple #[.agg #[.int .i64 a.gen, .int .i64 a.epoch, .int .i64 a.pos, .int .i64 a.seq, .int .i64 a.last, .string a.label, .slice V m d], .bool true])) := hide fun W hW V cv h => by
              refine (HSB.out V (M + 11) cv W (hT.below (th hb0 (th hb06 hW))) h (by omega)).mono ?_
              rintro e w' ⟨hb, V, m, d, rfl, _⟩
              exact ⟨hb, V, m, d, rfl⟩
            have hcur : Below W6.heap.size W6 W6 := Below.refl _ _
            clear hv6 p0 p1 p2 p3 p4

            go_upto_region 6 with fail
            rw [← hW6]
            clear hW6
            go_cut [14] (fun v wx => v = .bool true ∧ Below W6.heap.size W6 wx)
            case first =>
              go_region_held3 (fun W => W.cell? ⟨w.heap.size, 0, none⟩ = some (.int .i64 g.zones) ∧ W.cell? ⟨w.heap.size, 1, none⟩ = some (.int .i64 g.data) ∧ W.cell? ⟨w.heap.size, 2, none⟩ = some (.int .i64 g.spares) ∧ W.cell? ⟨w.heap.size, 3, none⟩ = some (.int .i64 g.slots) ∧ W.cell? ⟨w.heap.size, 4, none⟩ = some (.int .i64 g.anchors) ∧ W.cell? ⟨w.heap.size + 1, 0, none⟩ = some (.int .i64 a.gen) ∧ W.cell? ⟨w.heap.size + 1, 1, none⟩ = some (.int .i64 a.epoch) ∧ W.cell? ⟨w.heap.size + 1, 2, none⟩ = some (.int .i64 a.pos) ∧ W.cell? ⟨w.heap.size + 1, 3, none⟩ = some (.int .i64 a.seq) ∧ W.cell? ⟨w.heap.size + 1, 4, none⟩ = some (.int .i64 a.last) ∧ W.cell? ⟨w.heap.size + 1, 5, none⟩ = some (.string a.label) ∧ W.cell? ⟨w.heap.size + 1, 6, none⟩ = some (.slice A n c)) (first | with_reducible exact HS.out _ hcur | with_reducible exact HS.out _ hcur.drew | with_reducible exact HS.out _ (balB hcur _) | with_reducible exact HS.out _ (balB hcur _).drew | with_reducible exact HS.out _ (chain7 hcur (by first | omega | (simp only [World.size_alloc]; omega) | (simp <;> omega) | simp) _ _ _ _ _ _ _) | with_reducible exact HS.out _ (chain7 hcur (by first | omega | (simp only [World.size_alloc]; omega) | (simp <;> omega) | simp) _ _ _ _ _ _ _).drew) (first | (go_at_call 41; (with_reducible refine (HC1.out _ (by first | with_reducible exact hcur | with_reducible exact hcur.drew | with_reducible exact balB hcur _ | with_reducible exact (balB hcur _).drew)).mono ?_); rintro e w7 ⟨hz7, V7, c7, rfl, hs7⟩; (first | (have kb : H7 w7 _ := H7.below (by first | exact kb | exact kb.al _ | exact H7.new _ _ | exact (H7.new _ _).al _ | exact H7.dr (H7.new _ _) | exact H7.dr ((H7.new _ _).al _) | exact H7.newN (by simp) _) hz7; (try simp only [World.size_alloc] at kb)) | skip); have hcur := th (by first | with_reducible exact hcur | with_reducible exact hcur.drew | with_reducible exact balB hcur _ | with_reducible exact (balB hcur _).drew) hz7; have hsz7 := hcur.size) | (go_at_call 55; (with_reducible refine (HC2.out _ (by first | with_reducible exact hcur | with_reducible exact hcur.drew | with_reducible exact balB hcur _ | with_reducible exact (balB hcur _).drew) _ _ (by first | exact hs7 | exact hs7.on byteR_fine (alloc_below _ _) | exact Sl.drew byteR_fine (hs7.on byteR_fine (alloc_below _ _)))).mono ?_); rintro e w8 ⟨hz8, V8, c8, rfl, hs8⟩; (first | (have kb : H7 w8 _ := H7.below (by first | exact kb | exact kb.al _ | exact H7.new _ _ | exact (H7.new _ _).al _ | exact H7.dr (H7.new _ _) | exact H7.dr ((H7.new _ _).al _) | exact H7.newN (by simp) _) hz8; (try simp only [World.size_alloc] at kb)) | skip); have hcur := th (by first | with_reducible exact hcur | with_reducible exact hcur.drew | with_reducible exact balB hcur _ | with_reducible exact (balB hcur _).drew) hz8; have hsz8 := hcur.size) | (go_at_call 46; (with_reducible refine (HC3.out _ (by first | with_reducible exact hcur | with_reducible exact hcur.drew | with_reducible exact balB hcur _ | with_reducible exact (balB hcur _).drew) _ _ (by first | exact hs8 | exact hs8.on byteR_fine (alloc_below _ _) | exact Sl.drew byteR_fine (hs8.on byteR_fine (alloc_below _ _)))).mono ?_); rintro e w9 ⟨hz9, V9, m9, c9, rfl⟩; (first | (have kb : H7 w9 _ := H7.below (by first | exact kb | exact kb.al _ | exact H7.new _ _ | exact (H7.new _ _).al _ | exact H7.dr (H7.new _ _) | exact H7.dr ((H7.new _ _).al _) | exact H7.newN (by simp) _) hz9; (try simp only [World.size_alloc] at kb)) | skip); have hcur := th (by first | with_reducible exact hcur | with_reducible exact hcur.drew | with_reducible exact balB hcur _ | with_reducible exact (balB hcur _).drew) hz9; have hsz9 := hcur.size; (first | (have kb0 := kb.1 0 _ rfl; have kf0 := kb.2 0; have kb1 := kb.1 1 _ rfl; have kf1 := kb.2 1; have kb2 := kb.1 2 _ rfl; have kf2 := kb.2 2; have kb3 := kb.1 3 _ rfl; have kf3 := kb.2 3; have kb4 := kb.1 4 _ rfl; have kf4 := kb.2 4; have kb5 := kb.1 5 _ rfl; have kf5 := kb.2 5; have kb6 := kb.1 6 _ rfl; have kf6 := kb.2 6) | skip)))
              all_goals (go_wp2_with fail; go_meet; exact ⟨rfl, (by first | with_reducible exact hcur | with_reducible exact balB hcur _ | exact (chain7 hcur (by first | omega | (simp only [World.size_alloc]; omega) | (simp <;> omega) | simp) _ _ _ _ _ _ _) | exact (chain7 hcur (by first | omega | (simp only [World.size_alloc]; omega) | (simp <;> omega) | simp) _ _ _ _ _ _ _).drew)⟩)
            case rest =>
              obtain ⟨rfl, hb7⟩ := hcut
              have hb07 := th hb06 hb7
              obtain ⟨_, p0, p1, p2, p3, p4⟩ := HGB.out.on hb07
              go_wp2_with fail
              with_reducible refine (HSC.out _ _ _ _ (hT.below (th hb0 hb07)) (hx6'.on byteR_fine hb7) (by omega)).mono ?_
              rintro e w8 ⟨hb8, V8, m8, d8, rfl, _⟩
              obtain ⟨W9, hW9⟩ : ∃ W9, W9 = w8.alloc (.cells #[.int .i64 0, .int .i64 0, .int .i64 0, .int .i64 0, .int .i64 0, .string ⟨#[]⟩, .slice V8 m8 d8] 26) := ⟨_, rfl⟩
              have hE9 : Below w8.heap.size w8 W9 := by rw [hW9]; exact alloc_below _ _
              have hb79 := th hb8 hE9
              have hb69 := th hb7 hb79
              have hb09 := th hb06 hb69
              clear p0 p1 p2 p3 p4
              go_upto_region 8 with fail
              rw [← hW9]
              clear hW9
              have exy : ((x : Int) == (y : Int)) = true := by rw [E1.out]; simp
              obtain ⟨r0, r1, r2, r3, r4, r5, r6⟩ := HV6.out.on hN6 hb69
              obtain ⟨q0, q1, q2, q3, q4, q5, q6⟩ := HSV.out.onB hN1 hb09
              have hbt : (true == true) = true := rfl
              go_wp2_with fail
              with_reducible refine (HKA.out _ _ _ _ (hs6.on homR_fine hb69) (ha6.on homR_fine hb69)).mono ?_
              rintro e w10 ⟨rfl, hb10⟩
              have hb010 := th hb09 hb10
              clear q0 q1 q2 q3 q4 q5 q6 r0 r1 r2 r3 r4 r5 r6
              obtain ⟨q0, q1, q2, q3, q4, q5, q6⟩ := HSV.out.onB hN1 hb010
              go_wp2_with fail
              refine (wakes09 _ (hT.below (th hb0 hb010))).mono ?_
              rintro e w11 ⟨rfl, hb11⟩
              go_wp2_with fail
              go_ret
              exact ⟨rfl, th hb0 (th hb010 hb11)⟩
          · have HSA := hide fun (V : Option Addr) (m cv : Nat) (w : World) hT (h : Bs w V m cv B1) (hm : m ≤ 60000) => nsays_some (g := g) (err := 0) (addr := (y : Int)) (hsy1.trans (if_pos e1)) (w := w) hT h hm
            have HSB := hide fun (V : Option Addr) (m cv : Nat) (w : World) hT (h : Bs w V m cv B2) (hm : m ≤ 60000) => nsays_none (g := g) (err := 0) (addr := (x : Int)) (hsy2.trans (if_neg e2)) (w := w) hT h hm
            unfold Geo.v Anc.v noAnc at *
            dsimp only at HSA HSB HSC HKA HCE HRB
            have E1 := hide e1
            have E2 := hide e2
            clear hsy1 hsy2 his e2 HGQ HHS HCE0
            go_enter Tryd.func15, Tryd.ntmps15
            go_wp2_with fail
            rw [← hW0]
            clear p0 p1 p2 p3 p4
            clear q0 q1 q2 q3 q4 q5 q6
            refine (HHV.out _ ha0).mono ?_
            rintro e w1 ⟨rfl, hb1⟩
            obtain ⟨_, p0, p1, p2, p3, p4⟩ := HGB.out.on hb1
            go_wp2_with fail
            refine (HGE.out _).mono ?_
            rintro e w2 ⟨rfl, hb2⟩
            have hb02 := th hb1 hb2
            clear p0 p1 p2 p3 p4
            obtain ⟨_, p0, p1, p2, p3, p4⟩ := HGB.out.on hb02
            obtain ⟨q0, q1, q2, q3, q4, q5, q6⟩ := HSV.out.onB hN1 hb02
            go_wp2_with fail
            refine (HRA.out HGO.out HL.out _ (ha0.on homR_fine hb02)).mono ?_
            rintro e w3 ⟨rfl, hb3⟩
            have hb03 := th hb02 hb3
            clear p0 p1 p2 p3 p4
            clear q0 q1 q2 q3 q4 q5 q6
            obtain ⟨_, p0, p1, p2, p3, p4⟩ := HGB.out.on hb03
            clear e1
            go_upto_region 4 with fail
            clear p0 p1 p2 p3 p4
            obtain ⟨_, p0, p1, p2, p3, p4⟩ := HGB.out.on hb03
            obtain ⟨q0, q1, q2, q3, q4, q5, q6⟩ := HSV.out.onB hN1 hb03
            go_wp2_with fail
            with_reducible refine (HCE.out _ (hT.below (th hb0 hb03)) (ha0.on homR_fine hb03)).mono ?_
            rintro e w4 ⟨V4, c4, rfl, ho4, hb4⟩
            have hx4 := ho4.read byteR_fine
            have hb04 := th hb03 hb4
            clear p0 p1 p2 p3 p4
            clear q0 q1 q2 q3 q4 q5 q6
            obtain ⟨_, p0, p1, p2, p3, p4⟩ := HGB.out.on hb04
            go_wp2_with fail
            with_reducible refine (HSA.out _ _ _ _ (hT.below (th hb0 hb04)) hx4 (by omega)).mono ?_
            rintro e w5 ⟨hb5, V5, m5, d5, rfl, hs5⟩
            obtain ⟨W6, hW6⟩ : ∃ W6, W6 = w5.alloc (.cells #[.int .i64 a.gen, .int .i64 a.epoch, .int .i64 a.pos, .int .i64 a.seq, .int .i64 a.last, .string a.label, .slice V5 m5 d5] 26) := ⟨_, rfl⟩
            have hE6 : Below w5.heap.size w5 W6 := by rw [hW6]; exact alloc_below _ _
            have hv6 : Sev W6 w5.heap.size (.int .i64 a.gen) (.int .i64 a.epoch) (.int .i64 a.pos) (.int .i64 a.seq) (.int .i64 a.last) (.string a.label) (.slice V5 m5 d5) := by rw [hW6]; exact Sev.new rfl (Below.refl _ _)
            have hN6 : w5.heap.size < W6.heap.size := by rw [hW6]; simp
            have hb46 := th hb5 hE6
            have hb06 := th hb04 hb46
            have hx6' := hx4.on byteR_fine hb46
            have ha6 := ha0.on homR_fine hb06
            have hs6 := hs5.on homR_fine hE6
            have HV6 := hide hv6
            have HS : Hid (∀ W, Below W6.heap.size W6 W → W.cell? ⟨w.heap.size, 0, none⟩ = some (.int .i64 g.zones) ∧ W.cell? ⟨w.heap.size, 1, none⟩ = some (.int .i64 g.data) ∧ W.cell? ⟨w.heap.size, 2, none⟩ = some (.int .i64 g.spares) ∧ W.cell? ⟨w.heap.size, 3, none⟩ = some (.int .i64 g.slots) ∧ W.cell? ⟨w.heap.size, 4, none⟩ = some (.int .i64 g.anchors) ∧ W.cell? ⟨w.heap.size + 1, 0, none⟩ = some (.int .i64 a.gen) ∧ W.cell? ⟨w.heap.size + 1, 1, none⟩ = some (.int .i64 a.epoch) ∧ W.cell? ⟨w.heap.size + 1, 2, none⟩ = some (.int .i64 a.pos) ∧ W.cell? ⟨w.heap.size + 1, 3, none⟩ = some (.int .i64 a.seq) ∧ W.cell? ⟨w.heap.size + 1, 4, none⟩ = some (.int .i64 a.last) ∧ W.cell? ⟨w.heap.size + 1, 5, none⟩ = some (.string a.label) ∧ W.cell? ⟨w.heap.size + 1, 6, none⟩ = some (.slice A n c)) := hide fun W hW => by
              obtain ⟨_, p0, p1, p2, p3, p4⟩ := HGB.out.on (th hb06 hW)
              obtain ⟨q0, q1, q2, q3, q4, q5, q6⟩ := HSV.out.onB hN1 (th hb06 hW)
              exact ⟨p0, p1, p2, p3, p4, q0, q1, q2, q3, q4, q5, q6⟩
            have HC1 : Hid (∀ W, Below W6.heap.size W6 W → Calls Tryd.prog 41 #[.agg #[.int .i64 a.gen, .int .i64 a.epoch, .int .i64 a.pos, .int .i64 a.seq, .int .i64 a.last, .string a.label, .slice A n c]] W fun e w' => Below W.heap.size W w' ∧ ∃ V cv, e = .returned (.slice V M cv) ∧ Bs w' V M cv (ancL a)) := hide fun W hW => HRB.out W (ha6.on homR_fine hW)
            have HC2 : Hid (∀ W, Below W6.heap.size W6 W → ∀ V cv, Bs W V M cv (ancL a) → Calls Tryd.prog 55 #[.int .i64 (x : Int), .int .i64 (s : Int), .slice V M cv] W fun e w' => Below W.heap.size W w' ∧ ∃ V cv, e = .returned (.slice V (M + 11) cv) ∧ Bs w' V (M + 11) cv B2) := hide fun W hW V cv h => by
              refine (HRC.out V M cv W h (by omega)).mono ?_
              rintro e w' ⟨V, cv, rfl, ho, hb⟩
              exact ⟨hb, V, cv, rfl, ho.read byteR_fine⟩
            have HC3 : Hid (∀ W, Below W6.heap.size W6 W → ∀ V cv, Bs W V (M + 11) cv B2 → Calls Tryd.prog 46 #[.agg #[.int .i64 g.zones, .int .i64 g.data, .int .i64 g.spares, .int .i64 g.slots, .int .i64 g.anchors], .agg #[.int .i64 0, .slice V (M + 11) cv], .int .i64 (x : Int)] W fun e w' => Below W.heap.size W w' ∧ ∃ V m d, e = .returned (.tuple #[.agg #[.int .i64 0, .int .i64 0, .int .i64 0, .int .i64 0, .int .i64 0, .string ⟨#[]⟩, .slice V m d], .bool false])) := hide fun W hW V cv h => by
              refine (HSB.out V (M + 11) cv W (hT.below (th hb0 (th hb06 hW))) h (by omega)).mono ?_
              rintro e w' ⟨hb, V, m, d, rfl, _⟩
              exact ⟨hb, V, m, d, rfl⟩
            have hcur : Below W6.heap.size W6 W6 := Below.refl _ _
            clear hv6 p0 p1 p2 p3 p4

            go_upto_region 6 with fail
            rw [← hW6]
            clear hW6
            go_cut [14] (fun v wx => v = .bool false ∧ Below W6.heap.size W6 wx)
            case first =>
              go_region_held3 (fun W => W.cell? ⟨w.heap.size, 0, none⟩ = some (.int .i64 g.zones) ∧ W.cell? ⟨w.heap.size, 1, none⟩ = some (.int .i64 g.data) ∧ W.cell? ⟨w.heap.size, 2, none⟩ = some (.int .i64 g.spares) ∧ W.cell? ⟨w.heap.size, 3, none⟩ = some (.int .i64 g.slots) ∧ W.cell? ⟨w.heap.size, 4, none⟩ = some (.int .i64 g.anchors) ∧ W.cell? ⟨w.heap.size + 1, 0, none⟩ = some (.int .i64 a.gen) ∧ W.cell? ⟨w.heap.size + 1, 1, none⟩ = some (.int .i64 a.epoch) ∧ W.cell? ⟨w.heap.size + 1, 2, none⟩ = some (.int .i64 a.pos) ∧ W.cell? ⟨w.heap.size + 1, 3, none⟩ = some (.int .i64 a.seq) ∧ W.cell? ⟨w.heap.size + 1, 4, none⟩ = some (.int .i64 a.last) ∧ W.cell? ⟨w.heap.size + 1, 5, none⟩ = some (.string a.label) ∧ W.cell? ⟨w.heap.size + 1, 6, none⟩ = some (.slice A n c)) (first | with_reducible exact HS.out _ hcur | with_reducible exact HS.out _ hcur.drew | with_reducible exact HS.out _ (balB hcur _) | with_reducible exact HS.out _ (balB hcur _).drew | with_reducible exact HS.out _ (chain7 hcur (by first | omega | (simp only [World.size_alloc]; omega) | (simp <;> omega) | simp) _ _ _ _ _ _ _) | with_reducible exact HS.out _ (chain7 hcur (by first | omega | (simp only [World.size_alloc]; omega) | (simp <;> omega) | simp) _ _ _ _ _ _ _).drew) (first | (go_at_call 41; (with_reducible refine (HC1.out _ (by first | with_reducible exact hcur | with_reducible exact hcur.drew | with_reducible exact balB hcur _ | with_reducible exact (balB hcur _).drew)).mono ?_); rintro e w7 ⟨hz7, V7, c7, rfl, hs7⟩; (first | (have kb : H7 w7 _ := H7.below (by first | exact kb | exact kb.al _ | exact H7.new _ _ | exact (H7.new _ _).al _ | exact H7.dr (H7.new _ _) | exact H7.dr ((H7.new _ _).al _) | exact H7.newN (by simp) _) hz7; (try simp only [World.size_alloc] at kb)) | skip); have hcur := th (by first | with_reducible exact hcur | with_reducible exact hcur.drew | with_reducible exact balB hcur _ | with_reducible exact (balB hcur _).drew) hz7; have hsz7 := hcur.size) | (go_at_call 55; (with_reducible refine (HC2.out _ (by first | with_reducible exact hcur | with_reducible exact hcur.drew | with_reducible exact balB hcur _ | with_reducible exact (balB hcur _).drew) _ _ (by first | exact hs7 | exact hs7.on byteR_fine (alloc_below _ _) | exact Sl.drew byteR_fine (hs7.on byteR_fine (alloc_below _ _)))).mono ?_); rintro e w8 ⟨hz8, V8, c8, rfl, hs8⟩; (first | (have kb : H7 w8 _ := H7.below (by first | exact kb | exact kb.al _ | exact H7.new _ _ | exact (H7.new _ _).al _ | exact H7.dr (H7.new _ _) | exact H7.dr ((H7.new _ _).al _) | exact H7.newN (by simp) _) hz8; (try simp only [World.size_alloc] at kb)) | skip); have hcur := th (by first | with_reducible exact hcur | with_reducible exact hcur.drew | with_reducible exact balB hcur _ | with_reducible exact (balB hcur _).drew) hz8; have hsz8 := hcur.size) | (go_at_call 46; (with_reducible refine (HC3.out _ (by first | with_reducible exact hcur | with_reducible exact hcur.drew | with_reducible exact balB hcur _ | with_reducible exact (balB hcur _).drew) _ _ (by first | exact hs8 | exact hs8.on byteR_fine (alloc_below _ _) | exact Sl.drew byteR_fine (hs8.on byteR_fine (alloc_below _ _)))).mono ?_); rintro e w9 ⟨hz9, V9, m9, c9, rfl⟩; (first | (have kb : H7 w9 _ := H7.below (by first | exact kb | exact kb.al _ | exact H7.new _ _ | exact (H7.new _ _).al _ | exact H7.dr (H7.new _ _) | exact H7.dr ((H7.new _ _).al _) | exact H7.newN (by simp) _) hz9; (try simp only [World.size_alloc] at kb)) | skip); have hcur := th (by first | with_reducible exact hcur | with_reducible exact hcur.drew | with_reducible exact balB hcur _ | with_reducible exact (balB hcur _).drew) hz9; have hsz9 := hcur.size; (first | (have kb0 := kb.1 0 _ rfl; have kf0 := kb.2 0; have kb1 := kb.1 1 _ rfl; have kf1 := kb.2 1; have kb2 := kb.1 2 _ rfl; have kf2 := kb.2 2; have kb3 := kb.1 3 _ rfl; have kf3 := kb.2 3; have kb4 := kb.1 4 _ rfl; have kf4 := kb.2 4; have kb5 := kb.1 5 _ rfl; have kf5 := kb.2 5; have kb6 := kb.1 6 _ rfl; have kf6 := kb.2 6) | skip)))
              all_goals (go_wp2_with fail; go_meet; exact ⟨rfl, (by first | with_reducible exact hcur | with_reducible exact balB hcur _ | exact (chain7 hcur (by first | omega | (simp only [World.size_alloc]; omega) | (simp <;> omega) | simp) _ _ _ _ _ _ _) | exact (chain7 hcur (by first | omega | (simp only [World.size_alloc]; omega) | (simp <;> omega) | simp) _ _ _ _ _ _ _).drew)⟩)
            case rest =>
              obtain ⟨rfl, hb7⟩ := hcut
              have hb07 := th hb06 hb7
              obtain ⟨_, p0, p1, p2, p3, p4⟩ := HGB.out.on hb07
              go_wp2_with fail
              with_reducible refine (HSC.out _ _ _ _ (hT.below (th hb0 hb07)) (hx6'.on byteR_fine hb7) (by omega)).mono ?_
              rintro e w8 ⟨hb8, V8, m8, d8, rfl, _⟩
              obtain ⟨W9, hW9⟩ : ∃ W9, W9 = w8.alloc (.cells #[.int .i64 0, .int .i64 0, .int .i64 0, .int .i64 0, .int .i64 0, .string ⟨#[]⟩, .slice V8 m8 d8] 26) := ⟨_, rfl⟩
              have hE9 : Below w8.heap.size w8 W9 := by rw [hW9]; exact alloc_below _ _
              have hb79 := th hb8 hE9
              have hb69 := th hb7 hb79
              have hb09 := th hb06 hb69
              clear p0 p1 p2 p3 p4
              go_upto_region 8 with fail
              rw [← hW9]
              clear hW9
              have exy : ((x : Int) == (y : Int)) = true := by rw [E1.out]; simp
              obtain ⟨r0, r1, r2, r3, r4, r5, r6⟩ := HV6.out.on hN6 hb69
              obtain ⟨q0, q1, q2, q3, q4, q5, q6⟩ := HSV.out.onB hN1 hb09
              have hbt : (true == true) = true := rfl
              go_wp2_with fail
              with_reducible refine (HKA.out _ _ _ _ (hs6.on homR_fine hb69) (ha6.on homR_fine hb69)).mono ?_
              rintro e w10 ⟨rfl, hb10⟩
              have hb010 := th hb09 hb10
              clear q0 q1 q2 q3 q4 q5 q6 r0 r1 r2 r3 r4 r5 r6
              obtain ⟨q0, q1, q2, q3, q4, q5, q6⟩ := HSV.out.onB hN1 hb010
              go_wp2_with fail
              refine (wakes09 _ (hT.below (th hb0 hb010))).mono ?_
              rintro e w11 ⟨rfl, hb11⟩
              go_wp2_with fail
              go_ret
              exact ⟨rfl, th hb0 (th hb010 hb11)⟩
        · by_cases e2 : a.gen = (s : Int)
          · have HSA := hide fun (V : Option Addr) (m cv : Nat) (w : World) hT (h : Bs w V m cv B1) (hm : m ≤ 60000) => nsays_none (g := g) (err := 0) (addr := (y : Int)) (hsy1.trans (if_neg e1)) (w := w) hT h hm
            have HSB := hide fun (V : Option Addr) (m cv : Nat) (w : World) hT (h : Bs w V m cv B2) (hm : m ≤ 60000) => nsays_some (g := g) (err := 0) (addr := (x : Int)) (hsy2.trans (if_pos e2)) (w := w) hT h hm
            have gq : decide (1000000 ≤ a.gen) = true := HGQ.out (his.trans (decide_eq_true e2))
            have gq1 : (1000000 : Int) ≤ a.gen := of_decide_eq_true gq
            unfold Geo.v Anc.v noAnc at *
            dsimp only at HSA HSB HSC HKA HCE HRB
            have E1 := hide e1
            have E2 := hide e2
            clear hsy1 hsy2 his e2 HGQ HHS HCE0
            go_enter Tryd.func15, Tryd.ntmps15
            go_wp2_with fail
            rw [← hW0]
            clear p0 p1 p2 p3 p4
            clear q0 q1 q2 q3 q4 q5 q6
            refine (HHV.out _ ha0).mono ?_
            rintro e w1 ⟨rfl, hb1⟩
            obtain ⟨_, p0, p1, p2, p3, p4⟩ := HGB.out.on hb1
            go_wp2_with fail
            refine (HGE.out _).mono ?_
            rintro e w2 ⟨rfl, hb2⟩
            have hb02 := th hb1 hb2
            clear p0 p1 p2 p3 p4
            obtain ⟨_, p0, p1, p2, p3, p4⟩ := HGB.out.on hb02
            obtain ⟨q0, q1, q2, q3, q4, q5, q6⟩ := HSV.out.onB hN1 hb02
            go_wp2_with fail
            refine (HRA.out HGO.out HL.out _ (ha0.on homR_fine hb02)).mono ?_
            rintro e w3 ⟨rfl, hb3⟩
            have hb03 := th hb02 hb3
            clear p0 p1 p2 p3 p4
            clear q0 q1 q2 q3 q4 q5 q6
            obtain ⟨_, p0, p1, p2, p3, p4⟩ := HGB.out.on hb03
            clear e1
            go_upto_region 4 with fail
            clear p0 p1 p2 p3 p4
            obtain ⟨_, p0, p1, p2, p3, p4⟩ := HGB.out.on hb03
            obtain ⟨q0, q1, q2, q3, q4, q5, q6⟩ := HSV.out.onB hN1 hb03
            go_wp2_with fail
            with_reducible refine (HCE.out _ (hT.below (th hb0 hb03)) (ha0.on homR_fine hb03)).mono ?_
            rintro e w4 ⟨V4, c4, rfl, ho4, hb4⟩
            have hx4 := ho4.read byteR_fine
            have hb04 := th hb03 hb4
            clear p0 p1 p2 p3 p4
            clear q0 q1 q2 q3 q4 q5 q6
            obtain ⟨_, p0, p1, p2, p3, p4⟩ := HGB.out.on hb04
            go_wp2_with fail
            with_reducible refine (HSA.out _ _ _ _ (hT.below (th hb0 hb04)) hx4 (by omega)).mono ?_
            rintro e w5 ⟨hb5, V5, m5, d5, rfl, hs5⟩
            obtain ⟨W6, hW6⟩ : ∃ W6, W6 = w5.alloc (.cells #[.int .i64 0, .int .i64 0, .int .i64 0, .int .i64 0, .int .i64 0, .string ⟨#[]⟩, .slice V5 m5 d5] 26) := ⟨_, rfl⟩
            have hE6 : Below w5.heap.size w5 W6 := by rw [hW6]; exact alloc_below _ _
            have hv6 : Sev W6 w5.heap.size (.int .i64 0) (.int .i64 0) (.int .i64 0) (.int .i64 0) (.int .i64 0) (.string ⟨#[]⟩) (.slice V5 m5 d5) := by rw [hW6]; exact Sev.new rfl (Below.refl _ _)
            have hN6 : w5.heap.size < W6.heap.size := by rw [hW6]; simp
            have hb46 := th hb5 hE6
            have hb06 := th hb04 hb46
            have hx6' := hx4.on byteR_fine hb46
            have ha6 := ha0.on homR_fine hb06
            have hs6 := hs5.on homR_fine hE6
            have HV6 := hide hv6
            have HS : Hid (∀ W, Below W6.heap.size W6 W → W.cell? ⟨w.heap.size, 0, none⟩ = some (.int .i64 g.zones) ∧ W.cell? ⟨w.heap.size, 1, none⟩ = some (.int .i64 g.data) ∧ W.cell? ⟨w.heap.size, 2, none⟩ = some (.int .i64 g.spares) ∧ W.cell? ⟨w.heap.size, 3, none⟩ = some (.int .i64 g.slots) ∧ W.cell? ⟨w.heap.size, 4, none⟩ = some (.int .i64 g.anchors) ∧ W.cell? ⟨w.heap.size + 1, 0, none⟩ = some (.int .i64 a.gen) ∧ W.cell? ⟨w.heap.size + 1, 1, none⟩ = some (.int .i64 a.epoch) ∧ W.cell? ⟨w.heap.size + 1, 2, none⟩ = some (.int .i64 a.pos) ∧ W.cell? ⟨w.heap.size + 1, 3, none⟩ = some (.int .i64 a.seq) ∧ W.cell? ⟨w.heap.size + 1, 4, none⟩ = some (.int .i64 a.last) ∧ W.cell? ⟨w.heap.size + 1, 5, none⟩ = some (.string a.label) ∧ W.cell? ⟨w.heap.size + 1, 6, none⟩ = some (.slice A n c)) := hide fun W hW => by
              obtain ⟨_, p0, p1, p2, p3, p4⟩ := HGB.out.on (th hb06 hW)
              obtain ⟨q0, q1, q2, q3, q4, q5, q6⟩ := HSV.out.onB hN1 (th hb06 hW)
              exact ⟨p0, p1, p2, p3, p4, q0, q1, q2, q3, q4, q5, q6⟩
            have HC1 : Hid (∀ W, Below W6.heap.size W6 W → Calls Tryd.prog 41 #[.agg #[.int .i64 a.gen, .int .i64 a.epoch, .int .i64 a.pos, .int .i64 a.seq, .int .i64 a.last, .string a.label, .slice A n c]] W fun e w' => Below W.heap.size W w' ∧ ∃ V cv, e = .returned (.slice V M cv) ∧ Bs w' V M cv (ancL a)) := hide fun W hW => HRB.out W (ha6.on homR_fine hW)
            have HC2 : Hid (∀ W, Below W6.heap.size W6 W → ∀ V cv, Bs W V M cv (ancL a) → Calls Tryd.prog 55 #[.int .i64 (x : Int), .int .i64 (s : Int), .slice V M cv] W fun e w' => Below W.heap.size W w' ∧ ∃ V cv, e = .returned (.slice V (M + 11) cv) ∧ Bs w' V (M + 11) cv B2) := hide fun W hW V cv h => by
              refine (HRC.out V M cv W h (by omega)).mono ?_
              rintro e w' ⟨V, cv, rfl, ho, hb⟩
              exact ⟨hb, V, cv, rfl, ho.read byteR_fine⟩
            have HC3 : Hid (∀ W, Below W6.heap.size W6 W → ∀ V cv, Bs W V (M + 11) cv B2 → Calls Tryd.prog 46 #[.agg #[.int .i64 g.zones, .int .i64 g.data, .int .i64 g.spares, .int .i64 g.slots, .int .i64 g.anchors], .agg #[.int .i64 0, .slice V (M + 11) cv], .int .i64 (x : Int)] W fun e w' => Below W.heap.size W w' ∧ ∃ V m d, e = .returned (.tuple #[.agg #[.int .i64 a.gen, .int .i64 a.epoch, .int .i64 a.pos, .int .i64 a.seq, .int .i64 a.last, .string a.label, .slice V m d], .bool true])) := hide fun W hW V cv h => by
              refine (HSB.out V (M + 11) cv W (hT.below (th hb0 (th hb06 hW))) h (by omega)).mono ?_
              rintro e w' ⟨hb, V, m, d, rfl, _⟩
              exact ⟨hb, V, m, d, rfl⟩
            have hcur : Below W6.heap.size W6 W6 := Below.refl _ _
            clear hv6 p0 p1 p2 p3 p4

            go_upto_region 6 with fail
            rw [← hW6]
            clear hW6
            go_cut [14] (fun v wx => v = .bool true ∧ Below W6.heap.size W6 wx)
            case first =>
              go_region_held3 (fun W => W.cell? ⟨w.heap.size, 0, none⟩ = some (.int .i64 g.zones) ∧ W.cell? ⟨w.heap.size, 1, none⟩ = some (.int .i64 g.data) ∧ W.cell? ⟨w.heap.size, 2, none⟩ = some (.int .i64 g.spares) ∧ W.cell? ⟨w.heap.size, 3, none⟩ = some (.int .i64 g.slots) ∧ W.cell? ⟨w.heap.size, 4, none⟩ = some (.int .i64 g.anchors) ∧ W.cell? ⟨w.heap.size + 1, 0, none⟩ = some (.int .i64 a.gen) ∧ W.cell? ⟨w.heap.size + 1, 1, none⟩ = some (.int .i64 a.epoch) ∧ W.cell? ⟨w.heap.size + 1, 2, none⟩ = some (.int .i64 a.pos) ∧ W.cell? ⟨w.heap.size + 1, 3, none⟩ = some (.int .i64 a.seq) ∧ W.cell? ⟨w.heap.size + 1, 4, none⟩ = some (.int .i64 a.last) ∧ W.cell? ⟨w.heap.size + 1, 5, none⟩ = some (.string a.label) ∧ W.cell? ⟨w.heap.size + 1, 6, none⟩ = some (.slice A n c)) (first | with_reducible exact HS.out _ hcur | with_reducible exact HS.out _ hcur.drew | with_reducible exact HS.out _ (balB hcur _) | with_reducible exact HS.out _ (balB hcur _).drew | with_reducible exact HS.out _ (chain7 hcur (by first | omega | (simp only [World.size_alloc]; omega) | (simp <;> omega) | simp) _ _ _ _ _ _ _) | with_reducible exact HS.out _ (chain7 hcur (by first | omega | (simp only [World.size_alloc]; omega) | (simp <;> omega) | simp) _ _ _ _ _ _ _).drew) (first | (go_at_call 41; (with_reducible refine (HC1.out _ (by first | with_reducible exact hcur | with_reducible exact hcur.drew | with_reducible exact balB hcur _ | with_reducible exact (balB hcur _).drew)).mono ?_); rintro e w7 ⟨hz7, V7, c7, rfl, hs7⟩; (first | (have kb : H7 w7 _ := H7.below (by first | exact kb | exact kb.al _ | exact H7.new _ _ | exact (H7.new _ _).al _ | exact H7.dr (H7.new _ _) | exact H7.dr ((H7.new _ _).al _) | exact H7.newN (by simp) _) hz7; (try simp only [World.size_alloc] at kb)) | skip); have hcur := th (by first | with_reducible exact hcur | with_reducible exact hcur.drew | with_reducible exact balB hcur _ | with_reducible exact (balB hcur _).drew) hz7; have hsz7 := hcur.size) | (go_at_call 55; (with_reducible refine (HC2.out _ (by first | with_reducible exact hcur | with_reducible exact hcur.drew | with_reducible exact balB hcur _ | with_reducible exact (balB hcur _).drew) _ _ (by first | exact hs7 | exact hs7.on byteR_fine (alloc_below _ _) | exact Sl.drew byteR_fine (hs7.on byteR_fine (alloc_below _ _)))).mono ?_); rintro e w8 ⟨hz8, V8, c8, rfl, hs8⟩; (first | (have kb : H7 w8 _ := H7.below (by first | exact kb | exact kb.al _ | exact H7.new _ _ | exact (H7.new _ _).al _ | exact H7.dr (H7.new _ _) | exact H7.dr ((H7.new _ _).al _) | exact H7.newN (by simp) _) hz8; (try simp only [World.size_alloc] at kb)) | skip); have hcur := th (by first | with_reducible exact hcur | with_reducible exact hcur.drew | with_reducible exact balB hcur _ | with_reducible exact (balB hcur _).drew) hz8; have hsz8 := hcur.size) | (go_at_call 46; (with_reducible refine (HC3.out _ (by first | with_reducible exact hcur | with_reducible exact hcur.drew | with_reducible exact balB hcur _ | with_reducible exact (balB hcur _).drew) _ _ (by first | exact hs8 | exact hs8.on byteR_fine (alloc_below _ _) | exact Sl.drew byteR_fine (hs8.on byteR_fine (alloc_below _ _)))).mono ?_); rintro e w9 ⟨hz9, V9, m9, c9, rfl⟩; (first | (have kb : H7 w9 _ := H7.below (by first | exact kb | exact kb.al _ | exact H7.new _ _ | exact (H7.new _ _).al _ | exact H7.dr (H7.new _ _) | exact H7.dr ((H7.new _ _).al _) | exact H7.newN (by simp) _) hz9; (try simp only [World.size_alloc] at kb)) | skip); have hcur := th (by first | with_reducible exact hcur | with_reducible exact hcur.drew | with_reducible exact balB hcur _ | with_reducible exact (balB hcur _).drew) hz9; have hsz9 := hcur.size; (first | (have kb0 := kb.1 0 _ rfl; have kf0 := kb.2 0; have kb1 := kb.1 1 _ rfl; have kf1 := kb.2 1; have kb2 := kb.1 2 _ rfl; have kf2 := kb.2 2; have kb3 := kb.1 3 _ rfl; have kf3 := kb.2 3; have kb4 := kb.1 4 _ rfl; have kf4 := kb.2 4; have kb5 := kb.1 5 _ rfl; have kf5 := kb.2 5; have kb6 := kb.1 6 _ rfl; have kf6 := kb.2 6) | skip)))
              all_goals (go_wp2_with fail; go_meet; exact ⟨rfl, (by first | with_reducible exact hcur | with_reducible exact balB hcur _ | exact (chain7 hcur (by first | omega | (simp only [World.size_alloc]; omega) | (simp <;> omega) | simp) _ _ _ _ _ _ _) | exact (chain7 hcur (by first | omega | (simp only [World.size_alloc]; omega) | (simp <;> omega) | simp) _ _ _ _ _ _ _).drew)⟩)
            case rest =>
              obtain ⟨rfl, hb7⟩ := hcut
              have hb07 := th hb06 hb7
              obtain ⟨_, p0, p1, p2, p3, p4⟩ := HGB.out.on hb07
              go_wp2_with fail
              with_reducible refine (HSC.out _ _ _ _ (hT.below (th hb0 hb07)) (hx6'.on byteR_fine hb7) (by omega)).mono ?_
              rintro e w8 ⟨hb8, V8, m8, d8, rfl, _⟩
              obtain ⟨W9, hW9⟩ : ∃ W9, W9 = w8.alloc (.cells #[.int .i64 0, .int .i64 0, .int .i64 0, .int .i64 0, .int .i64 0, .string ⟨#[]⟩, .slice V8 m8 d8] 26) := ⟨_, rfl⟩
              have hE9 : Below w8.heap.size w8 W9 := by rw [hW9]; exact alloc_below _ _
              have hb79 := th hb8 hE9
              have hb69 := th hb7 hb79
              have hb09 := th hb06 hb69
              clear p0 p1 p2 p3 p4
              go_upto_region 8 with fail
              rw [← hW9]
              clear hW9
              have exy : ((x : Int) == (y : Int)) = false := by have := E1.out; simpa using this
              obtain ⟨q0, q1, q2, q3, q4, q5, q6⟩ := HSV.out.onB hN1 hb09
              go_wp2_with fail
              refine (wakes09 _ (hT.below (th hb0 hb09))).mono ?_
              rintro e w11 ⟨rfl, hb11⟩
              go_wp2_with fail
              go_ret
              exact ⟨rfl, th hb0 (th hb09 hb11)⟩
          · have HSA := hide fun (V : Option Addr) (m cv : Nat) (w : World) hT (h : Bs w V m cv B1) (hm : m ≤ 60000) => nsays_none (g := g) (err := 0) (addr := (y : Int)) (hsy1.trans (if_neg e1)) (w := w) hT h hm
            have HSB := hide fun (V : Option Addr) (m cv : Nat) (w : World) hT (h : Bs w V m cv B2) (hm : m ≤ 60000) => nsays_none (g := g) (err := 0) (addr := (x : Int)) (hsy2.trans (if_neg e2)) (w := w) hT h hm
            unfold Geo.v Anc.v noAnc at *
            dsimp only at HSA HSB HSC HKA HCE HRB
            have E1 := hide e1
            have E2 := hide e2
            clear hsy1 hsy2 his e2 HGQ HHS HCE0
            go_enter Tryd.func15, Tryd.ntmps15
            go_wp2_with fail
            rw [← hW0]
            clear p0 p1 p2 p3 p4
            clear q0 q1 q2 q3 q4 q5 q6
            refine (HHV.out _ ha0).mono ?_
            rintro e w1 ⟨rfl, hb1⟩
            obtain ⟨_, p0, p1, p2, p3, p4⟩ := HGB.out.on hb1
            go_wp2_with fail
            refine (HGE.out _).mono ?_
            rintro e w2 ⟨rfl, hb2⟩
            have hb02 := th hb1 hb2
            clear p0 p1 p2 p3 p4
            obtain ⟨_, p0, p1, p2, p3, p4⟩ := HGB.out.on hb02
            obtain ⟨q0, q1, q2, q3, q4, q5, q6⟩ := HSV.out.onB hN1 hb02
            go_wp2_with fail
            refine (HRA.out HGO.out HL.out _ (ha0.on homR_fine hb02)).mono ?_
            rintro e w3 ⟨rfl, hb3⟩
            have hb03 := th hb02 hb3
            clear p0 p1 p2 p3 p4
            clear q0 q1 q2 q3 q4 q5 q6
            obtain ⟨_, p0, p1, p2, p3, p4⟩ := HGB.out.on hb03
            clear e1
            go_upto_region 4 with fail
            clear p0 p1 p2 p3 p4
            obtain ⟨_, p0, p1, p2, p3, p4⟩ := HGB.out.on hb03
            obtain ⟨q0, q1, q2, q3, q4, q5, q6⟩ := HSV.out.onB hN1 hb03
            go_wp2_with fail
            with_reducible refine (HCE.out _ (hT.below (th hb0 hb03)) (ha0.on homR_fine hb03)).mono ?_
            rintro e w4 ⟨V4, c4, rfl, ho4, hb4⟩
            have hx4 := ho4.read byteR_fine
            have hb04 := th hb03 hb4
            clear p0 p1 p2 p3 p4
            clear q0 q1 q2 q3 q4 q5 q6
            obtain ⟨_, p0, p1, p2, p3, p4⟩ := HGB.out.on hb04
            go_wp2_with fail
            with_reducible refine (HSA.out _ _ _ _ (hT.below (th hb0 hb04)) hx4 (by omega)).mono ?_
            rintro e w5 ⟨hb5, V5, m5, d5, rfl, hs5⟩
            obtain ⟨W6, hW6⟩ : ∃ W6, W6 = w5.alloc (.cells #[.int .i64 0, .int .i64 0, .int .i64 0, .int .i64 0, .int .i64 0, .string ⟨#[]⟩, .slice V5 m5 d5] 26) := ⟨_, rfl⟩
            have hE6 : Below w5.heap.size w5 W6 := by rw [hW6]; exact alloc_below _ _
            have hv6 : Sev W6 w5.heap.size (.int .i64 0) (.int .i64 0) (.int .i64 0) (.int .i64 0) (.int .i64 0) (.string ⟨#[]⟩) (.slice V5 m5 d5) := by rw [hW6]; exact Sev.new rfl (Below.refl _ _)
            have hN6 : w5.heap.size < W6.heap.size := by rw [hW6]; simp
            have hb46 := th hb5 hE6
            have hb06 := th hb04 hb46
            have hx6' := hx4.on byteR_fine hb46
            have ha6 := ha0.on homR_fine hb06
            have hs6 := hs5.on homR_fine hE6
            have HV6 := hide hv6
            have HS : Hid (∀ W, Below W6.heap.size W6 W → W.cell? ⟨w.heap.size, 0, none⟩ = some (.int .i64 g.zones) ∧ W.cell? ⟨w.heap.size, 1, none⟩ = some (.int .i64 g.data) ∧ W.cell? ⟨w.heap.size, 2, none⟩ = some (.int .i64 g.spares) ∧ W.cell? ⟨w.heap.size, 3, none⟩ = some (.int .i64 g.slots) ∧ W.cell? ⟨w.heap.size, 4, none⟩ = some (.int .i64 g.anchors) ∧ W.cell? ⟨w.heap.size + 1, 0, none⟩ = some (.int .i64 a.gen) ∧ W.cell? ⟨w.heap.size + 1, 1, none⟩ = some (.int .i64 a.epoch) ∧ W.cell? ⟨w.heap.size + 1, 2, none⟩ = some (.int .i64 a.pos) ∧ W.cell? ⟨w.heap.size + 1, 3, none⟩ = some (.int .i64 a.seq) ∧ W.cell? ⟨w.heap.size + 1, 4, none⟩ = some (.int .i64 a.last) ∧ W.cell? ⟨w.heap.size + 1, 5, none⟩ = some (.string a.label) ∧ W.cell? ⟨w.heap.size + 1, 6, none⟩ = some (.slice A n c)) := hide fun W hW => by
              obtain ⟨_, p0, p1, p2, p3, p4⟩ := HGB.out.on (th hb06 hW)
              obtain ⟨q0, q1, q2, q3, q4, q5, q6⟩ := HSV.out.onB hN1 (th hb06 hW)
              exact ⟨p0, p1, p2, p3, p4, q0, q1, q2, q3, q4, q5, q6⟩
            have HC1 : Hid (∀ W, Below W6.heap.size W6 W → Calls Tryd.prog 41 #[.agg #[.int .i64 a.gen, .int .i64 a.epoch, .int .i64 a.pos, .int .i64 a.seq, .int .i64 a.last, .string a.label, .slice A n c]] W fun e w' => Below W.heap.size W w' ∧ ∃ V cv, e = .returned (.slice V M cv) ∧ Bs w' V M cv (ancL a)) := hide fun W hW => HRB.out W (ha6.on homR_fine hW)
            have HC2 : Hid (∀ W, Below W6.heap.size W6 W → ∀ V cv, Bs W V M cv (ancL a) → Calls Tryd.prog 55 #[.int .i64 (x : Int), .int .i64 (s : Int), .slice V M cv] W fun e w' => Below W.heap.size W w' ∧ ∃ V cv, e = .returned (.slice V (M + 11) cv) ∧ Bs w' V (M + 11) cv B2) := hide fun W hW V cv h => by
              refine (HRC.out V M cv W h (by omega)).mono ?_
              rintro e w' ⟨V, cv, rfl, ho, hb⟩
              exact ⟨hb, V, cv, rfl, ho.read byteR_fine⟩
            have HC3 : Hid (∀ W, Below W6.heap.size W6 W → ∀ V cv, Bs W V (M + 11) cv B2 → Calls Tryd.prog 46 #[.agg #[.int .i64 g.zones, .int .i64 g.data, .int .i64 g.spares, .int .i64 g.slots, .int .i64 g.anchors], .agg #[.int .i64 0, .slice V (M + 11) cv], .int .i64 (x : Int)] W fun e w' => Below W.heap.size W w' ∧ ∃ V m d, e = .returned (.tuple #[.agg #[.int .i64 0, .int .i64 0, .int .i64 0, .int .i64 0, .int .i64 0, .string ⟨#[]⟩, .slice V m d], .bool false])) := hide fun W hW V cv h => by
              refine (HSB.out V (M + 11) cv W (hT.below (th hb0 (th hb06 hW))) h (by omega)).mono ?_
              rintro e w' ⟨hb, V, m, d, rfl, _⟩
              exact ⟨hb, V, m, d, rfl⟩
            have hcur : Below W6.heap.size W6 W6 := Below.refl _ _
            clear hv6 p0 p1 p2 p3 p4

            go_upto_region 6 with fail
            rw [← hW6]
            clear hW6
            go_cut [14] (fun v wx => v = .bool false ∧ Below W6.heap.size W6 wx)
            case first =>
              go_region_held3 (fun W => W.cell? ⟨w.heap.size, 0, none⟩ = some (.int .i64 g.zones) ∧ W.cell? ⟨w.heap.size, 1, none⟩ = some (.int .i64 g.data) ∧ W.cell? ⟨w.heap.size, 2, none⟩ = some (.int .i64 g.spares) ∧ W.cell? ⟨w.heap.size, 3, none⟩ = some (.int .i64 g.slots) ∧ W.cell? ⟨w.heap.size, 4, none⟩ = some (.int .i64 g.anchors) ∧ W.cell? ⟨w.heap.size + 1, 0, none⟩ = some (.int .i64 a.gen) ∧ W.cell? ⟨w.heap.size + 1, 1, none⟩ = some (.int .i64 a.epoch) ∧ W.cell? ⟨w.heap.size + 1, 2, none⟩ = some (.int .i64 a.pos) ∧ W.cell? ⟨w.heap.size + 1, 3, none⟩ = some (.int .i64 a.seq) ∧ W.cell? ⟨w.heap.size + 1, 4, none⟩ = some (.int .i64 a.last) ∧ W.cell? ⟨w.heap.size + 1, 5, none⟩ = some (.string a.label) ∧ W.cell? ⟨w.heap.size + 1, 6, none⟩ = some (.slice A n c)) (first | with_reducible exact HS.out _ hcur | with_reducible exact HS.out _ hcur.drew | with_reducible exact HS.out _ (balB hcur _) | with_reducible exact HS.out _ (balB hcur _).drew | with_reducible exact HS.out _ (chain7 hcur (by first | omega | (simp only [World.size_alloc]; omega) | (simp <;> omega) | simp) _ _ _ _ _ _ _) | with_reducible exact HS.out _ (chain7 hcur (by first | omega | (simp only [World.size_alloc]; omega) | (simp <;> omega) | simp) _ _ _ _ _ _ _).drew) (first | (go_at_call 41; (with_reducible refine (HC1.out _ (by first | with_reducible exact hcur | with_reducible exact hcur.drew | with_reducible exact balB hcur _ | with_reducible exact (balB hcur _).drew)).mono ?_); rintro e w7 ⟨hz7, V7, c7, rfl, hs7⟩; (first | (have kb : H7 w7 _ := H7.below (by first | exact kb | exact kb.al _ | exact H7.new _ _ | exact (H7.new _ _).al _ | exact H7.dr (H7.new _ _) | exact H7.dr ((H7.new _ _).al _) | exact H7.newN (by simp) _) hz7; (try simp only [World.size_alloc] at kb)) | skip); have hcur := th (by first | with_reducible exact hcur | with_reducible exact hcur.drew | with_reducible exact balB hcur _ | with_reducible exact (balB hcur _).drew) hz7; have hsz7 := hcur.size) | (go_at_call 55; (with_reducible refine (HC2.out _ (by first | with_reducible exact hcur | with_reducible exact hcur.drew | with_reducible exact balB hcur _ | with_reducible exact (balB hcur _).drew) _ _ (by first | exact hs7 | exact hs7.on byteR_fine (alloc_below _ _) | exact Sl.drew byteR_fine (hs7.on byteR_fine (alloc_below _ _)))).mono ?_); rintro e w8 ⟨hz8, V8, c8, rfl, hs8⟩; (first | (have kb : H7 w8 _ := H7.below (by first | exact kb | exact kb.al _ | exact H7.new _ _ | exact (H7.new _ _).al _ | exact H7.dr (H7.new _ _) | exact H7.dr ((H7.new _ _).al _) | exact H7.newN (by simp) _) hz8; (try simp only [World.size_alloc] at kb)) | skip); have hcur := th (by first | with_reducible exact hcur | with_reducible exact hcur.drew | with_reducible exact balB hcur _ | with_reducible exact (balB hcur _).drew) hz8; have hsz8 := hcur.size) | (go_at_call 46; (with_reducible refine (HC3.out _ (by first | with_reducible exact hcur | with_reducible exact hcur.drew | with_reducible exact balB hcur _ | with_reducible exact (balB hcur _).drew) _ _ (by first | exact hs8 | exact hs8.on byteR_fine (alloc_below _ _) | exact Sl.drew byteR_fine (hs8.on byteR_fine (alloc_below _ _)))).mono ?_); rintro e w9 ⟨hz9, V9, m9, c9, rfl⟩; (first | (have kb : H7 w9 _ := H7.below (by first | exact kb | exact kb.al _ | exact H7.new _ _ | exact (H7.new _ _).al _ | exact H7.dr (H7.new _ _) | exact H7.dr ((H7.new _ _).al _) | exact H7.newN (by simp) _) hz9; (try simp only [World.size_alloc] at kb)) | skip); have hcur := th (by first | with_reducible exact hcur | with_reducible exact hcur.drew | with_reducible exact balB hcur _ | with_reducible exact (balB hcur _).drew) hz9; have hsz9 := hcur.size; (first | (have kb0 := kb.1 0 _ rfl; have kf0 := kb.2 0; have kb1 := kb.1 1 _ rfl; have kf1 := kb.2 1; have kb2 := kb.1 2 _ rfl; have kf2 := kb.2 2; have kb3 := kb.1 3 _ rfl; have kf3 := kb.2 3; have kb4 := kb.1 4 _ rfl; have kf4 := kb.2 4; have kb5 := kb.1 5 _ rfl; have kf5 := kb.2 5; have kb6 := kb.1 6 _ rfl; have kf6 := kb.2 6) | skip)))
              all_goals (go_wp2_with fail; go_meet; exact ⟨rfl, (by first | with_reducible exact hcur | with_reducible exact balB hcur _ | exact (chain7 hcur (by first | omega | (simp only [World.size_alloc]; omega) | (simp <;> omega) | simp) _ _ _ _ _ _ _) | exact (chain7 hcur (by first | omega | (simp only [World.size_alloc]; omega) | (simp <;> omega) | simp) _ _ _ _ _ _ _).drew)⟩)
            case rest =>
              obtain ⟨rfl, hb7⟩ := hcut
              have hb07 := th hb06 hb7
              obtain ⟨_, p0, p1, p2, p3, p4⟩ := HGB.out.on hb07
              go_wp2_with fail
              with_reducible refine (HSC.out _ _ _ _ (hT.below (th hb0 hb07)) (hx6'.on byteR_fine hb7) (by omega)).mono ?_
              rintro e w8 ⟨hb8, V8, m8, d8, rfl, _⟩
              obtain ⟨W9, hW9⟩ : ∃ W9, W9 = w8.alloc (.cells #[.int .i64 0, .int .i64 0, .int .i64 0, .int .i64 0, .int .i64 0, .string ⟨#[]⟩, .slice V8 m8 d8] 26) := ⟨_, rfl⟩
              have hE9 : Below w8.heap.size w8 W9 := by rw [hW9]; exact alloc_below _ _
              have hb79 := th hb8 hE9
              have hb69 := th hb7 hb79
              have hb09 := th hb06 hb69
              clear p0 p1 p2 p3 p4
              go_upto_region 8 with fail
              rw [← hW9]
              clear hW9
              have exy : ((x : Int) == (y : Int)) = false := by have := E1.out; simpa using this
              obtain ⟨q0, q1, q2, q3, q4, q5, q6⟩ := HSV.out.onB hN1 hb09
              go_wp2_with fail
              refine (wakes09 _ (hT.below (th hb0 hb09))).mono ?_
              rintro e w11 ⟨rfl, hb11⟩
              go_wp2_with fail
              go_ret
              exact ⟨rfl, th hb0 (th hb09 hb11)⟩

theorem law_newestMoved {w : World} (hT : Tabs w) {v0 v1 : Value} {g : Geo} {a : Anc} (hg : ArgR geoR w v0 g) (ha : ArgR ancR w v1 a) (i : Int) (hi : InI i) (k : Int) (hk : InI k) :
    Calls Tryd.prog 15 #[v0, v1, .int .i64 i, .int .i64 k] w fun e w' => e = .returned (.bool true) ∧ Below w.heap.size w w' := by
  obtain ⟨rfl, _⟩ := geo_form hg
  obtain ⟨A, n, c, rfl, hin, hs⟩ := anc_form ha
  exact walk_newestMoved hT g a A n c i k hs hin hi hk

end Go.Proofs.YtamgpbkakmffiaaDoor
