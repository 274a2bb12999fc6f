/-
  The walk of casematelaw08.AnchorBack.
-/
import Derived.Test.YtamgpbkakmffiaaDoorAncL1
import Derived.Test.YtamgpbkakmffiaaDoorAncA
import Derived.Deep.RegionHeld3
import Derived.Deep.CutRange
import Derived.Deep.DeepCutAuto
namespace Go.Proofs.YtamgpbkakmffiaaDoor
open Go.RowKit Go.Lib
set_option linter.unusedVariables false
set_option maxRecDepth 100000

/-- A cell that is held, and may be written. -/
def HlB (w : World) (N : Nat) (v : Value) : Prop := w.cell? ⟨N, 0, none⟩ = some v ∧ w.frozen? ⟨N, 0, none⟩ = false
theorem HlB.new (w : World) (v : Value) (e : TypeId) : HlB (w.alloc (.cells #[v] e)) w.heap.size v := ⟨box_cell (Below.refl _ _) 0 _ rfl, box_free (Below.refl _ _) 0⟩
theorem HlB.newN {w : World} {N : Nat} (hN : w.heap.size = N) (v : Value) (e : TypeId) : HlB (w.alloc (.cells #[v] e)) N v := by subst hN; exact HlB.new w v e
theorem HlB.below {w w' : World} {N : Nat} {v : Value} (h : HlB w N v) (hb : Below w.heap.size w w') : HlB w' N v :=
  ⟨(hb.cell (World.block_lt_of_cell? w _ h.1)).trans h.1, (hb.frozen (World.block_lt_of_cell? w _ h.1)).trans h.2⟩
theorem HlB.al {w : World} {N : Nat} {v : Value} (h : HlB w N v) (o : Obj) : HlB (w.alloc o) N v := h.below (alloc_below _ _)
theorem HlB.dr {w : World} {N : Nat} {v : Value} (h : HlB w N v) : HlB w.drew N v := h
theorem lit_ofB {w : World} {N : Nat} (h : HlB w N (.int .u8 0)) : Bs w (some ⟨N, 0, none⟩) 1 1 [0] := by
  refine ⟨rfl, Nat.le_refl _, fun _ => ⟨_, rfl, World.block_lt_of_cell? w _ h.1, fun i x hi => ⟨[.int .u8 0], ?_, ?_⟩⟩⟩
  · obtain rfl : i = 0 := by have := (List.getElem?_eq_some_iff.1 hi).1; simp at this; omega
    simp at hi
    subst hi
    rfl
  · obtain rfl : i = 0 := by have := (List.getElem?_eq_some_iff.1 hi).1; simp at this; omega
    intro j u hu
    obtain rfl : j = 0 := by have := (List.getElem?_eq_some_iff.1 hu).1; simp at this; omega
    simp at hu
    subst hu
    rw [Nat.zero_mul, add_zero', add_zero']
    exact h.1
theorem balB {w W : World} (h : Below w.heap.size w W) (o : Obj) : Below w.heap.size w (W.alloc o) := h.alloc h.size o
/-- A box of no anchor, that may be written. -/
def H7 (w : World) (N : Nat) : Prop := (∀ (k : Nat) (u : Value), (#[.int .i64 0, .int .i64 0, .int .i64 0, .int .i64 0, .int .i64 0, .string ⟨#[]⟩, .slice none 0 0] : Array Value)[k]? = some u → w.cell? ⟨N, k, none⟩ = some u) ∧ ∀ k, w.frozen? ⟨N, k, none⟩ = false
theorem H7.new (w : World) (e : TypeId) : H7 (w.alloc (.cells #[.int .i64 0, .int .i64 0, .int .i64 0, .int .i64 0, .int .i64 0, .string ⟨#[]⟩, .slice none 0 0] e)) w.heap.size := ⟨fun k u h => box_cell (Below.refl _ _) k u h, fun k => box_free (Below.refl _ _) k⟩
theorem H7.newN {w : World} {N : Nat} (hN : w.heap.size = N) (e : TypeId) : H7 (w.alloc (.cells #[.int .i64 0, .int .i64 0, .int .i64 0, .int .i64 0, .int .i64 0, .string ⟨#[]⟩, .slice none 0 0] e)) N := by subst hN; exact H7.new w e
theorem H7.lt {w : World} {N : Nat} (h : H7 w N) : N < w.heap.size := World.block_lt_of_cell? w _ (h.1 0 _ rfl)
theorem H7.below {w w' : World} {N : Nat} (h : H7 w N) (hb : Below w.heap.size w w') : H7 w' N :=
  ⟨fun k u hk => (hb.cell h.lt).trans (h.1 k u hk), fun k => (hb.frozen h.lt).trans (h.2 k)⟩
theorem H7.al {w : World} {N : Nat} (h : H7 w N) (o : Obj) : H7 (w.alloc o) N := h.below (alloc_below _ _)
theorem H7.dr {w : World} {N : Nat} (h : H7 w N) : H7 w.drew N := h
theorem H7.grown {w w' : World} {N : Nat} {rw : Option Nat} (h : H7 w N) (hg : w.grownBy w' rw) (hne : rw ≠ some N) : H7 w' N := by
  have hb := hg.block N h.lt (fun e => hne e.symm)
  refine ⟨fun k u hk => ?_, fun k => ?_⟩
  · rw [← h.1 k u hk]
    exact World.cell?_of_block (a := ⟨N, k, none⟩) hb
  · have h2 := h.2 k
    unfold World.frozen? at h2 ⊢
    dsimp only at h2 ⊢
    rw [hb]
    exact h2
theorem um_rawB {i : Int} {n k : Nat} (h : um i n = (k : Int)) (hn : 1 ≤ n) (hn' : n ≤ 4294967296) : (IntKind.u64.wrap i).tmod (n : Int) = (k : Int) ∧ IntKind.u64.wrap i % (n : Int) = (k : Int) := by
  have h0 : 0 ≤ IntKind.u64.wrap i := by rw [IntKind.wrap_u64]; exact Int.emod_nonneg _ (by omega)
  have h1 : (IntKind.u64.wrap i).tmod (n : Int) = IntKind.u64.wrap i % (n : Int) := Int.tmod_eq_emod_of_nonneg h0
  have h2 : 0 ≤ IntKind.u64.wrap i % (n : Int) := Int.emod_nonneg _ (by omega)
  have h3 : IntKind.u64.wrap i % (n : Int) < n := Int.emod_lt_of_pos _ (by omega)
  unfold um at h
  rw [h1, IntWalk.wrap64_in _ ⟨by omega, by omega⟩] at h
  exact ⟨by rw [h1, h], h⟩
theorem undrewB {w w' : World} (h : Below w.drew.heap.size w.drew w') : Below w.heap.size w w' := th (Below.refl _ _).drew h
theorem chain7 {B : Nat} {w w' : World} {N : Nat} (h : Below B w w') (hN : B ≤ N) (v0 v1 v2 v3 v4 v5 v6 : Value) : Below B w (((((((w'.setCell ⟨N, 0, none⟩ v0).setCell ⟨N, 1, none⟩ v1).setCell ⟨N, 2, none⟩ v2).setCell ⟨N, 3, none⟩ v3).setCell ⟨N, 4, none⟩ v4).setCell ⟨N, 5, none⟩ v5).setCell ⟨N, 6, none⟩ v6) := put7_below h hN v0 v1 v2 v3 v4 v5 v6
theorem abytes_no {g : Geo} {a : Anc} (hno : ¬ (GeoOk g ∧ AncOk g a)) {A : Option Addr} {n c : Nat} {w : World} (hT : Tabs w) (ha : Sl homR 3 w (Old w) A n c a.homes) (hin : a.In) (hl : Light a) :
    Calls Tryd.prog 34 #[g.v, a.v (.slice A n c)] w fun e w' => Below w.heap.size w w' ∧ ∃ V cv, e = .returned (.tuple #[.slice V 0 cv, .int .i64 1]) := by
  refine (abytes_any g a A n c w hT ha hin hl).mono ?_
  rintro e w' ⟨hb, V, m, cv, l, err, rfl, ho2, ⟨_, rfl, rfl⟩ | ⟨h, _⟩⟩
  · obtain rfl : m = 0 := ho2.len.symm
    exact ⟨hb, V, cv, rfl⟩
  · exact absurd h hno
theorem aread_bad {g : Geo} {l : List UInt8} (hG : GeoOk g) (hl : ∀ b, ancOf g.zones.toNat g.data.toNat l = some b → ¬ AncOk g b) {A : Option Addr} {n c : Nat} {w : World} (hT : Tabs w) (hb : Bs w A n c l) (hn : n ≤ 60000) :
    Calls Tryd.prog 35 #[g.v, .slice A n c] w fun e w' => Below w.heap.size w w' ∧ ∃ V cv, e = .returned (.tuple #[.agg #[.int .i64 0, .int .i64 0, .int .i64 0, .int .i64 0, .int .i64 0, .string ⟨#[]⟩, .slice V 0 cv], .int .i64 4]) := by
  refine (aread_any g A n c _ w hT hb hn).mono ?_
  rintro e w' ⟨hbl, r, v, err, rfl, ⟨V, m, cv, rfl, hsl⟩, ⟨h1, _⟩ | ⟨_, h1, h2, rfl⟩ | ⟨_, h1, rfl, rfl⟩⟩
  · exact absurd hG h1
  · exact absurd h2 (hl _ h1)
  · obtain rfl : m = 0 := hsl.len.symm
    exact ⟨hbl, V, cv, rfl⟩

set_option maxHeartbeats 8000000 in
theorem walk_anchorBack {w : World} (hT : Tabs w) (g : Geo) (a b : Anc) (A B : Option Addr) (n c m d : Nat) (cut : Int) (ha : Sl homR 3 w (Old w) A n c a.homes) (hb : Sl homR 3 w (Old w) B m d b.homes) (hina : a.In) (hinb : b.In) :
    Calls Tryd.prog 7 #[g.v, a.v (.slice A n c), b.v (.slice B m d), .int .i64 cut] w fun e w' => e = .returned (.bool true) ∧ Below w.heap.size w w' := by
  have hla := ha.len
  have hlb := hb.len
  have HHA := hide fun w h => heavya_any a A n c w h
  have HHB := hide fun w h => heavya_any b B m d w h
  have HLIA := hide fun (h : heavyA a = false) => heavyA_light h
  have HLIB := hide fun (h : heavyA b = false) => heavyA_light h
  have HYA0 := hide fun hG ho hl w hT h => abytes_yes (g := g) (a := a) hG ho (A := A) (n := n) (c := c) (w := w) hT h hina hl
  have HYB0 := hide fun hG ho hl w hT h => abytes_yes (g := g) (a := b) hG ho (A := B) (n := m) (c := d) (w := w) hT h hinb hl
  have HNA0 := hide fun hno hl w hT h => abytes_no (g := g) (a := a) hno (A := A) (n := n) (c := c) (w := w) hT h hina hl
  have HNB0 := hide fun hno hl w hT h => abytes_no (g := g) (a := b) hno (A := B) (n := m) (c := d) (w := w) hT h hinb hl
  have HRD0 := hide fun hG ho V cv w hT h hn => aread_yes (g := g) (a := a) hG ho (A := V) (n := (ancL a).length) (c := cv) (w := w) hT h hn
  have HBD0 := hide fun (hG : GeoOk g) (ho : AncOk g a) k (hk : k < (ancL a).length) V cv w hT h => aread_bad (g := g) (l := (ancL a).take k) hG (anc_short hG ho hk) (A := V) (n := k) (c := cv) (w := w) hT h (by have := (anc_room hG ho).2; omega)
  have HBL0 := hide fun (hG : GeoOk g) (ho : AncOk g a) V cv w hT h => aread_bad (g := g) (l := ancL a ++ [0]) hG (anc_long hG ho (by simp)) (A := V) (n := (ancL a).length + 1) (c := cv) (w := w) hT h (by have := (anc_room hG ho).2; omega)
  have HKA0 := hide fun V cv w h1 h2 hn hp => keepa_any a a V A n cv n c w h1 h2 hn hp
  have HKB0 := hide fun w h1 h2 hn hp => keepa_any a b A B n c m d w h1 h2 hn hp
  have HHLA := hide hla
  obtain ⟨Ha, hHa⟩ : ∃ H, H = heavyA a := ⟨_, rfl⟩
  obtain ⟨Hb, hHb⟩ : ∃ H, H = heavyA b := ⟨_, rfl⟩
  rw [← hHa] at HHA HLIA
  rw [← hHb] at HHB HLIB
  clear hHa hHb hla hlb
  obtain ⟨W0, hW0⟩ : ∃ W0, W0 = ((w.alloc (.cells #[.int .i64 g.zones, .int .i64 g.data, .int .i64 g.spares, .int .i64 g.slots, .int .i64 g.anchors] 23)).alloc (.cells #[.int .i64 a.gen, .int .i64 a.epoch, .int .i64 a.pos, .int .i64 a.seq, .int .i64 a.last, .string a.label, .slice A n c] 26)).alloc (.cells #[.int .i64 b.gen, .int .i64 b.epoch, .int .i64 b.pos, .int .i64 b.seq, .int .i64 b.last, .string b.label, .slice B m d] 26) := ⟨_, rfl⟩
  have hb0 : Below w.heap.size w W0 := by rw [hW0]; exact ((alloc_below w _).alloc (by simp) _).alloc (by simp; omega) _
  have ha0 := ha.on homR_fine hb0
  have hbb0 := hb.on homR_fine hb0
  have hgb : GeoAt W0 w.heap.size g := by rw [hW0]; exact (GeoAt.new w g 23).on ((alloc_below _ _).alloc (by simp) _)
  have hsa : Sev W0 (w.heap.size + 1) (.int .i64 a.gen) (.int .i64 a.epoch) (.int .i64 a.pos) (.int .i64 a.seq) (.int .i64 a.last) (.string a.label) (.slice A n c) := by rw [hW0]; exact (Sev.new (by simp) (Below.refl _ _)).on (by simp) (alloc_below _ _)
  have hsb : Sev W0 (w.heap.size + 1 + 1) (.int .i64 b.gen) (.int .i64 b.epoch) (.int .i64 b.pos) (.int .i64 b.seq) (.int .i64 b.last) (.string b.label) (.slice B m d) := by rw [hW0]; exact Sev.new (by simp) (Below.refl _ _)
  have hN1 : w.heap.size + 1 < W0.heap.size := by rw [hW0]; simp
  have hN2 : w.heap.size + 1 + 1 < W0.heap.size := by rw [hW0]; simp
  have HSA := hide hsa
  have HSB := hide hsb
  have HGB := hide hgb
  have hpq := hgb.2
  rw [hW0] at hpq hsa hsb
  obtain ⟨p0, p1, p2, p3, p4⟩ := hpq
  obtain ⟨q0, q1, q2, q3, q4, q5, q6⟩ := hsa
  obtain ⟨r0, r1, r2, r3, r4, r5, r6⟩ := hsb
  clear hgb
  unfold Geo.v Anc.v at *
  cases Ha with
  | true =>
    go_enter Tryd.func7, Tryd.ntmps7
    go_wp2_with fail
    rw [← hW0]
    clear p0 p1 p2 p3 p4 q0 q1 q2 q3 q4 q5 q6 r0 r1 r2 r3 r4 r5 r6 hW0
    refine (HHA.out _ ha0).mono ?_
    rintro e w1 ⟨rfl, hb1⟩
    go_wp2_with fail
    go_ret
    exact ⟨rfl, th hb0 hb1⟩
  | false =>
    cases Hb with
    | true =>
      go_enter Tryd.func7, Tryd.ntmps7
      go_wp2_with fail
      rw [← hW0]
      clear p0 p1 p2 p3 p4 q0 q1 q2 q3 q4 q5 q6 r0 r1 r2 r3 r4 r5 r6 hW0
      refine (HHA.out _ ha0).mono ?_
      rintro e w1 ⟨rfl, hb1⟩
      obtain ⟨r0, r1, r2, r3, r4, r5, r6⟩ := HSB.out.onB hN2 hb1
      go_wp2_with fail
      refine (HHB.out _ (hbb0.on homR_fine hb1)).mono ?_
      rintro e w2 ⟨rfl, hb2⟩
      have hb02 := th hb1 hb2
      go_wp2_with fail
      go_ret
      exact ⟨rfl, th hb0 hb02⟩
    | false =>
      have HLA := hide (HLIA.out rfl)
      have HLB := hide (HLIB.out rfl)
      by_cases hoa : GeoOk g ∧ AncOk g a
      · have HYA := hide (HYA0.out hoa.1 hoa.2 HLA.out)
        by_cases hob : GeoOk g ∧ AncOk g b
        · have HYB := hide (HYB0.out hob.1 hob.2 HLB.out)
          have HRD := hide (HRD0.out hoa.1 hoa.2)
          have HBAD1 := hide (HBD0.out hoa.1 hoa.2)
          have HBAD2 := hide (HBL0.out hoa.1 hoa.2)
          have hrm := anc_room hoa.1 hoa.2
          have hn6 : n ≤ 65536 := by have := HLA.out.2.1; have := HHLA.out; omega
          have hp6 : ∀ x ∈ a.homes, x.places.length ≤ 65536 := fun x hx => by have := HLA.out.2.2 x hx; omega
          have HKA := hide (fun V cv w h1 h2 => HKA0.out V cv w h1 h2 hn6 hp6)
          have HKB := hide (fun w h1 h2 => HKB0.out w h1 h2 hn6 hp6)
          rw [decide_eq_true (rfl : a = a)] at HKA
          obtain ⟨D, hD⟩ : ∃ D, D = decide (a = b) := ⟨_, rfl⟩
          rw [← hD] at HKB
          have hDL : decide (ancL a = ancL b) = D := by
            rw [hD]
            by_cases e : a = b
            · rw [decide_eq_true e, decide_eq_true (by rw [e])]
            · rw [decide_eq_false e, decide_eq_false fun h => e (ancL_inj hoa.1 hoa.2 hob.2 h)]
          obtain ⟨LA, hLA⟩ : ∃ LA, LA = (ancL a).length := ⟨_, rfl⟩
          obtain ⟨LB, hLB⟩ : ∃ LB, LB = (ancL b).length := ⟨_, rfl⟩
          rw [← hLA] at HYA HRD HBAD1 HBAD2 hrm
          rw [← hLB] at HYB
          rw [HHLA.out] at HRD
          have HDL := hide hDL
          have HLEQ := hide hLA
          have HLA1 := hide hrm.1
          have HLA2 := hide hrm.2
          have HLA6 : Hid (LA ≤ 60000) := hide (by omega)
          clear hoa hob hrm hn6 hp6 hDL hD hLA hLB
          go_enter Tryd.func7, Tryd.ntmps7
          go_wp2_with fail
          rw [← hW0]
          clear p0 p1 p2 p3 p4 q0 q1 q2 q3 q4 q5 q6 r0 r1 r2 r3 r4 r5 r6 hW0
          refine (HHA.out _ ha0).mono ?_
          rintro e w1 ⟨rfl, hb1⟩
          obtain ⟨r0, r1, r2, r3, r4, r5, r6⟩ := HSB.out.onB hN2 hb1
          go_wp2_with fail
          refine (HHB.out _ (hbb0.on homR_fine hb1)).mono ?_
          rintro e w2 ⟨rfl, hb2⟩
          have hb02 := th hb1 hb2
          obtain ⟨_, p0, p1, p2, p3, p4⟩ := HGB.out.on hb02
          obtain ⟨q0, q1, q2, q3, q4, q5, q6⟩ := HSA.out.onB hN1 hb02
          go_wp2_with fail
          refine (HYA.out _ (hT.below (th hb0 hb02)) (ha0.on homR_fine hb02)).mono ?_
          rintro e w3 ⟨hb3, V3, c3, rfl, ho3⟩
          have hb03 := th hb02 hb3
          obtain ⟨_, p0, p1, p2, p3, p4⟩ := HGB.out.on hb03
          obtain ⟨r0, r1, r2, r3, r4, r5, r6⟩ := HSB.out.onB hN2 hb03
          go_wp2_with fail
          refine (HYB.out _ (hT.below (th hb0 hb03)) (hbb0.on homR_fine hb03)).mono ?_
          rintro e w4 ⟨hb4, V4, c4, rfl, ho4⟩
          have hb04 := th hb03 hb4
          have hx4 := (ho3.read byteR_fine).on byteR_fine hb4
          have hy4 := ho4.read byteR_fine
          obtain ⟨_, p0, p1, p2, p3, p4⟩ := HGB.out.on hb04
          go_wp2_with fail
          refine (HRD.out _ _ _ (hT.below (th hb0 hb04)) hx4 HLA6.out).mono ?_
          rintro e w5 ⟨hb5, V5, c5, rfl, hs5⟩
          obtain ⟨W6, hW6⟩ : ∃ W6, W6 = w5.alloc (.cells #[.int .i64 a.gen, .int .i64 a.epoch, .int .i64 a.pos, .int .i64 a.seq, .int .i64 a.last, .string a.label, .slice V5 n c5] 26) := ⟨_, rfl⟩
          have hE6 : Below w5.heap.size w5 W6 := by rw [hW6]; exact alloc_below _ _
          have hb46 := th hb5 hE6
          have hb06 := th hb04 hb46
          have hN6 : w5.heap.size < W6.heap.size := by rw [hW6]; simp
          have hv6 : Sev W6 w5.heap.size (.int .i64 a.gen) (.int .i64 a.epoch) (.int .i64 a.pos) (.int .i64 a.seq) (.int .i64 a.last) (.string a.label) (.slice V5 n c5) := by rw [hW6]; exact Sev.new rfl (Below.refl _ _)
          have HV6 := hide hv6
          have hc6 := (hs5.old_ homR_fine).on homR_fine hE6
          have ha6 := ha0.on homR_fine hb06
          have hbb6 := hbb0.on homR_fine hb06
          have hx6 := hx4.on byteR_fine hb46
          have hy6 := hy4.on byteR_fine hb46
          have HT1 : Hid (∀ W, Below W6.heap.size W6 W → Calls Tryd.prog 22 #[.agg #[.int .i64 a.gen, .int .i64 a.epoch, .int .i64 a.pos, .int .i64 a.seq, .int .i64 a.last, .string a.label, .slice V5 n c5], .agg #[.int .i64 a.gen, .int .i64 a.epoch, .int .i64 a.pos, .int .i64 a.seq, .int .i64 a.last, .string a.label, .slice A n c]] W fun e w' => e = .returned (.bool true) ∧ Below W.heap.size W w') := hide fun W hW => by
            have h := HKA.out V5 c5 W (hc6.on homR_fine hW) (ha6.on homR_fine hW)
            exact h
          have HT2 : Hid (∀ W, Below W6.heap.size W6 W → Calls Tryd.prog 22 #[.agg #[.int .i64 a.gen, .int .i64 a.epoch, .int .i64 a.pos, .int .i64 a.seq, .int .i64 a.last, .string a.label, .slice A n c], .agg #[.int .i64 b.gen, .int .i64 b.epoch, .int .i64 b.pos, .int .i64 b.seq, .int .i64 b.last, .string b.label, .slice B m d]] W fun e w' => e = .returned (.bool D) ∧ Below W.heap.size W w') := hide fun W hW =>
            HKB.out W (ha6.on homR_fine hW) (hbb6.on homR_fine hW)
          have HBYT : Hid (∀ W, Below W6.heap.size W6 W → Calls Tryd.prog 40 #[.slice V3 LA c3, .slice V4 LB c4] W fun e w' => e = .returned (.bool D) ∧ Below W.heap.size W w') := hide fun W hW =>
            (bytes_any V3 V4 LA c3 LB c4 (ancL a) (ancL b) W (hx6.on byteR_fine hW) (hy6.on byteR_fine hW) (by have := HLA6.out; omega)).mono fun e w' ⟨he, q, hq⟩ => ⟨by rw [he, HDL.out], by rw [hq]; exact drewN_below _ q⟩
          have HS : Hid (∀ W, Below W6.heap.size W6 W → W.cell? ⟨w5.heap.size, 0, none⟩ = some (.int .i64 a.gen) ∧ W.cell? ⟨w5.heap.size, 1, none⟩ = some (.int .i64 a.epoch) ∧ W.cell? ⟨w5.heap.size, 2, none⟩ = some (.int .i64 a.pos) ∧ W.cell? ⟨w5.heap.size, 3, none⟩ = some (.int .i64 a.seq) ∧ W.cell? ⟨w5.heap.size, 4, none⟩ = some (.int .i64 a.last) ∧ W.cell? ⟨w5.heap.size, 5, none⟩ = some (.string a.label) ∧ W.cell? ⟨w5.heap.size, 6, none⟩ = some (.slice V5 n c5) ∧ W.cell? ⟨w.heap.size + 1, 0, none⟩ = some (.int .i64 a.gen) ∧ W.cell? ⟨w.heap.size + 1, 1, none⟩ = some (.int .i64 a.epoch) ∧ W.cell? ⟨w.heap.size + 1, 2, none⟩ = some (.int .i64 a.pos) ∧ W.cell? ⟨w.heap.size + 1, 3, none⟩ = some (.int .i64 a.seq) ∧ W.cell? ⟨w.heap.size + 1, 4, none⟩ = some (.int .i64 a.last) ∧ W.cell? ⟨w.heap.size + 1, 5, none⟩ = some (.string a.label) ∧ W.cell? ⟨w.heap.size + 1, 6, none⟩ = some (.slice A n c) ∧ W.cell? ⟨w.heap.size + 1 + 1, 0, none⟩ = some (.int .i64 b.gen) ∧ W.cell? ⟨w.heap.size + 1 + 1, 1, none⟩ = some (.int .i64 b.epoch) ∧ W.cell? ⟨w.heap.size + 1 + 1, 2, none⟩ = some (.int .i64 b.pos) ∧ W.cell? ⟨w.heap.size + 1 + 1, 3, none⟩ = some (.int .i64 b.seq) ∧ W.cell? ⟨w.heap.size + 1 + 1, 4, none⟩ = some (.int .i64 b.last) ∧ W.cell? ⟨w.heap.size + 1 + 1, 5, none⟩ = some (.string b.label) ∧ W.cell? ⟨w.heap.size + 1 + 1, 6, none⟩ = some (.slice B m d)) := hide fun W hW => by
            obtain ⟨s0, s1, s2, s3, s4, s5, s6⟩ := HV6.out.on hN6 hW
            obtain ⟨t0, t1, t2, t3, t4, t5, t6⟩ := HSA.out.onB hN1 (th hb06 hW)
            obtain ⟨v0, v1, v2, v3, v4, v5, v6⟩ := HSB.out.onB hN2 (th hb06 hW)
            exact ⟨s0, s1, s2, s3, s4, s5, s6, t0, t1, t2, t3, t4, t5, t6, v0, v1, v2, v3, v4, v5, v6⟩
          have eD : (D != D) = false := by simp
          have n0 : ((LA : Int) == 0) = false := by have := HLA1.out; simp; omega
          have n96 : decide (96 < (LA : Int)) = false := by have := HLA2.out; simp; omega
          have hcur : Below W6.heap.size W6 W6 := Below.refl _ _
          clear hv6
          go_upto_region 8 with fail
          rw [← hW6]
          clear hW6 p0 p1 p2 p3 p4
          go_cut [94] (fun v wx => v = .bool false ∧ Below W6.heap.size W6 wx)
          case first =>
            go_region_held3 (fun W => W.cell? ⟨w5.heap.size, 0, none⟩ = some (.int .i64 a.gen) ∧ W.cell? ⟨w5.heap.size, 1, none⟩ = some (.int .i64 a.epoch) ∧ W.cell? ⟨w5.heap.size, 2, none⟩ = some (.int .i64 a.pos) ∧ W.cell? ⟨w5.heap.size, 3, none⟩ = some (.int .i64 a.seq) ∧ W.cell? ⟨w5.heap.size, 4, none⟩ = some (.int .i64 a.last) ∧ W.cell? ⟨w5.heap.size, 5, none⟩ = some (.string a.label) ∧ W.cell? ⟨w5.heap.size, 6, none⟩ = some (.slice V5 n c5) ∧ W.cell? ⟨w.heap.size + 1, 0, none⟩ = some (.int .i64 a.gen) ∧ W.cell? ⟨w.heap.size + 1, 1, none⟩ = some (.int .i64 a.epoch) ∧ W.cell? ⟨w.heap.size + 1, 2, none⟩ = some (.int .i64 a.pos) ∧ W.cell? ⟨w.heap.size + 1, 3, none⟩ = some (.int .i64 a.seq) ∧ W.cell? ⟨w.heap.size + 1, 4, none⟩ = some (.int .i64 a.last) ∧ W.cell? ⟨w.heap.size + 1, 5, none⟩ = some (.string a.label) ∧ W.cell? ⟨w.heap.size + 1, 6, none⟩ = some (.slice A n c) ∧ W.cell? ⟨w.heap.size + 1 + 1, 0, none⟩ = some (.int .i64 b.gen) ∧ W.cell? ⟨w.heap.size + 1 + 1, 1, none⟩ = some (.int .i64 b.epoch) ∧ W.cell? ⟨w.heap.size + 1 + 1, 2, none⟩ = some (.int .i64 b.pos) ∧ W.cell? ⟨w.heap.size + 1 + 1, 3, none⟩ = some (.int .i64 b.seq) ∧ W.cell? ⟨w.heap.size + 1 + 1, 4, none⟩ = some (.int .i64 b.last) ∧ W.cell? ⟨w.heap.size + 1 + 1, 5, none⟩ = some (.string b.label) ∧ W.cell? ⟨w.heap.size + 1 + 1, 6, none⟩ = some (.slice B m d)) (first | exact HS.out _ hcur | exact HS.out _ hcur.drew) (first
              | (go_at_call 22; ((with_reducible refine (HT1.out _ (by first | exact hcur | exact hcur.drew)).mono ?_)); rintro e wA ⟨rfl, hzA⟩; have hcur := th (by first | exact hcur | exact hcur.drew) hzA)
              | (go_at_call 22; ((with_reducible refine (HT2.out _ (by first | exact hcur | exact hcur.drew)).mono ?_)); rintro e wB ⟨rfl, hzB⟩; have hcur := th (by first | exact hcur | exact hcur.drew) hzB)
              | (go_at_call 40; ((with_reducible refine (HBYT.out _ (by first | exact hcur | exact hcur.drew)).mono ?_)); rintro e wC ⟨rfl, hzC⟩; have hcur := th (by first | exact hcur | exact hcur.drew) hzC))
            all_goals (go_wp2_with fail; go_meet; exact ⟨rfl, by first | exact hcur | exact hcur.drew⟩)
          case rest =>
            obtain ⟨rfl, hb7⟩ := hcut
            have hb07 := th hb06 hb7
            obtain ⟨k, hke, hk⟩ := um_is cut LA (by have := HLA1.out; omega) (by have := HLA2.out; omega)
            obtain ⟨hke1, hke2⟩ := um_rawB hke (by have := HLA1.out; omega) (by have := HLA2.out; omega)
            have hw1 : IntKind.i64.wrap (k : Int) = (k : Int) := IntWalk.i64_in _ (by have := HLA2.out; omega)
            have hw2 : IntKind.u64.wrap (k : Int) = (k : Int) := by rw [IntKind.wrap_u64]; have := HLA2.out; omega
            have hx7 := hx6.on byteR_fine hb7
            have hcap := hx7.cap
            have HRB : Hid (∀ W, Below wc.heap.size wc W → Calls Tryd.prog 35 #[.agg #[.int .i64 g.zones, .int .i64 g.data, .int .i64 g.spares, .int .i64 g.slots, .int .i64 g.anchors], .slice V3 k c3] W fun e w' => Below W.heap.size W w' ∧ ∃ V cv, e = .returned (.tuple #[.agg #[.int .i64 0, .int .i64 0, .int .i64 0, .int .i64 0, .int .i64 0, .string ⟨#[]⟩, .slice V 0 cv], .int .i64 4])) := hide fun W hW =>
              HBAD1.out k hk V3 c3 W (hT.below (th hb0 (th hb07 hW))) ((hx7.on byteR_fine hW).init_ (by omega))
            have HGV : Hid (∀ W, Below wc.heap.size wc W → W.cell? ⟨w.heap.size, 0, none⟩ = some (.int .i64 g.zones) ∧ W.cell? ⟨w.heap.size, 1, none⟩ = some (.int .i64 g.data) ∧ W.cell? ⟨w.heap.size, 2, none⟩ = some (.int .i64 g.spares) ∧ W.cell? ⟨w.heap.size, 3, none⟩ = some (.int .i64 g.slots) ∧ W.cell? ⟨w.heap.size, 4, none⟩ = some (.int .i64 g.anchors)) := hide fun W hW => (HGB.out.on (th hb07 hW)).2
            have hd0 : Below wc.heap.size wc wc.drew := (Below.refl _ _).drew
            have hd00 : Below wc.heap.size wc wc := Below.refl _ _
            have hd1 : Below wc.heap.size wc (wc.alloc (.cells #[.int .i64 0, .int .i64 0, .int .i64 0, .int .i64 0, .int .i64 0, .string ⟨#[]⟩, .slice none 0 0] 26)).drew := (alloc_below wc _).drew
            have hd2 : Below wc.heap.size wc (wc.alloc (.cells #[.int .i64 0, .int .i64 0, .int .i64 0, .int .i64 0, .int .i64 0, .string ⟨#[]⟩, .slice none 0 0] 26)) := (alloc_below wc _)
            have hkc : k ≤ c3 := by omega
            have hwN : IntKind.u64.wrap (LA : Int) = (LA : Int) := by rw [IntKind.wrap_u64]; have := HLA2.out; omega
            have hzN : ¬ (LA : Int) = 0 := by have := HLA1.out; omega
            have hzN' : ¬ LA = 0 := by have := HLA1.out; omega
            have iN0 : (0 : Int) ≤ (LA : Int) := by omega
            have ik0 : (0 : Int) ≤ (k : Int) := by omega
            have ik1 : (k : Int) ≤ (c3 : Int) := by omega
            clear hke
            go_upto_region 10 with fail
            clear n0 n96
            go_cut [16] (fun v wx => v = .int .i64 4 ∧ Below wc.heap.size wc wx)
            case first =>
              go_region_held3 (fun W => W.cell? ⟨w.heap.size, 0, none⟩ = some (.int .i64 g.zones) ∧ W.cell? ⟨w.heap.size, 1, none⟩ = some (.int .i64 g.data) ∧ W.cell? ⟨w.heap.size, 2, none⟩ = some (.int .i64 g.spares) ∧ W.cell? ⟨w.heap.size, 3, none⟩ = some (.int .i64 g.slots) ∧ W.cell? ⟨w.heap.size, 4, none⟩ = some (.int .i64 g.anchors)) (first | with_reducible exact HGV.out _ hd0 | with_reducible exact HGV.out _ hd00 | with_reducible exact HGV.out _ hd1 | with_reducible exact HGV.out _ hd2 | with_reducible exact HGV.out _ hcur | with_reducible exact HGV.out _ hcur.drew | with_reducible exact HGV.out _ (hcur.alloc hcur.size _) | with_reducible exact HGV.out _ (chain7 hcur (Nat.le_refl _) _ _ _ _ _ _ _) | with_reducible exact HGV.out _ (chain7 hcur (Nat.le_refl _) _ _ _ _ _ _ _).drew) ((go_at_call 35; (with_reducible refine (HRB.out _ (by first | with_reducible exact hd0 | with_reducible exact hd1 | with_reducible exact hd00 | with_reducible exact hd2)).mono ?_); rintro e w8 ⟨hz8, V8, c8, rfl⟩; have hcur : Below wc.heap.size wc w8 := th (by first | with_reducible exact hd0 | with_reducible exact hd1 | with_reducible exact hd00 | with_reducible exact hd2) hz8; (first | (have kb0 := box_cell (undrewB hz8) 0 _ rfl; have kb1 := box_cell (undrewB hz8) 1 _ rfl; have kb2 := box_cell (undrewB hz8) 2 _ rfl; have kb3 := box_cell (undrewB hz8) 3 _ rfl; have kb4 := box_cell (undrewB hz8) 4 _ rfl; have kb5 := box_cell (undrewB hz8) 5 _ rfl; have kb6 := box_cell (undrewB hz8) 6 _ rfl; have kf0 := box_free (undrewB hz8) 0; have kf1 := box_free (undrewB hz8) 1; have kf2 := box_free (undrewB hz8) 2; have kf3 := box_free (undrewB hz8) 3; have kf4 := box_free (undrewB hz8) 4; have kf5 := box_free (undrewB hz8) 5; have kf6 := box_free (undrewB hz8) 6) | skip)))
              all_goals (go_wp2_with fail; go_meet; exact ⟨rfl, (by first | with_reducible exact hcur.alloc hcur.size _ | exact chain7 hcur (Nat.le_refl _) _ _ _ _ _ _ _ | exact (chain7 hcur (Nat.le_refl _) _ _ _ _ _ _ _).drew)⟩)
            case rest =>
              obtain ⟨rfl, hb8⟩ := hcut
              obtain ⟨wd, hwd⟩ : ∃ wd, wd = wc := ⟨_, rfl⟩
              subst hwd
              have hb08 := th hb07 hb8
              have hx8 := hx7.on byteR_fine hb8
              have HRD2 : Hid (∀ W, Below wd.heap.size wd W → ∀ V cv, Bs W V (LA + 1) cv (ancL a ++ [0]) → Calls Tryd.prog 35 #[.agg #[.int .i64 g.zones, .int .i64 g.data, .int .i64 g.spares, .int .i64 g.slots, .int .i64 g.anchors], .slice V (LA + 1) cv] W fun e w' => Below W.heap.size W w' ∧ ∃ V cv, e = .returned (.tuple #[.agg #[.int .i64 0, .int .i64 0, .int .i64 0, .int .i64 0, .int .i64 0, .string ⟨#[]⟩, .slice V 0 cv], .int .i64 4])) := hide fun W hW V cv h =>
                HBAD2.out V cv W (hT.below (th hb0 (th hb08 hW))) h
              have HTW : Hid (∀ W, Below wd.heap.size wd W → Calls Tryd.prog 42 #[.slice V3 LA c3] W fun e w' => ∃ A' c', e = .returned (.slice A' LA c') ∧ Ow byteR 1 w' wd.heap.size 0 5 (.slice A' LA c') LA (ancL a) ∧ (∀ k, (Value.slice A' LA c').ownBlock = some k → W.heap.size ≤ k) ∧ Below W.heap.size W w') := hide fun W hW => (twin_any V3 LA c3 (ancL a) W (hx8.on byteR_fine hW) (by have := HLA2.out; omega)).mono fun e w' ⟨A', c', h1, h2, h3⟩ => ⟨A', c', h1, h2.less byteR_fine hW.size (Nat.zero_le _), fun k hk => (h2.lt k hk).1, h3⟩
              have HGV2 : Hid (∀ W, Below wd.heap.size wd W → W.cell? ⟨w.heap.size, 0, none⟩ = some (.int .i64 g.zones) ∧ W.cell? ⟨w.heap.size, 1, none⟩ = some (.int .i64 g.data) ∧ W.cell? ⟨w.heap.size, 2, none⟩ = some (.int .i64 g.spares) ∧ W.cell? ⟨w.heap.size, 3, none⟩ = some (.int .i64 g.slots) ∧ W.cell? ⟨w.heap.size, 4, none⟩ = some (.int .i64 g.anchors)) := hide fun W hW => (HGB.out.on (th hb08 hW)).2
              obtain ⟨j0, hj0, hy0, hy1, hy2⟩ := info_parts u8_info
              have hcur : Below wd.heap.size wd wd := Below.refl _ _
              have iLA : LA ≤ 82 := HLA2.out
              clear hd0 hd00 hd1 hd2 hke1 hke2 hw1 hw2 hwN hzN hzN' ik0 ik1 hkc
              go_upto_region 11 with fail
              go_cut [18] (fun v wx => v = .int .i64 4 ∧ Below wd.heap.size wd wx)
              case first =>
                go_region_held3 (fun W => W.cell? ⟨w.heap.size, 0, none⟩ = some (.int .i64 g.zones) ∧ W.cell? ⟨w.heap.size, 1, none⟩ = some (.int .i64 g.data) ∧ W.cell? ⟨w.heap.size, 2, none⟩ = some (.int .i64 g.spares) ∧ W.cell? ⟨w.heap.size, 3, none⟩ = some (.int .i64 g.slots) ∧ W.cell? ⟨w.heap.size, 4, none⟩ = some (.int .i64 g.anchors)) (first | with_reducible exact HGV2.out _ hcur | with_reducible exact HGV2.out _ (balB hcur _) | with_reducible exact HGV2.out _ (balB (balB hcur _) _) | with_reducible exact HGV2.out _ hcur.drew | with_reducible exact HGV2.out _ (balB hcur _).drew | with_reducible exact HGV2.out _ (balB (balB hcur _) _).drew | with_reducible exact HGV2.out _ (chain7 hcur (by first | omega | (simp only [World.size_alloc]; omega) | (simp <;> omega) | simp) _ _ _ _ _ _ _) | with_reducible exact HGV2.out _ (chain7 hcur (by first | omega | (simp only [World.size_alloc]; omega) | (simp <;> omega) | simp) _ _ _ _ _ _ _).drew) (first
                  | (go_at_call 42; (with_reducible refine (HTW.out _ (by first | with_reducible exact hcur | with_reducible exact balB hcur _ | with_reducible exact balB (balB hcur _) _ | with_reducible exact hcur.drew | with_reducible exact (balB hcur _).drew | with_reducible exact (balB (balB hcur _) _).drew)).mono ?_); rintro e w7 ⟨V7, c7, rfl, ho7, hlt7, hz7⟩; (first | (have kb : H7 w7 _ := H7.below (by first | exact kb | exact kb.al _ | exact (kb.al _).al _ | exact H7.new _ _ | exact (H7.new _ _).al _ | exact H7.dr (H7.new _ _) | exact H7.dr ((H7.new _ _).al _) | exact H7.newN (by simp) _) hz7; (try simp only [World.size_alloc] at kb)) | skip); (first | (have kl : HlB w7 _ (.int .u8 0) := HlB.below (by first | exact kl | exact kl.al _ | exact (kl.al _).al _ | exact HlB.new _ _ _ | exact (HlB.new _ _ _).al _ | exact HlB.dr (HlB.new _ _ _) | exact HlB.dr ((HlB.new _ _ _).al _) | exact HlB.newN (by simp) _ _) hz7; (try simp only [World.size_alloc] at kl)) | skip); have hcur : Below wd.heap.size wd w7 := th (by first | with_reducible exact hcur | with_reducible exact balB hcur _ | with_reducible exact balB (balB hcur _) _ | with_reducible exact hcur.drew | with_reducible exact (balB hcur _).drew | with_reducible exact (balB (balB hcur _) _).drew) hz7; have hsz7 := hcur.size)
                  | (refine step_append_ow _ (by rfl) _ _ _ (by rfl) byteR_fine wd.heap.size 0 5 j0 _ 1 Tryd.underlying58 hj0 hy0 hy1 hy2 rfl (by omega) (.slice V7 LA c7) LA _ (by rfl) (by first | exact ho7 | exact ho7.alloc byteR_fine _ | exact (ho7.alloc byteR_fine _).alloc byteR_fine _) (Old _) _ 1 1 [0] (by rfl) (lit_ofB (by first | exact kl | exact kl.al _ | exact (kl.al _).al _ | exact HlB.new _ _ _ | exact (HlB.new _ _ _).al _ | exact HlB.dr (HlB.new _ _ _) | exact HlB.dr ((HlB.new _ _ _).al _) | exact HlB.newN (by simp) _ _)) (fun _ _ _ h => h) (by simp only [maxLen]; omega) (by omega) (by first | exact hsz7 | (simp only [World.size_alloc]; omega)) ?_; intro V8 w8 ho8 hg8 hat8; obtain ⟨A8, c8, rfl⟩ := ho8.form; (first | (have kb : H7 w8 _ := H7.grown (by first | exact kb | exact kb.al _ | exact (kb.al _).al _ | exact H7.new _ _ | exact (H7.new _ _).al _ | exact H7.dr (H7.new _ _) | exact H7.dr ((H7.new _ _).al _) | exact H7.newN (by simp) _) hg8 (fun e => by have h1 := hlt7 _ e; have h2 := (ho7.lt _ e).2; first | omega | (simp at h1 h2; omega) | (simp at h1 h2; done) | (simp at h1; omega) | (simp at h2; omega)); (try simp only [World.size_alloc] at kb)) | skip); have hcur : Below wd.heap.size wd w8 := Below.trans (by first | with_reducible exact hcur | with_reducible exact balB hcur _ | with_reducible exact balB (balB hcur _) _ | with_reducible exact hcur.drew | with_reducible exact (balB hcur _).drew | with_reducible exact (balB (balB hcur _) _).drew) (below_grown hg8 (by first | exact ho7.lt | exact (ho7.alloc byteR_fine _).lt | exact ((ho7.alloc byteR_fine _).alloc byteR_fine _).lt) (by first | exact hsz7 | (simp only [World.size_alloc]; omega))); have hsz8 := hcur.size)
                  | (go_at_call 35; (with_reducible refine (HRD2.out _ (by first | with_reducible exact hcur | with_reducible exact balB hcur _ | with_reducible exact balB (balB hcur _) _ | with_reducible exact hcur.drew | with_reducible exact (balB hcur _).drew | with_reducible exact (balB (balB hcur _) _).drew) _ _ (by first | exact ho8.read byteR_fine | exact (ho8.read byteR_fine).on byteR_fine (alloc_below _ _))).mono ?_); rintro e w9 ⟨hz9, V9, c9, rfl⟩; (first | (have kb : H7 w9 _ := H7.below (by first | exact kb | exact kb.al _ | exact (kb.al _).al _ | exact H7.new _ _ | exact (H7.new _ _).al _ | exact H7.dr (H7.new _ _) | exact H7.dr ((H7.new _ _).al _) | exact H7.newN (by simp) _) hz9; (try simp only [World.size_alloc] at kb)) | skip); have hcur : Below wd.heap.size wd w9 := th (by first | with_reducible exact hcur | with_reducible exact balB hcur _ | with_reducible exact balB (balB hcur _) _ | with_reducible exact hcur.drew | with_reducible exact (balB hcur _).drew | with_reducible exact (balB (balB hcur _) _).drew) hz9; have hsz9 := hcur.size; (first | (have kb0 := kb.1 0 _ rfl; have kf0 := kb.2 0; have kb1 := kb.1 1 _ rfl; have kf1 := kb.2 1; have kb2 := kb.1 2 _ rfl; have kf2 := kb.2 2; have kb3 := kb.1 3 _ rfl; have kf3 := kb.2 3; have kb4 := kb.1 4 _ rfl; have kf4 := kb.2 4; have kb5 := kb.1 5 _ rfl; have kf5 := kb.2 5; have kb6 := kb.1 6 _ rfl; have kf6 := kb.2 6) | skip)))
                all_goals (go_wp2_with fail; go_meet; exact ⟨rfl, (by first | with_reducible exact balB hcur _ | exact chain7 hcur (by first | omega | (simp only [World.size_alloc]; omega) | (simp <;> omega) | simp) _ _ _ _ _ _ _ | exact (chain7 hcur (by first | omega | (simp only [World.size_alloc]; omega) | (simp <;> omega) | simp) _ _ _ _ _ _ _).drew)⟩)
              case rest =>
                obtain ⟨rfl, hb9⟩ := hcut
                go_wp2_with fail
                refine (wakes08 _ (hT.below (th hb0 (th hb08 hb9)))).mono ?_
                rintro e w10 ⟨rfl, hb10⟩
                go_wp2_with fail
                go_ret
                exact ⟨rfl, th hb0 (th (th hb08 hb9) hb10)⟩
        · have HNB := hide (HNB0.out hob HLB.out)
          have hrm := (anc_room hoa.1 hoa.2).1
          obtain ⟨LA, hLA⟩ : ∃ LA, LA = (ancL a).length := ⟨_, rfl⟩
          rw [← hLA] at HYA
          clear hoa hob hLA hrm
          go_enter Tryd.func7, Tryd.ntmps7
          go_wp2_with fail
          rw [← hW0]
          clear p0 p1 p2 p3 p4 q0 q1 q2 q3 q4 q5 q6 r0 r1 r2 r3 r4 r5 r6 hW0
          refine (HHA.out _ ha0).mono ?_
          rintro e w1 ⟨rfl, hb1⟩
          obtain ⟨r0, r1, r2, r3, r4, r5, r6⟩ := HSB.out.onB hN2 hb1
          go_wp2_with fail
          refine (HHB.out _ (hbb0.on homR_fine hb1)).mono ?_
          rintro e w2 ⟨rfl, hb2⟩
          have hb02 := th hb1 hb2
          obtain ⟨_, p0, p1, p2, p3, p4⟩ := HGB.out.on hb02
          obtain ⟨q0, q1, q2, q3, q4, q5, q6⟩ := HSA.out.onB hN1 hb02
          go_wp2_with fail
          refine (HYA.out _ (hT.below (th hb0 hb02)) (ha0.on homR_fine hb02)).mono ?_
          rintro e w3 ⟨hb3, V3, c3, rfl, ho3⟩
          have hb03 := th hb02 hb3
          obtain ⟨_, p0, p1, p2, p3, p4⟩ := HGB.out.on hb03
          obtain ⟨r0, r1, r2, r3, r4, r5, r6⟩ := HSB.out.onB hN2 hb03
          go_wp2_with fail
          refine (HNB.out _ (hT.below (th hb0 hb03)) (hbb0.on homR_fine hb03)).mono ?_
          rintro e w4 ⟨hb4, V4, c4, rfl⟩
          have hb04 := th hb03 hb4
          go_wp2_with fail
          refine (wakes08 _ (hT.below (th hb0 hb04))).mono ?_
          rintro e w5 ⟨rfl, hb5⟩
          go_wp2_with fail
          go_ret
          exact ⟨rfl, th hb0 (th hb04 hb5)⟩
      · have HNA := hide (HNA0.out hoa HLA.out)
        by_cases hob : GeoOk g ∧ AncOk g b
        · have HYB := hide (HYB0.out hob.1 hob.2 HLB.out)
          obtain ⟨LB, hLB⟩ : ∃ LB, LB = (ancL b).length := ⟨_, rfl⟩
          rw [← hLB] at HYB
          clear hoa hob hLB
          go_enter Tryd.func7, Tryd.ntmps7
          go_wp2_with fail
          rw [← hW0]
          clear p0 p1 p2 p3 p4 q0 q1 q2 q3 q4 q5 q6 r0 r1 r2 r3 r4 r5 r6 hW0
          refine (HHA.out _ ha0).mono ?_
          rintro e w1 ⟨rfl, hb1⟩
          obtain ⟨r0, r1, r2, r3, r4, r5, r6⟩ := HSB.out.onB hN2 hb1
          go_wp2_with fail
          refine (HHB.out _ (hbb0.on homR_fine hb1)).mono ?_
          rintro e w2 ⟨rfl, hb2⟩
          have hb02 := th hb1 hb2
          obtain ⟨_, p0, p1, p2, p3, p4⟩ := HGB.out.on hb02
          obtain ⟨q0, q1, q2, q3, q4, q5, q6⟩ := HSA.out.onB hN1 hb02
          go_wp2_with fail
          refine (HNA.out _ (hT.below (th hb0 hb02)) (ha0.on homR_fine hb02)).mono ?_
          rintro e w3 ⟨hb3, V3, c3, rfl⟩
          have hb03 := th hb02 hb3
          obtain ⟨_, p0, p1, p2, p3, p4⟩ := HGB.out.on hb03
          obtain ⟨r0, r1, r2, r3, r4, r5, r6⟩ := HSB.out.onB hN2 hb03
          go_wp2_with fail
          refine (HYB.out _ (hT.below (th hb0 hb03)) (hbb0.on homR_fine hb03)).mono ?_
          rintro e w4 ⟨hb4, V4, c4, rfl, ho4⟩
          have hb04 := th hb03 hb4
          go_wp2_with fail
          refine (wakes08 _ (hT.below (th hb0 hb04))).mono ?_
          rintro e w5 ⟨rfl, hb5⟩
          go_wp2_with fail
          go_ret
          exact ⟨rfl, th hb0 (th hb04 hb5)⟩
        · have HNB := hide (HNB0.out hob HLB.out)
          clear hoa hob
          go_enter Tryd.func7, Tryd.ntmps7
          go_wp2_with fail
          rw [← hW0]
          clear p0 p1 p2 p3 p4 q0 q1 q2 q3 q4 q5 q6 r0 r1 r2 r3 r4 r5 r6 hW0
          refine (HHA.out _ ha0).mono ?_
          rintro e w1 ⟨rfl, hb1⟩
          obtain ⟨r0, r1, r2, r3, r4, r5, r6⟩ := HSB.out.onB hN2 hb1
          go_wp2_with fail
          refine (HHB.out _ (hbb0.on homR_fine hb1)).mono ?_
          rintro e w2 ⟨rfl, hb2⟩
          have hb02 := th hb1 hb2
          obtain ⟨_, p0, p1, p2, p3, p4⟩ := HGB.out.on hb02
          obtain ⟨q0, q1, q2, q3, q4, q5, q6⟩ := HSA.out.onB hN1 hb02
          go_wp2_with fail
          refine (HNA.out _ (hT.below (th hb0 hb02)) (ha0.on homR_fine hb02)).mono ?_
          rintro e w3 ⟨hb3, V3, c3, rfl⟩
          have hb03 := th hb02 hb3
          obtain ⟨_, p0, p1, p2, p3, p4⟩ := HGB.out.on hb03
          obtain ⟨r0, r1, r2, r3, r4, r5, r6⟩ := HSB.out.onB hN2 hb03
          go_wp2_with fail
          refine (HNB.out _ (hT.below (th hb0 hb03)) (hbb0.on homR_fine hb03)).mono ?_
          rintro e w4 ⟨hb4, V4, c4, rfl⟩
          have hb04 := th hb03 hb4
          go_wp2_with fail
          refine (wakes08 _ (hT.below (th hb0 hb04))).mono ?_
          rintro e w5 ⟨rfl, hb5⟩
          go_wp2_with fail
          go_ret
          exact ⟨rfl, th hb0 (th hb04 hb5)⟩

theorem law_anchorBack {w : World} (hT : Tabs w) {v0 v1 v2 : Value} {g : Geo} {a b : Anc} (hg : ArgR geoR w v0 g) (ha : ArgR ancR w v1 a) (hb : ArgR ancR w v2 b) (cut : Int) (hc : InI cut) :
    Calls Tryd.prog 7 #[v0, v1, v2, .int .i64 cut] w fun e w' => e = .returned (.bool true) ∧ Below w.heap.size w w' := by
  obtain ⟨rfl, _⟩ := geo_form hg
  obtain ⟨A, n, c, rfl, hina, hsa⟩ := anc_form ha
  obtain ⟨B, m, d, rfl, hinb, hsb⟩ := anc_form hb
  exact walk_anchorBack hT g a b A B n c m d cut hsa hsb hina hinb

end Go.Proofs.YtamgpbkakmffiaaDoor
