/-
  The walk of casematelaw08.AnchorBent.
-/
import Derived.Test.YtamgpbkakmffiaaDoorAncL4
import Derived.Test.YtamgpbkakmffiaaDoorAncU
namespace Go.Proofs.YtamgpbkakmffiaaDoor
open Go.RowKit Go.Lib
set_option linter.unusedVariables false
set_option maxRecDepth 100000

theorem um_rawT {i n : Int} {k : Nat} (h : um i n = (k : Int)) (hn : 1 ≤ n) (hn' : n ≤ 4294967296) : (IntKind.u64.wrap i).tmod n = (k : Int) ∧ IntKind.u64.wrap i % n = (k : Int) := by
  have h0 : 0 ≤ IntKind.u64.wrap i := by rw [IntKind.wrap_u64]; exact Int.emod_nonneg _ (by omega)
  have h1 : (IntKind.u64.wrap i).tmod n = IntKind.u64.wrap i % n := Int.tmod_eq_emod_of_nonneg h0
  have h2 : 0 ≤ IntKind.u64.wrap i % n := Int.emod_nonneg _ (by omega)
  have h3 : IntKind.u64.wrap i % n < n := Int.emod_lt_of_pos _ (by omega)
  unfold um at h
  rw [h1, IntWalk.wrap64_in _ ⟨by omega, by omega⟩] at h
  exact ⟨by rw [h1, h], h⟩

theorem set_has {L : List Hom} {k : Nat} {h y : Hom} (hk : L[k]? = some h) : y ∈ L.set k y := List.mem_of_getElem? (List.getElem?_set_self (List.getElem?_eq_some_iff.1 hk).1)
theorem bent_dup {g : Geo} {a : Anc} {k : Nat} {h : Hom} {y : Int} (hk : a.homes[k]? = some h) (h1 : h.places[1]? = some y) : ¬ AncOk g { a with homes := a.homes.set k { h with places := h.places.set 0 y } } := fun ho => by
  have hp := (ho.2.2.2 _ (set_has hk)).2.2.2
  have hl := (List.getElem?_eq_some_iff.1 h1).1
  have h2 := (hp 1 y ((List.getElem?_set_ne (by omega)).trans h1)).2
  apply h2
  have h3 : ((h.places.set 0 y).take 1)[0]? = some y := by
    rw [List.getElem?_take, if_pos (by omega), List.getElem?_set_self (by omega)]
  exact List.mem_of_getElem? h3
theorem bent_next {g : Geo} {a : Anc} {k : Nat} {h : Hom} (hk : a.homes[k]? = some h) (h1 : 0 < h.places.length) : ¬ AncOk g { a with homes := a.homes.set k { h with places := h.places.set 0 h.next } } := fun ho => by
  have hp := (ho.2.2.2 _ (set_has hk)).2.2.2
  have h2 := (hp 0 h.next (List.getElem?_set_self h1)).1
  dsimp only at h2
  omega
theorem bent_drop {g : Geo} {a : Anc} (hG : GeoOk g) (ho : AncOk g a) : ¬ AncOk g { a with homes := a.homes.drop 1 } := fun h => by
  have h1 := h.2.2.1
  have h2 := ho.2.2.1
  have h3 := hG.1
  dsimp only at h1
  rw [List.length_drop] at h1
  omega
theorem bent_pos {g : Geo} {a : Anc} : ¬ AncOk g { a with pos := g.slots } := fun h => by
  have h1 := h.1.2.2.2.2.2.2.2
  dsimp only at h1
  omega
theorem bent_last {g : Geo} {a : Anc} : ¬ AncOk g { a with seq := 5, last := 3 } := fun h => by
  have h1 := h.1.2.2.2.2.2.1
  dsimp only at h1
  omega
theorem bent_spare {g : Geo} {a : Anc} {k : Nat} {h : Hom} (hk : a.homes[k]? = some h) : ¬ AncOk g { a with homes := a.homes.set k { h with next := g.data + g.spares + 2 } } := fun ho => by
  have hp := (ho.2.2.2 _ (set_has hk)).2.1.2
  dsimp only at hp
  omega
theorem bent_gen {g : Geo} {a : Anc} : ¬ AncOk g { a with gen := -1 } := fun h => by
  have h1 := h.1.1.1
  dsimp only at h1
  omega
theorem light_set {a : Anc} {k : Nat} {h y : Hom} (hl : Light a) (hk : a.homes[k]? = some h) (hy : y.places.length = h.places.length) : Light { a with homes := a.homes.set k y } := by
  obtain ⟨h1, h2, h3⟩ := hl
  refine ⟨h1, by show (a.homes.set k _).length ≤ _; rw [List.length_set]; exact h2, fun x hx => ?_⟩
  rcases (List.mem_or_eq_of_mem_set hx : x ∈ a.homes ∨ x = y) with hx | rfl
  · exact h3 x hx
  · rw [hy]; exact h3 h (List.mem_of_getElem? hk)

/-- An anchor that is none, as it lies behind the bending. -/
def BentAt (g : Geo) (W0 : World) (N : Nat) (W : World) : Prop := ∃ (x : Anc) (V : Option Addr) (n c : Nat), ¬ AncOk g x ∧ x.In ∧ Light x ∧ Sev W N (.int .i64 x.gen) (.int .i64 x.epoch) (.int .i64 x.pos) (.int .i64 x.seq) (.int .i64 x.last) (.string x.label) (.slice V n c) ∧ Sl homR 3 W (Old W) V n c x.homes ∧ Below W0.heap.size W0 W
theorem BentAt.drew {g : Geo} {W0 : World} {N : Nat} {W : World} (h : BentAt g W0 N W) : BentAt g W0 N W.drew := by
  obtain ⟨x, V, n, c, h1, h2, h3, h4, h5, h6⟩ := h
  exact ⟨x, V, n, c, h1, h2, h3, h4, Sl.drew homR_fine h5, h6.drew⟩

set_option maxHeartbeats 8000000 in
theorem walk_anchorBent {w : World} (hT : Tabs w) (g : Geo) (a : Anc) (A : Option Addr) (n c : Nat) (z how : Int) (ha : Sl homR 3 w (Old w) A n c a.homes) (hin : a.In) :
    Calls Tryd.prog 9 #[g.v, a.v (.slice A n c), .int .i64 z, .int .i64 how] w fun e w' => e = .returned (.bool true) ∧ Below w.heap.size w w' := by
  have HHV := hide fun w h => heavya_any a A n c w h
  have HGE := hide fun w => rgeo_any g w
  have HRA := hide fun hG hl w h => ranchor_any g hG a A n c w h hin hl
  have HLI := hide fun (h : heavyA a = false) => heavyA_light h
  have HCY := hide fun hH ho hl w hT hs => acheck_yes (g := g) (a := a) hH ho (A := A) (n := n) (c := c) (w := w) hT hs hin hl
  have HTW := hide fun hn hp w h => katwin_any a A n c w h hn hp
  have HLEN := hide ha.len
  have HIN := hide hin
  obtain ⟨H, hH⟩ : ∃ H, H = heavyA a := ⟨_, rfl⟩
  obtain ⟨Gb, hGb⟩ : ∃ Gb, Gb = decide (GeoOk g) := ⟨_, rfl⟩
  obtain ⟨Rb, hRb⟩ : ∃ Rb, Rb = decide (AncOk g a) := ⟨_, rfl⟩
  rw [← hH] at HHV HLI
  rw [← hGb] at HGE
  rw [← hRb] at HRA
  unfold ATwinPost at HTW
  obtain ⟨W0, hW0⟩ : ∃ W0, W0 = (w.alloc (.cells #[.int .i64 g.zones, .int .i64 g.data, .int .i64 g.spares, .int .i64 g.slots, .int .i64 g.anchors] 23)).alloc (.cells #[.int .i64 a.gen, .int .i64 a.epoch, .int .i64 a.pos, .int .i64 a.seq, .int .i64 a.last, .string a.label, .slice A n c] 26) := ⟨_, rfl⟩
  have hb0 : Below w.heap.size w W0 := by rw [hW0]; exact (alloc_below w _).alloc (by simp) _
  have ha0 := ha.on homR_fine hb0
  have hgb : GeoAt W0 w.heap.size g := by rw [hW0]; exact (GeoAt.new w g 23).on (alloc_below _ _)
  have hsv : Sev W0 (w.heap.size + 1) (.int .i64 a.gen) (.int .i64 a.epoch) (.int .i64 a.pos) (.int .i64 a.seq) (.int .i64 a.last) (.string a.label) (.slice A n c) := by rw [hW0]; exact Sev.new (by simp) (Below.refl _ _)
  have hN1 : w.heap.size + 1 < W0.heap.size := by rw [hW0]; simp
  have HSV := hide hsv
  have HGB := hide hgb
  have hpq := hgb.2
  rw [hW0] at hpq hsv
  obtain ⟨p0, p1, p2, p3, p4⟩ := hpq
  obtain ⟨q0, q1, q2, q3, q4, q5, q6⟩ := hsv
  clear hgb
  unfold Geo.v Anc.v at *
  have HGD := hide hGb
  have HRD := hide hRb
  clear hGb hRb hH
  cases H with
  | true =>
    go_enter Tryd.func9, Tryd.ntmps9
    go_wp2_with fail
    rw [← hW0]
    refine (HHV.out _ ha0).mono ?_
    rintro e w1 ⟨rfl, hb1⟩
    go_wp2_with fail
    go_ret
    exact ⟨rfl, th hb0 hb1⟩
  | false =>
    have HL := hide (HLI.out rfl)
    cases Gb with
    | false =>
      go_enter Tryd.func9, Tryd.ntmps9
      go_wp2_with fail
      rw [← hW0]
      refine (HHV.out _ ha0).mono ?_
      rintro e w1 ⟨rfl, hb1⟩
      obtain ⟨_, p0, p1, p2, p3, p4⟩ := HGB.out.on hb1
      go_wp2_with fail
      refine (HGE.out _).mono ?_
      rintro e w2 ⟨rfl, hb2⟩
      go_wp2_with fail
      go_ret
      exact ⟨rfl, th hb0 (th hb1 hb2)⟩
    | true =>
      have HGO : Hid (GeoOk g) := hide (of_decide_eq_true HGD.out.symm)
      cases Rb with
      | false =>
        go_enter Tryd.func9, Tryd.ntmps9
        go_wp2_with fail
        rw [← hW0]
        refine (HHV.out _ ha0).mono ?_
        rintro e w1 ⟨rfl, hb1⟩
        obtain ⟨_, p0, p1, p2, p3, p4⟩ := HGB.out.on hb1
        go_wp2_with fail
        refine (HGE.out _).mono ?_
        rintro e w2 ⟨rfl, hb2⟩
        have hb02 := th hb1 hb2
        obtain ⟨_, p0, p1, p2, p3, p4⟩ := HGB.out.on hb02
        obtain ⟨q0, q1, q2, q3, q4, q5, q6⟩ := HSV.out.onB hN1 hb02
        go_wp2_with fail
        refine (HRA.out HGO.out HL.out _ (ha0.on homR_fine hb02)).mono ?_
        rintro e w3 ⟨rfl, hb3⟩
        go_wp2_with fail
        go_ret
        exact ⟨rfl, th hb0 (th hb02 hb3)⟩
      | true =>
        have HOK : Hid (AncOk g a) := hide (of_decide_eq_true HRD.out.symm)
        have hn6 : n ≤ 6000 := by have := HL.out.2.1; have := HLEN.out; omega
        have HTW1 := hide fun w h => HTW.out hn6 HL.out.2.2 w h
        have hnz : (n : Int) = g.zones := by rw [← HLEN.out]; exact HOK.out.2.2.1
        have hgz := HGO.out.1
        have hgd := HGO.out.2.1
        have hgs := HGO.out.2.2.1
        have hsl := HGO.out.2.2.2.1
        obtain ⟨k, hu1, hk1⟩ := um_is z n (by omega) (by omega)
        obtain ⟨r, hu2, hr2⟩ := um_is how 7 (by omega) (by omega)
        obtain ⟨ha1, hc1⟩ := um_rawT hu1 (by omega) (by omega)
        obtain ⟨ha2, hc2⟩ := um_rawT hu2 (by omega) (by omega)
        have x1 : IntKind.i64.wrap (k : Int) = (k : Int) := IntWalk.i64_in _ (by omega)
        have y1 : IntKind.u64.wrap (k : Int) = (k : Int) := by rw [IntKind.wrap_u64]; omega
        have y2 : IntKind.u64.wrap (r : Int) = (r : Int) := by rw [IntKind.wrap_u64]; omega
        have gz : IntKind.u64.wrap (n : Int) = (n : Int) := by rw [IntKind.wrap_u64]; omega
        have gz0 : ¬ (n : Int) = 0 := by omega
        have gz1 : ¬ n = 0 := by omega
        have I0 : (0 : Int) ≤ (k : Int) := by omega
        have I1 : (k : Int) < (n : Int) := by omega
        obtain ⟨R, hR⟩ : ∃ R : Int, R = (r : Int) := ⟨_, rfl⟩
        have hRc : R = 0 ∨ R = 1 ∨ R = 2 ∨ R = 3 ∨ R = 4 ∨ R = 5 ∨ R = 6 := by omega
        rw [← hR] at ha2 hc2 y2
        have ha2' : (IntKind.u64.wrap how).tmod 7 = R := ha2
        have hc2' : IntKind.u64.wrap how % 7 = R := hc2
        clear hu1 hu2 hR ha2 hc2 hr2
        have HNZ := hide hnz
        clear hnz
        go_enter Tryd.func9, Tryd.ntmps9
        go_wp2_with fail
        rw [← hW0]
        refine (HHV.out _ ha0).mono ?_
        rintro e w1 ⟨rfl, hb1⟩
        obtain ⟨_, p0, p1, p2, p3, p4⟩ := HGB.out.on hb1
        go_wp2_with fail
        refine (HGE.out _).mono ?_
        rintro e w2 ⟨rfl, hb2⟩
        have hb02 := th hb1 hb2
        obtain ⟨_, p0, p1, p2, p3, p4⟩ := HGB.out.on hb02
        obtain ⟨q0, q1, q2, q3, q4, q5, q6⟩ := HSV.out.onB hN1 hb02
        go_wp2_with fail
        refine (HRA.out HGO.out HL.out _ (ha0.on homR_fine hb02)).mono ?_
        rintro e w3 ⟨rfl, hb3⟩
        have hb03 := th hb02 hb3
        obtain ⟨q0, q1, q2, q3, q4, q5, q6⟩ := HSV.out.onB hN1 hb03
        go_wp2_with fail
        refine (HTW1.out _ (ha0.on homR_fine hb03)).mono ?_
        rintro e w4 ⟨hb4, V, cv, rfl, how4⟩
        have hb04 := th hb03 hb4
        have hsz3 := hb03.size
        have hsz4 := hb4.size
        obtain ⟨gb, x, A', n', c', rfl, hgB, hgl, hx, i1, i2, hpl, hc0, hcn1, hcn2, hfr4, _, hplace4⟩ := how4.spot hk1
        have hhom := HOK.out.2.2.2 x (List.mem_of_getElem? hx)
        have hn' : n' = x.places.length := hpl.len.symm
        have hn2 : 2 ≤ n' := by have := hhom.1; omega
        obtain ⟨gp, rfl, hpB, hpl4, hpg, ⟨y0, hy0, _, hpc0⟩, hpf, _⟩ := hplace4 0 (by omega)
        obtain ⟨gp', e', _, _, _, ⟨y1', hy1, hiy1, hpc1⟩, _, _⟩ := hplace4 1 (by omega)
        injection e' with e'
        injection e' with e'
        subst e'
        obtain ⟨W5, hW5⟩ : ∃ W5, W5 = w4.alloc (.cells #[.int .i64 a.gen, .int .i64 a.epoch, .int .i64 a.pos, .int .i64 a.seq, .int .i64 a.last, .string a.label, .slice (some ⟨gb, 0, none⟩) n cv] 26) := ⟨_, rfl⟩
        have hE5 : Below w4.heap.size w4 W5 := by rw [hW5]; exact alloc_below _ _
        have hs5 : W5.heap.size = w4.heap.size + 1 := by rw [hW5]; simp
        have hv5 : Sev W5 w4.heap.size (.int .i64 a.gen) (.int .i64 a.epoch) (.int .i64 a.pos) (.int .i64 a.seq) (.int .i64 a.last) (.string a.label) (.slice (some ⟨gb, 0, none⟩) n cv) := by rw [hW5]; exact Sev.new rfl (Below.refl _ _)
        have hf5 : ∀ j, W5.frozen? ⟨w4.heap.size, j, none⟩ = false := fun j => by rw [hW5]; exact bx_free2 rfl (Below.refl _ _) j
        have hb05 := th hb04 hE5
        have hgn : gb ≠ w4.heap.size := by omega
        have hpn : gp ≠ w4.heap.size := by omega
        have hread4 : Sl homR 3 w4 (Old w4) (some ⟨gb, 0, none⟩) n cv a.homes := how4.read.old_ homR_fine
        have HX := hide hx
        have HV5 := hide hv5
        have HF5 := hide hf5
        have HY1 := hide (And.intro hy1 hiy1)
        have HHOM := hide hhom
        have HXN := hide (And.intro i1 i2)
        have HREAD := hide hread4
        have HN2 := hide hn'
        have HC0 := hide hc0
        have HCN := hide hcn1
        have HPC := hide (And.intro hpc0 hpc1)
        have HOW := hide how4
        clear hv5 hf5 hplace4 hx how4 hhom hpl hy0 hy1 hiy1 hpf hfr4 hc0 hcn1 hcn2 hpc0 hpc1 hread4 i1 i2 hn' p0 p1 p2 p3 p4 q0 q1 q2 q3 q4 q5 q6
        go_upto_region 4 with fail
        rw [← hW5]
        obtain ⟨s0, s1, s2, s3, s4, s5, s6⟩ := HV5.out
        go_cut [10] (fun v wx => v = .pointer (some ⟨gb, k * 3, none⟩) ∧ Below W5.heap.size W5 wx)
        case first =>
          go_quiet (fail)
          go_wp2_with fail
          go_meet
          exact ⟨rfl, drewN_below _ _⟩
        case rest =>
          obtain ⟨rfl, hb6⟩ := hcut
          have hE := th hE5 hb6
          have hb06 := th hb05 hb6
          have hsz6 := hb6.size
          have how6 := HOW.out.below hE
          obtain ⟨gb5, x5, A5, n5, c5, e5, _, _, hx5, _, _, _, hc5, _, _, hfr5, hnext, hplace⟩ := how6.spot hk1
          injection e5 with e5
          injection e5 with e5
          subst e5
          obtain rfl : x = x5 := by have := HX.out; rw [hx5] at this; injection this with this; exact this.symm
          have hc05 := (hE.cell (p := ⟨gb, k * 3, none⟩) hgl).trans HC0.out
          have hA5 : Value.slice (some ⟨gp, 0, none⟩) n' c' = .slice A5 n5 c5 := by rw [hc05] at hc5; injection hc5 with hc5
          injection hA5 with hA1 hA2 hA3
          subst hA1; subst hA2; subst hA3
          obtain ⟨gq, eq, _, _, _, _, hpf5, hput⟩ := hplace 0 (by omega)
          injection eq with eq
          injection eq with eq
          subst eq
          have hcn15 := (hE.cell (p := ⟨gb, k * 3 + 1, none⟩) hgl).trans HCN.out
          have hpc05 := (hE.cell (p := ⟨gp, 0, none⟩) hpl4).trans HPC.out.1
          have hpc15 := (hE.cell (p := ⟨gp, 1, none⟩) hpl4).trans HPC.out.2
          have hv6 := HV5.out.on (by omega) hb6
          have hf6 : ∀ j, wc.frozen? ⟨w4.heap.size, j, none⟩ = false := fun j => (hb6.frozen (by show w4.heap.size < _; omega)).trans (HF5.out j)
          have HREAD6 : Hid (∀ j v, Sl homR 3 (wc.setCell ⟨w4.heap.size, j, none⟩ v) (Old _) (some ⟨gb, 0, none⟩) n cv a.homes) := hide fun j v => HREAD.out.on homR_fine (hE.setCell (Nat.le_refl _) _)
          have hgz0 := HGO.out.1
          have hgd0 := HGO.out.2.1
          have hgs0 := HGO.out.2.2.1
          have hsl0 := HGO.out.2.2.2.1
          have hpl0 : 0 < x.places.length := by rw [← HN2.out]; omega
          have hsvP : ∀ (p : Addr) v, p.block ≠ w4.heap.size → Sev (wc.setCell p v) w4.heap.size (.int .i64 a.gen) (.int .i64 a.epoch) (.int .i64 a.pos) (.int .i64 a.seq) (.int .i64 a.last) (.string a.label) (.slice (some ⟨gb, 0, none⟩) n cv) := fun p v hp => by
            obtain ⟨z0, z1, z2, z3, z4, z5, z6⟩ := hv6
            exact ⟨put_cell_other (fun e => hp e.symm) z0, put_cell_other (fun e => hp e.symm) z1, put_cell_other (fun e => hp e.symm) z2, put_cell_other (fun e => hp e.symm) z3, put_cell_other (fun e => hp e.symm) z4, put_cell_other (fun e => hp e.symm) z5, put_cell_other (fun e => hp e.symm) z6⟩
          have hbP : ∀ (p : Addr) v, W0.heap.size ≤ p.block → Below W0.heap.size W0 (wc.setCell p v) := fun p v hp => hb06.setCell hp _
          have HB0 : Hid (BentAt g W0 w4.heap.size (wc.setCell ⟨gp, 0, none⟩ (.int .i64 y1'))) := hide
            ⟨_, some ⟨gb, 0, none⟩, n, cv, bent_dup HX.out HY1.out.1, HIN.out, light_set HL.out HX.out (by simp), hsvP _ _ hpn, (hput y1' HY1.out.2).read.old_ homR_fine, hbP _ _ (by show W0.heap.size ≤ gp; omega)⟩
          have HB1 : Hid (BentAt g W0 w4.heap.size (wc.setCell ⟨gp, 0, none⟩ (.int .i64 x.next))) := hide
            ⟨_, some ⟨gb, 0, none⟩, n, cv, bent_next HX.out hpl0, HIN.out, light_set HL.out HX.out (by simp), hsvP _ _ hpn, (hput x.next HXN.out.1).read.old_ homR_fine, hbP _ _ (by show W0.heap.size ≤ gp; omega)⟩
          have HB5 : Hid (BentAt g W0 w4.heap.size (wc.setCell ⟨gb, k * 3 + 1, none⟩ (.int .i64 (g.data + g.spares + 2)))) := hide
            ⟨_, some ⟨gb, 0, none⟩, n, cv, bent_spare HX.out, HIN.out, light_set HL.out HX.out rfl, hsvP _ _ hgn, (hnext (g.data + g.spares + 2) ⟨by omega, by omega⟩).read.old_ homR_fine, hbP _ _ (by show W0.heap.size ≤ gb; omega)⟩
          obtain ⟨j0, j1, j2, j3, j4, j5⟩ := HIN.out
          have HB3 : Hid (BentAt g W0 w4.heap.size (wc.setCell ⟨w4.heap.size, 2, none⟩ (.int .i64 g.slots))) := hide
            ⟨_, some ⟨gb, 0, none⟩, n, cv, bent_pos (g := g) (a := a), ⟨j0, j1, ⟨by show (-9223372036854775808 : Int) ≤ g.slots; omega, by show g.slots ≤ 9223372036854775807; omega⟩, j3, j4, j5⟩, HL.out, by
              obtain ⟨z0, z1, z2, z3, z4, z5, z6⟩ := hv6
              exact ⟨put_off' (by omega) z0, put_off' (by omega) z1, put_same z2, put_off' (by omega) z3, put_off' (by omega) z4, put_off' (by omega) z5, put_off' (by omega) z6⟩, HREAD6.out _ _, hbP _ _ (by show W0.heap.size ≤ w4.heap.size; omega)⟩
          have HB4 : Hid (BentAt g W0 w4.heap.size ((wc.setCell ⟨w4.heap.size, 3, none⟩ (.int .i64 5)).setCell ⟨w4.heap.size, 4, none⟩ (.int .i64 3))) := hide
            ⟨_, some ⟨gb, 0, none⟩, n, cv, bent_last (g := g) (a := a), ⟨j0, j1, j2, ⟨by show (-9223372036854775808 : Int) ≤ 5; omega, by show (5 : Int) ≤ 9223372036854775807; omega⟩, ⟨by show (-9223372036854775808 : Int) ≤ 3; omega, by show (3 : Int) ≤ 9223372036854775807; omega⟩, j5⟩, HL.out, by
              obtain ⟨z0, z1, z2, z3, z4, z5, z6⟩ := hv6
              exact ⟨put_off' (by omega) (put_off' (by omega) z0), put_off' (by omega) (put_off' (by omega) z1), put_off' (by omega) (put_off' (by omega) z2), put_off' (by omega) (put_same z3), put_same (put_off' (by omega) z4), put_off' (by omega) (put_off' (by omega) z5), put_off' (by omega) (put_off' (by omega) z6)⟩, HREAD.out.on homR_fine ((hE.setCell (Nat.le_refl _) _).setCell (Nat.le_refl _) _), (hbP _ _ (by show W0.heap.size ≤ w4.heap.size; omega)).setCell (by show W0.heap.size ≤ w4.heap.size; omega) _⟩
          have HB6 : Hid (BentAt g W0 w4.heap.size (wc.setCell ⟨w4.heap.size, 0, none⟩ (.int .i64 (-1)))) := hide
            ⟨_, some ⟨gb, 0, none⟩, n, cv, bent_gen (g := g) (a := a), ⟨⟨by show (-9223372036854775808 : Int) ≤ -1; omega, by show (-1 : Int) ≤ 9223372036854775807; omega⟩, j1, j2, j3, j4, j5⟩, HL.out, by
              obtain ⟨z0, z1, z2, z3, z4, z5, z6⟩ := hv6
              exact ⟨put_same z0, put_off' (by omega) z1, put_off' (by omega) z2, put_off' (by omega) z3, put_off' (by omega) z4, put_off' (by omega) z5, put_off' (by omega) z6⟩, HREAD6.out _ _, hbP _ _ (by show W0.heap.size ≤ w4.heap.size; omega)⟩
          have hldrop : Light { a with homes := a.homes.drop 1 } := by
            obtain ⟨l1, l2, l3⟩ := HL.out
            exact ⟨l1, by show (a.homes.drop 1).length ≤ _; rw [List.length_drop]; omega, fun y hy => l3 y (List.mem_of_mem_drop hy)⟩
          have HB2 : Hid (∀ V2 : Option Addr, (if cv = 1 then some ⟨gb, 0, none⟩ else (some (⟨gb, 0, none⟩ : Addr)).map (·.add (1 * 3))) = V2 → BentAt g W0 w4.heap.size (wc.setCell ⟨w4.heap.size, 6, none⟩ (.slice V2 (n - 1) (cv - 1)))) := hide fun V2 hV2 =>
            ⟨_, V2, n - 1, cv - 1, bent_drop HGO.out HOK.out, HIN.out, hldrop, by
              obtain ⟨z0, z1, z2, z3, z4, z5, z6⟩ := hv6
              exact ⟨put_off' (by omega) z0, put_off' (by omega) z1, put_off' (by omega) z2, put_off' (by omega) z3, put_off' (by omega) z4, put_off' (by omega) z5, put_same z6⟩, by
              have h := (HREAD6.out 6 (.slice V2 (n - 1) (cv - 1))).rest (i := 1) (by omega)
              rw [hV2] at h
              exact h, hbP _ _ (by show W0.heap.size ≤ w4.heap.size; omega)⟩
          have hcv := HREAD.out.cap
          clear HREAD6 hsvP hbP hput hnext hplace hldrop how6 hx5 hc5
          have hv6' := hv6
          obtain ⟨s0, s1, s2, s3, s4, s5, s6⟩ := hv6'
          have t0 := hf6 0
          have t2 := hf6 2
          have t3 := hf6 3
          have t4 := hf6 4
          have t6 := hf6 6
          obtain ⟨_, p0, p1, p2, p3, p4⟩ := HGB.out.on hb06
          have N0 : (0 : Int) < (n' : Int) := by omega
          have N1 : (1 : Int) < (n' : Int) := by omega
          have N2 : (1 : Int) ≤ (n : Int) := by omega
          have N3 : (n : Int) ≤ (cv : Int) := by omega
          have N4 : 1 ≤ n := by omega
          have N5 : 0 < n' := by omega
          have N6 : 1 < n' := by omega
          have e1 : IntKind.i64.wrap (g.data + g.spares) = g.data + g.spares := IntWalk.i64_in _ (by omega)
          have e2 : IntKind.i64.wrap (g.data + g.spares + 2) = g.data + g.spares + 2 := IntWalk.i64_in _ (by omega)
          have hcur := Below.refl wc.heap.size wc
          have HS0 : Hid (wc.cell? ⟨gb, k * 3, none⟩ = some (.slice (some ⟨gp, 0, none⟩) n' c') ∧ wc.cell? ⟨gp, 1, none⟩ = some (.int .i64 y1')) := hide ⟨hc05, hpc15⟩
          have HS0' : Hid ((wc.setCell ⟨gp, 0, none⟩ (.int .i64 y1')).cell? ⟨gb, k * 3, none⟩ = some (.slice (some ⟨gp, 0, none⟩) n' c') ∧ (wc.setCell ⟨gp, 0, none⟩ (.int .i64 y1')).cell? ⟨gp, 1, none⟩ = some (.int .i64 y1')) := hide ⟨put_cell_other (fun e => hpg e.symm) hc05, put_off' (by omega) hpc15⟩
          have HS1 : Hid (wc.cell? ⟨gb, k * 3, none⟩ = some (.slice (some ⟨gp, 0, none⟩) n' c') ∧ wc.cell? ⟨gb, k * 3 + 1, none⟩ = some (.int .i64 x.next)) := hide ⟨hc05, hcn15⟩
          have HS1' : Hid ((wc.setCell ⟨gp, 0, none⟩ (.int .i64 x.next)).cell? ⟨gb, k * 3, none⟩ = some (.slice (some ⟨gp, 0, none⟩) n' c') ∧ (wc.setCell ⟨gp, 0, none⟩ (.int .i64 x.next)).cell? ⟨gb, k * 3 + 1, none⟩ = some (.int .i64 x.next)) := hide ⟨put_cell_other (fun e => hpg e.symm) hc05, put_cell_other (fun e => hpg e.symm) hcn15⟩
          refine (‹∀ (a : Act) (w : World), Code.wp _ _ _ a w → _› _ _ ?_)
          refine wp_seq_k ?_
          intro K8 hK8
          go_cut [8] (fun v wx => v = .bool false ∧ BentAt g W0 w4.heap.size wx)
          case first =>
            rcases hRc with rfl | rfl | rfl | rfl | rfl | rfl | rfl
            · go_wp2_with fail
              go_region_held3 (fun W => W.cell? ⟨gb, k * 3, none⟩ = some (.slice (some ⟨gp, 0, none⟩) n' c') ∧ W.cell? ⟨gp, 1, none⟩ = some (.int .i64 y1')) (first | exact HS0.out | exact HS0'.out) (fail)
              all_goals (go_wp2_with fail; go_meet; first | exact ⟨rfl, HB0.out⟩ | exact ⟨rfl, HB0.out.drew⟩)
            · go_wp2_with fail
              go_region_held3 (fun W => W.cell? ⟨gb, k * 3, none⟩ = some (.slice (some ⟨gp, 0, none⟩) n' c') ∧ W.cell? ⟨gb, k * 3 + 1, none⟩ = some (.int .i64 x.next)) (first | exact HS1.out | exact HS1'.out) (fail)
              all_goals (go_wp2_with fail; go_meet; first | exact ⟨rfl, HB1.out⟩ | exact ⟨rfl, HB1.out.drew⟩)
            · by_cases ec : cv = 1
              · have HB2' := hide (HB2.out _ (if_pos ec))
                have en : n - 1 = 0 := by omega
                rw [en, ec] at HB2'
                have HB3' : Hid (BentAt g W0 w4.heap.size (wc.setCell ⟨w4.heap.size, 6, none⟩ (.slice (some ⟨gb, 0, none⟩) 0 0))) := HB2'
                clear en HB2'
                subst ec
                go_wp2_with fail
                go_meet
                exact ⟨rfl, HB3'.out⟩
              · have HB2' := hide (HB2.out _ (if_neg ec))
                go_wp2_with fail
                go_meet
                exact ⟨rfl, HB2'.out⟩
            · go_wp2_with fail
              go_meet
              exact ⟨rfl, HB3.out⟩
            · go_wp2_with fail
              go_meet
              exact ⟨rfl, HB4.out⟩
            · go_wp2_with fail
              go_meet
              exact ⟨rfl, HB5.out⟩
            · go_wp2_with fail
              go_meet
              exact ⟨rfl, HB6.out⟩
          case rest =>
            obtain ⟨rfl, X, VX, nX, cX, hnoX, hinX, hlX, hvX, hsX, hbX⟩ := hcut
            have HCN2 := hide (acheck_no (g := g) hnoX (hT.below (th hb0 hbX)) hsX hinX hlX)
            have hbb := fun w hT h => abytes_no (g := g) (a := X) (fun e => hnoX e.2) (A := VX) (n := nX) (c := cX) (w := w) hT h hinX hlX
            have hcc := fun w hT h => acheck_no (g := g) (a := X) hnoX (A := VX) (n := nX) (c := cX) (w := w) hT h hinX hlX
            unfold Geo.v Anc.v at hbb hcc
            have HBB := hide hbb
            have HCC := hide hcc
            have hNX : w4.heap.size < wc.heap.size := World.block_lt_of_cell? wc _ hvX.1
            have HVX := hide hvX
            have HCY1 := hide (fun w hT h => HCY.out HGO.out HOK.out HL.out w hT h)
            obtain ⟨_, p0, p1, p2, p3, p4⟩ := HGB.out.on hbX
            obtain ⟨s0, s1, s2, s3, s4, s5, s6⟩ := hvX
            clear hbb hcc HCN2 t0 t2 t3 t4 t6
            go_wp2_with fail
            refine (HBB.out _ (hT.below (th hb0 hbX)) hsX).mono ?_
            rintro e w7 ⟨hb7, V7, c7, rfl⟩
            have hb07 := th hbX hb7
            obtain ⟨_, p0, p1, p2, p3, p4⟩ := HGB.out.on hb07
            obtain ⟨q0, q1, q2, q3, q4, q5, q6⟩ := HSV.out.onB hN1 hb07
            go_wp2_with fail
            refine (HCY1.out _ (hT.below (th hb0 hb07)) (ha0.on homR_fine hb07)).mono ?_
            rintro e w8 ⟨rfl, hb8⟩
            have hb08 := th hb07 hb8
            obtain ⟨_, p0, p1, p2, p3, p4⟩ := HGB.out.on hb08
            obtain ⟨s0, s1, s2, s3, s4, s5, s6⟩ := HVX.out.on hNX (th hb7 hb8)
            go_wp2_with fail
            refine (HCC.out _ (hT.below (th hb0 hb08)) (hsX.on homR_fine (th hb7 hb8))).mono ?_
            rintro e w9 ⟨rfl, hb9⟩
            have hb09 := th hb08 hb9
            go_wp2_with fail
            refine (wakes08 _ (hT.below (th hb0 hb09))).mono ?_
            rintro e w10 ⟨rfl, hb10⟩
            go_wp2_with fail
            go_ret
            exact ⟨rfl, th hb0 (th hb09 hb10)⟩

theorem law_anchorBent {w : World} (hT : Tabs w) {v0 v1 : Value} {g : Geo} {a : Anc} (hg : ArgR geoR w v0 g) (ha : ArgR ancR w v1 a) (z : Int) (hz : InI z) (how : Int) (hh : InI how) :
    Calls Tryd.prog 9 #[v0, v1, .int .i64 z, .int .i64 how] w fun e w' => e = .returned (.bool true) ∧ Below w.heap.size w w' := by
  obtain ⟨rfl, _⟩ := geo_form hg
  obtain ⟨A, n, c, rfl, hin, hs⟩ := anc_form ha
  exact walk_anchorBent hT g a A n c z how hs hin

end Go.Proofs.YtamgpbkakmffiaaDoor
