/-
  Contracts: geom.Slots, anchor.home.
-/
import Derived.Test.YtdcoholjnlndgaaDoorAncC
import Derived.Test.YtdcoholjnlndgaaDoorTabB
import Derived.Deep.RegionHeld3
import Derived.Deep.QuietTactic
import Derived.BigQuiet
import Derived.Deep.DeepCutAuto
namespace Go.Proofs.YtdcoholjnlndgaaDoor
open Go.RowKit
set_option linter.unusedVariables false
set_option maxRecDepth 100000

theorem gslots_any (z d s l a : Int) (hd : 0 ≤ d ∧ d ≤ 1000) (hs : 0 ≤ s ∧ s ≤ 1000) (w : World) :
    Calls Tryd.prog 53 #[.agg #[.int .i64 z, .int .i64 d, .int .i64 s, .int .i64 l, .int .i64 a]] w fun e w' => e = .returned (.int .i64 (d + 1 + s)) ∧ Below w.heap.size w w' := by
  obtain ⟨h1, h2⟩ := hd
  obtain ⟨h3, h4⟩ := hs
  go_enter Tryd.func53, Tryd.ntmps53
  go_wp2_with fail
  go_ret
  exact ⟨rfl, alloc_below _ _⟩

set_option maxHeartbeats 1500000 in
theorem home_any (g : Geo) (hG : GeoOk g) (h : Hom) (A : Option Addr) (n c : Nat) (w : World) (ha : Is w A n c h.places) (hn : n ≤ 6000) (hin : InI h.next ∧ InI h.root) :
    Calls Tryd.prog 40 #[g.v, .agg #[.slice A n c, .int .i64 h.next, .int .i64 h.root]] w fun e w' => e = .returned (.bool (decide (HomOk g h))) ∧ Below w.heap.size w w' := by
  obtain ⟨⟨i1, i2⟩, i3, i4⟩ := hin
  obtain ⟨_, ⟨d1, d2⟩, ⟨s1, s2⟩, _⟩ := hG
  obtain ⟨z, d, s, l, a⟩ := g
  obtain ⟨P, nx, rt⟩ := h
  dsimp only at *
  unfold Geo.v
  dsimp only
  obtain ⟨W0, hW0⟩ : ∃ W0, W0 = (w.alloc (.cells #[.int .i64 z, .int .i64 d, .int .i64 s, .int .i64 l, .int .i64 a] 23)).alloc (.cells #[.slice A n c, .int .i64 nx, .int .i64 rt] 59) := ⟨_, rfl⟩
  have hb0 : Below w.heap.size w W0 := by rw [hW0]; exact (alloc_below w _).alloc (by simp) _
  have ha0 := ha.on intR_fine hb0
  have bx : ∀ W, Below W0.heap.size W0 W →
      (W.cell? ⟨w.heap.size, 0, none⟩ = some (.int .i64 z) ∧ W.cell? ⟨w.heap.size, 1, none⟩ = some (.int .i64 d) ∧ W.cell? ⟨w.heap.size, 2, none⟩ = some (.int .i64 s) ∧ W.cell? ⟨w.heap.size, 3, none⟩ = some (.int .i64 l) ∧ W.cell? ⟨w.heap.size, 4, none⟩ = some (.int .i64 a)) ∧
      W.cell? ⟨w.heap.size + 1, 0, none⟩ = some (.slice A n c) ∧ W.cell? ⟨w.heap.size + 1, 1, none⟩ = some (.int .i64 nx) ∧ W.cell? ⟨w.heap.size + 1, 2, none⟩ = some (.int .i64 rt) := fun W hW => by
    subst hW0
    have q := th (alloc_below _ _) hW
    have q2 : ∀ k u, (#[.slice A n c, .int .i64 nx, .int .i64 rt] : Array Value)[k]? = some u → W.cell? ⟨w.heap.size + 1, k, none⟩ = some u := fun k u hk => by have := box_cell hW k u hk; simpa using this
    exact ⟨⟨box_cell q 0 _ rfl, box_cell q 1 _ rfl, box_cell q 2 _ rfl, box_cell q 3 _ rfl, box_cell q 4 _ rfl⟩, q2 0 _ rfl, q2 1 _ rfl, q2 2 _ rfl⟩
  have BX := hide bx
  have HW0 := hide hW0
  have hsl := fun w => gslots_any z d s l a ⟨by omega, by omega⟩ ⟨by omega, by omega⟩ w
  obtain ⟨D1, hD1⟩ : ∃ D1 : Int, D1 = d + 1 := ⟨_, rfl⟩
  obtain ⟨S1, hS1⟩ : ∃ S1 : Int, S1 = d + 1 + s := ⟨_, rfl⟩
  rw [← hS1] at hsl
  have hwr : IntKind.i64.wrap (d + 1) = D1 := by rw [hD1]; exact IntWalk.i64_in _ (by omega)
  have hinx := fun w => ain_any nx D1 S1 w
  have hnum : ∀ w : World, Calls Tryd.prog 35 #[.slice (some ⟨w.heap.size, 0, none⟩) 1 1] (w.alloc (.cells #[.int .i64 rt] 3)) fun e w' => e = .returned (.bool (decide (NumOk rt))) ∧ w.alloc (.cells #[.int .i64 rt] 3) = w' := fun w => by
    have := anum_any _ 1 1 [rt] _ (lit_ints_at (w := w) (e := 3) (n := 1) (l := [rt]) rfl rfl (by omega) (fun x hx => by simp at hx; subst hx; exact ⟨i3, i4⟩) rfl) (by omega)
    simpa using this
  obtain ⟨B1, hB1⟩ : ∃ B1, B1 = decide (D1 ≤ nx ∧ nx ≤ S1) := ⟨_, rfl⟩
  obtain ⟨B2, hB2⟩ : ∃ B2, B2 = decide (NumOk rt) := ⟨_, rfl⟩
  rw [← hB1] at hinx
  rw [← hB2] at hnum
  have hok : HomOk ⟨z, d, s, l, a⟩ ⟨P, nx, rt⟩ ↔ (n : Int) = D1 ∧ B1 = true ∧ B2 = true ∧ PlOk nx P := by
    rw [hB1, hB2, decide_eq_true_iff, decide_eq_true_iff, hD1, hS1]
    unfold HomOk
    dsimp only
    rw [ha.len]
  obtain ⟨R, hR⟩ : ∃ R, R = decide (HomOk ⟨z, d, s, l, a⟩ ⟨P, nx, rt⟩) := ⟨_, rfl⟩
  rw [← hR]
  have HOK := hide hok
  have HR := hide hR
  have HSL := hide hsl
  have HIN := hide hinx
  have HNUM := hide hnum
  have HB1 := hide hB1
  have HD1 := hide hD1
  have HS1 := hide hS1
  have hcur : Below W0.heap.size W0 W0.drew := (Below.refl _ _).drew
  clear hsl hinx hnum bx hok hR hB1 hB2 hD1 hS1
  have hRF : ((n : Int) = D1 → B1 = true → B2 = true → ¬ PlOk nx P) → R = false := fun h => by
    rw [HR.out]; exact decide_eq_false fun h2 => by obtain ⟨h3, h4, h5, h6⟩ := HOK.out.1 h2; exact h h3 h4 h5 h6
  have HRF := hide hRF
  clear hRF
  go_enter Tryd.func40, Tryd.ntmps40
  go_wp2_with fail
  rw [← hW0]
  clear hW0
  by_cases e1 : (n : Int) = D1 ∧ B1 = true ∧ B2 = true
  · obtain ⟨en, rfl, rfl⟩ := e1
    have e1 : ((n : Int) != D1) = false := by simpa using en
    have HEN := hide en
    clear en
    go_cut [31] (fun v wx => v = .bool false ∧ Below W0.heap.size W0 wx)
    case first =>
      go_region_held3 (fun w' => (w'.cell? ⟨w.heap.size, 0, none⟩ = some (.int .i64 z) ∧ w'.cell? ⟨w.heap.size, 1, none⟩ = some (.int .i64 d) ∧ w'.cell? ⟨w.heap.size, 2, none⟩ = some (.int .i64 s) ∧ w'.cell? ⟨w.heap.size, 3, none⟩ = some (.int .i64 l) ∧ w'.cell? ⟨w.heap.size, 4, none⟩ = some (.int .i64 a)) ∧ w'.cell? ⟨w.heap.size + 1, 0, none⟩ = some (.slice A n c) ∧ w'.cell? ⟨w.heap.size + 1, 1, none⟩ = some (.int .i64 nx) ∧ w'.cell? ⟨w.heap.size + 1, 2, none⟩ = some (.int .i64 rt)) (first | exact BX.out _ hcur | exact BX.out _ (hcur.alloc hcur.size _)) (first
        | (go_at_call 53; ((with_reducible refine (HSL.out _).mono ?_)); rintro e wA ⟨rfl, hzA⟩; have hcur := th hcur hzA)
        | (go_at_call 36; ((with_reducible refine (HIN.out _).mono ?_)); rintro e wB ⟨rfl, rfl⟩)
        | (go_at_call 35; ((with_reducible refine (HNUM.out _).mono ?_)); rintro e wC ⟨rfl, rfl⟩; have hcur := hcur.alloc hcur.size (.cells #[.int .i64 rt] 3)))
      all_goals (go_wp2_with fail; go_meet; exact ⟨rfl, hcur⟩)
    case rest =>
      obtain ⟨rfl, hb1⟩ := hcut
      obtain ⟨⟨p0, p1, p2, p3, p4⟩, q0, q1, q2⟩ := BX.out _ hb1
      have hnx : D1 ≤ nx ∧ nx ≤ S1 := of_decide_eq_true HB1.out.symm
      have hnx1 : 2 ≤ nx := by have := HD1.out; omega
      have hnx2 : nx ≤ 10 := by have := HS1.out; omega
      have ha1 := ha0.on intR_fine hb1
      have HBAD : Hid (¬ PlOk nx P → R = false) := hide fun h => HRF.out fun _ _ _ => h
      have HGOOD : Hid (PlOk nx P → R = true) := hide fun h => by rw [HR.out]; exact decide_eq_true (HOK.out.2 ⟨HEN.out, rfl, rfl, h⟩)
      have HLEN := hide ha.len
      clear hnx
      go_wp2_with fail
      go_loop [35] (fun i => ∃ k : Nat, k ≤ n ∧ i = .int .i64 k ∧ Hid (∀ (j : Nat) (p : Int), j < k → P[j]? = some p → (0 ≤ p ∧ p ≤ nx - 1) ∧ p ∉ P.take j)) (fun i => n - (intOf i).toNat)
      case atStart => exact ⟨0, Nat.zero_le _, rfl, hide fun j p hj => absurd hj (by omega)⟩
      case round =>
        obtain ⟨k, hk, rfl, hall⟩ := hrel
        by_cases hlt : k < n
        · obtain ⟨ad, x, rfl, hadl, hx, hxi, hcell⟩ := at_int ha1 hlt
          have hcap := ha1.cap
          have hi1 := fun w => ain_any x 0 (nx - 1) w
          have hc1 := contains_any (some ad) k c (P.take k) x wc (ha1.init_ (by omega)) (by omega)
          by_cases b1 : 0 ≤ x ∧ x ≤ nx - 1
          · rw [decide_eq_true b1] at hi1
            by_cases b2 : x ∈ P.take k
            · rw [decide_eq_true b2] at hc1
              have hR0 : R = false := HBAD.out fun h => (h k x hx).2 b2
              subst hR0
              have HI := hide hi1
              have HC := hide hc1
              clear hi1 hc1 b1 b2 hx hxi
              go_wp2_with fail
              refine (HI.out _).mono ?_
              rintro e w2 ⟨rfl, rfl⟩
              go_wp2_with fail
              refine HC.out.mono ?_
              rintro e w2 ⟨rfl, rfl⟩
              go_wp2_with fail
              go_ret
              exact ⟨rfl, th hb0 hb1⟩
            · rw [decide_eq_false b2] at hc1
              have hn2 : ∀ (j : Nat) (p : Int), j < k + 1 → P[j]? = some p → (0 ≤ p ∧ p ≤ nx - 1) ∧ p ∉ P.take j := fun j p hj hp => by
                rcases Nat.lt_or_ge j k with h | h
                · exact hall.out j p h hp
                · obtain rfl : j = k := by omega
                  rw [hx] at hp
                  injection hp with hp
                  subst hp
                  exact ⟨b1, b2⟩
              have HN := hide hn2
              have HI := hide hi1
              have HC := hide hc1
              clear hi1 hc1 b1 b2 hx hxi hn2
              go_wp2_with fail
              refine (HI.out _).mono ?_
              rintro e w2 ⟨rfl, rfl⟩
              go_wp2_with fail
              refine HC.out.mono ?_
              rintro e w2 ⟨rfl, rfl⟩
              go_wp2_with fail
              go_round
              case rel => exact ⟨k + 1, by omega, by go_num, HN⟩
              case measure => simp [intOf]; omega
          · rw [decide_eq_false b1] at hi1
            have hR0 : R = false := HBAD.out fun h => b1 (h k x hx).1
            subst hR0
            have HI := hide hi1
            clear hi1 hc1 b1 hx hxi
            go_wp2_with fail
            refine (HI.out _).mono ?_
            rintro e w2 ⟨rfl, rfl⟩
            go_wp2_with fail
            go_ret
            exact ⟨rfl, th hb0 hb1⟩
        · obtain rfl : k = n := by omega
          have hR1 : R = true := HGOOD.out fun j p hp => hall.out j p (by rw [← HLEN.out]; exact (List.getElem?_eq_some_iff.1 hp).1) hp
          subst hR1
          go_wp2_with fail
          go_ret
          exact ⟨rfl, th hb0 hb1⟩
  · have hR0 : R = false := HRF.out fun h1 h2 h3 => absurd ⟨h1, h2, h3⟩ e1
    subst hR0
    have hcases : ((n : Int) != D1) = true ∨ (((n : Int) != D1) = false ∧ B1 = false) ∨ (((n : Int) != D1) = false ∧ B1 = true ∧ B2 = false) := by
      by_cases a1 : (n : Int) = D1
      · have a2 : ((n : Int) != D1) = false := by simpa using a1
        cases hq : B1
        · exact .inr (.inl ⟨a2, rfl⟩)
        · cases hq2 : B2
          · exact .inr (.inr ⟨a2, rfl, rfl⟩)
          · exact absurd ⟨a1, hq, hq2⟩ e1
      · exact .inl (by simpa using a1)
    clear e1
    rcases hcases with e1 | ⟨e1, rfl⟩ | ⟨e1, rfl, rfl⟩
    · obtain ⟨⟨p0, p1, p2, p3, p4⟩, q0, q1, q2⟩ := BX.out _ (Below.refl _ _)
      go_quiet (fail)
      go_wp2_with fail
      go_ret
      exact ⟨rfl, th hb0 (drewN_below _ _)⟩
    · go_cut [31] (fun v wx => v = .bool true ∧ Below W0.heap.size W0 wx)
      case first =>
        refine wp_region_held_drew (S := (fun w' => (w'.cell? ⟨w.heap.size, 0, none⟩ = some (.int .i64 z) ∧ w'.cell? ⟨w.heap.size, 1, none⟩ = some (.int .i64 d) ∧ w'.cell? ⟨w.heap.size, 2, none⟩ = some (.int .i64 s) ∧ w'.cell? ⟨w.heap.size, 3, none⟩ = some (.int .i64 l) ∧ w'.cell? ⟨w.heap.size, 4, none⟩ = some (.int .i64 a)) ∧ w'.cell? ⟨w.heap.size + 1, 0, none⟩ = some (.slice A n c) ∧ w'.cell? ⟨w.heap.size + 1, 1, none⟩ = some (.int .i64 nx) ∧ w'.cell? ⟨w.heap.size + 1, 2, none⟩ = some (.int .i64 rt))) (by kernel_rfl) (by (try dsimp only); exact BX.out _ hcur) (fun hHeld => ?_)
        refine wpAnyH_take (i := 0) (v := ?_) rfl (by kernel_rfl) (by kernel_rfl) (by kernel_rfl) (fun _ _ _ h => h) (Or.inl ⟨by rfl, ?_⟩) (by assumption) ?_
        rotate_left
        · (intro w hSw; (try dsimp only at hSw); go_simp; try with_reducible rfl)
        simp only [Act.put, List.getElem_toArray, List.getElem_cons_zero, List.setIfInBounds_toArray, List.set_cons_zero, List.set_cons_succ]
        refine wpAnyH_take (i := 1) (v := ?_) rfl (by kernel_rfl) (by kernel_rfl) (by kernel_rfl) (fun _ _ _ h => h) (Or.inl ⟨by rfl, ?_⟩) (by assumption) ?_
        rotate_left
        · (intro w hSw; (try dsimp only at hSw); go_simp; try with_reducible rfl)
        simp only [Act.put, List.getElem_toArray, List.getElem_cons_succ, List.getElem_cons_zero, List.setIfInBounds_toArray, List.set_cons_zero, List.set_cons_succ]
        refine wpAnyH_take (i := 2) (v := ?_) rfl (by kernel_rfl) (by kernel_rfl) (by kernel_rfl) (fun _ _ _ h => h) (Or.inl ⟨by rfl, ?_⟩) (by assumption) ?_
        rotate_left
        · (intro w hSw; (try dsimp only at hSw); go_simp; try with_reducible rfl)
        simp only [Act.put, List.getElem_toArray, List.getElem_cons_succ, List.getElem_cons_zero, List.setIfInBounds_toArray, List.set_cons_zero, List.set_cons_succ]
        refine wpAnyH_take (i := 3) (v := ?_) rfl (by kernel_rfl) (by kernel_rfl) (by kernel_rfl) (fun _ _ _ h => h) (Or.inl ⟨by rfl, ?_⟩) (by assumption) ?_
        rotate_left
        · (intro w hSw; (try dsimp only at hSw); go_simp; try with_reducible rfl)
        simp only [Act.put, List.getElem_toArray, List.getElem_cons_succ, List.getElem_cons_zero, List.setIfInBounds_toArray, List.set_cons_zero, List.set_cons_succ]
        refine wpAnyH_take (i := 4) (v := ?_) rfl (by kernel_rfl) (by kernel_rfl) (by kernel_rfl) (fun _ _ _ h => h) (Or.inl ⟨by rfl, ?_⟩) (by assumption) ?_
        rotate_left
        · (intro w hSw; (try dsimp only at hSw); go_simp; try with_reducible rfl)
        simp only [Act.put, List.getElem_toArray, List.getElem_cons_succ, List.getElem_cons_zero, List.setIfInBounds_toArray, List.set_cons_zero, List.set_cons_succ]
        refine wpAnyH_take (i := 5) (v := ?_) rfl (by kernel_rfl) (by kernel_rfl) (by kernel_rfl) (fun _ _ _ h => h) (Or.inl ⟨by rfl, ?_⟩) (by assumption) ?_
        rotate_left
        · (intro w hSw; (try dsimp only at hSw); go_simp; try with_reducible rfl)
        simp only [Act.put, List.getElem_toArray, List.getElem_cons_succ, List.getElem_cons_zero, List.setIfInBounds_toArray, List.set_cons_zero, List.set_cons_succ]
        refine wpAnyH_take (i := 6) (v := ?_) rfl (by kernel_rfl) (by kernel_rfl) (by kernel_rfl) (fun _ _ _ h => h) (Or.inl ⟨by rfl, ?_⟩) (by assumption) ?_
        rotate_left
        · (intro w hSw; (try dsimp only at hSw); go_simp; try with_reducible rfl)
        simp only [Act.put, List.getElem_toArray, List.getElem_cons_succ, List.getElem_cons_zero, List.setIfInBounds_toArray, List.set_cons_zero, List.set_cons_succ]
        refine wpAnyH_take (i := 7) (v := ?_) rfl (by kernel_rfl) (by kernel_rfl) (by kernel_rfl) (fun _ _ _ h => h) (Or.inl ⟨by rfl, ?_⟩) (by assumption) ?_
        rotate_left
        · (intro w hSw; (try dsimp only at hSw); go_simp; try with_reducible rfl)
        simp only [Act.put, List.getElem_toArray, List.getElem_cons_succ, List.getElem_cons_zero, List.setIfInBounds_toArray, List.set_cons_zero, List.set_cons_succ]
        refine wpAnyH_take (i := 8) (v := ?_) rfl (by kernel_rfl) (by kernel_rfl) (by kernel_rfl) (fun _ _ _ h => h) (Or.inl ⟨by rfl, ?_⟩) (by assumption) ?_
        rotate_left
        · (intro w hSw; (try dsimp only at hSw); go_simp; try with_reducible rfl)
        simp only [Act.put, List.getElem_toArray, List.getElem_cons_succ, List.getElem_cons_zero, List.setIfInBounds_toArray, List.set_cons_zero, List.set_cons_succ]
        refine wpAnyH_take (i := 9) (v := ?_) rfl (by kernel_rfl) (by kernel_rfl) (by kernel_rfl) (fun _ _ _ h => h) (Or.inl ⟨by rfl, ?_⟩) (by assumption) ?_
        rotate_left
        · (intro w hSw; (try dsimp only at hSw); go_simp; try with_reducible rfl)
        simp only [Act.put, List.getElem_toArray, List.getElem_cons_succ, List.getElem_cons_zero, List.setIfInBounds_toArray, List.set_cons_zero, List.set_cons_succ]
        refine wpAnyH_take (i := 10) (v := ?_) rfl (by kernel_rfl) (by kernel_rfl) (by kernel_rfl) (fun _ _ _ h => h) (Or.inl ⟨by rfl, ?_⟩) (by assumption) ?_
        rotate_left
        · (intro w hSw; (try dsimp only at hSw); go_simp; try with_reducible rfl)
        simp only [Act.put, List.getElem_toArray, List.getElem_cons_succ, List.getElem_cons_zero, List.setIfInBounds_toArray, List.set_cons_zero, List.set_cons_succ]
        refine wpAnyH_take (i := 11) (v := ?_) rfl (by kernel_rfl) (by kernel_rfl) (by kernel_rfl) (fun _ _ _ h => h) (Or.inl ⟨by rfl, ?_⟩) (by assumption) ?_
        rotate_left
        · (intro w hSw; (try dsimp only at hSw); go_simp; try with_reducible rfl)
        simp only [Act.put, List.getElem_toArray, List.getElem_cons_succ, List.getElem_cons_zero, List.setIfInBounds_toArray, List.set_cons_zero, List.set_cons_succ]
        refine wpAnyH_take (i := 12) (v := ?_) rfl (by kernel_rfl) (by kernel_rfl) (by kernel_rfl) (fun _ _ _ h => h) (Or.inl ⟨by rfl, ?_⟩) (by assumption) ?_
        rotate_left
        · (intro w hSw; (try dsimp only at hSw); go_simp; try with_reducible rfl)
        simp only [Act.put, List.getElem_toArray, List.getElem_cons_succ, List.getElem_cons_zero, List.setIfInBounds_toArray, List.set_cons_zero, List.set_cons_succ]
        refine wpAnyH_take (i := 13) (v := ?_) rfl (by kernel_rfl) (by kernel_rfl) (by kernel_rfl) (fun _ _ _ h => h) (Or.inl ⟨by rfl, ?_⟩) (by assumption) ?_
        rotate_left
        · (intro w hSw; (try dsimp only at hSw); go_simp; try with_reducible rfl)
        simp only [Act.put, List.getElem_toArray, List.getElem_cons_succ, List.getElem_cons_zero, List.setIfInBounds_toArray, List.set_cons_zero, List.set_cons_succ]
        refine wpAnyH_ready (rs := [14]) (by kernel_rfl) (by simp) ?_
        refine AllReadyH.cons rfl (fun K hK => ?_) AllReadyH.nil
        go_simp
        (go_at_call 53; ((with_reducible refine (HSL.out _).mono ?_)); rintro e wA ⟨rfl, hzA⟩; have hcur := th hcur hzA)
        go_wp2_with fail
        refine hK.out _ _ ?_ (fun hHeld => ?_)
        · ((try dsimp only); exact BX.out _ hcur)
        clear hK K
        refine wpAnyH_ready (rs := [15]) (by kernel_rfl) (by simp) ?_
        refine AllReadyH.cons rfl (fun K hK => ?_) AllReadyH.nil
        go_simp
        (go_at_call 36; ((with_reducible refine (HIN.out _).mono ?_)); rintro e wB ⟨rfl, rfl⟩)
        go_wp2_with fail
        refine hK.out _ _ ?_ (fun hHeld => ?_)
        · ((try dsimp only); exact BX.out _ hcur)
        clear hK K
        refine wpAnyH_take (i := 16) (v := ?_) rfl (by kernel_rfl) (by kernel_rfl) (by kernel_rfl) (fun _ _ _ h => h) (Or.inl ⟨by rfl, ?_⟩) (by assumption) ?_
        rotate_left
        · (intro w hSw; (try dsimp only at hSw); go_simp; try with_reducible rfl)
        simp only [Act.put, List.getElem_toArray, List.getElem_cons_succ, List.getElem_cons_zero, List.setIfInBounds_toArray, List.set_cons_zero, List.set_cons_succ]
        refine wpAnyH_take (i := 17) (v := ?_) rfl (by kernel_rfl) (by kernel_rfl) (by kernel_rfl) (fun _ _ _ h => h) (Or.inl ⟨by rfl, ?_⟩) (by assumption) ?_
        rotate_left
        · (intro w hSw; (try dsimp only at hSw); go_simp; try with_reducible rfl)
        simp only [Act.put, List.getElem_toArray, List.getElem_cons_succ, List.getElem_cons_zero, List.setIfInBounds_toArray, List.set_cons_zero, List.set_cons_succ]
        refine wpAnyH_take (i := 18) (v := ?_) rfl (by kernel_rfl) (by kernel_rfl) (by kernel_rfl) (fun _ _ _ h => h) (Or.inl ⟨by rfl, ?_⟩) (by assumption) ?_
        rotate_left
        · (intro w hSw; (try dsimp only at hSw); go_simp; try with_reducible rfl)
        simp only [Act.put, List.getElem_toArray, List.getElem_cons_succ, List.getElem_cons_zero, List.setIfInBounds_toArray, List.set_cons_zero, List.set_cons_succ]
        refine wpAnyH_take (i := 19) (v := undef) rfl (by kernel_rfl) (by kernel_rfl) (by kernel_rfl) (fun _ _ _ h => h) (Or.inr ⟨by rfl, rfl⟩) (by assumption) ?_
        simp only [Act.put, List.getElem_toArray, List.getElem_cons_succ, List.getElem_cons_zero, List.setIfInBounds_toArray, List.set_cons_zero, List.set_cons_succ]
        refine wpAnyH_take (i := 20) (v := undef) rfl (by kernel_rfl) (by kernel_rfl) (by kernel_rfl) (fun _ _ _ h => h) (Or.inr ⟨by rfl, rfl⟩) (by assumption) ?_
        simp only [Act.put, List.getElem_toArray, List.getElem_cons_succ, List.getElem_cons_zero, List.setIfInBounds_toArray, List.set_cons_zero, List.set_cons_succ]
        refine wpAnyH_take (i := 21) (v := undef) rfl (by kernel_rfl) (by kernel_rfl) (by kernel_rfl) (fun _ _ _ h => h) (Or.inr ⟨by rfl, rfl⟩) (by assumption) ?_
        simp only [Act.put, List.getElem_toArray, List.getElem_cons_succ, List.getElem_cons_zero, List.setIfInBounds_toArray, List.set_cons_zero, List.set_cons_succ]
        refine wpAnyH_take (i := 22) (v := undef) rfl (by kernel_rfl) (by kernel_rfl) (by kernel_rfl) (fun _ _ _ h => h) (Or.inr ⟨by rfl, rfl⟩) (by assumption) ?_
        simp only [Act.put, List.getElem_toArray, List.getElem_cons_succ, List.getElem_cons_zero, List.setIfInBounds_toArray, List.set_cons_zero, List.set_cons_succ]
        refine wpAnyH_take (i := 23) (v := undef) rfl (by kernel_rfl) (by kernel_rfl) (by kernel_rfl) (fun _ _ _ h => h) (Or.inr ⟨by rfl, rfl⟩) (by assumption) ?_
        simp only [Act.put, List.getElem_toArray, List.getElem_cons_succ, List.getElem_cons_zero, List.setIfInBounds_toArray, List.set_cons_zero, List.set_cons_succ]
        refine wpAnyH_take (i := 24) (v := ?_) rfl (by kernel_rfl) (by kernel_rfl) (by kernel_rfl) (fun _ _ _ h => h) (Or.inl ⟨by rfl, ?_⟩) (by assumption) ?_
        rotate_left
        · (intro w hSw; (try dsimp only at hSw); go_simp; try with_reducible rfl)
        simp only [Act.put, List.getElem_toArray, List.getElem_cons_succ, List.getElem_cons_zero, List.setIfInBounds_toArray, List.set_cons_zero, List.set_cons_succ]
        refine wpAnyH_done (by kernel_rfl) ?_ _
        go_wp2_with fail
        go_meet
        exact ⟨rfl, hcur⟩
      case rest =>
        obtain ⟨rfl, hb1⟩ := hcut
        go_wp2_with fail
        go_ret
        exact ⟨rfl, th hb0 hb1⟩
    · go_cut [31] (fun v wx => v = .bool true ∧ Below W0.heap.size W0 wx)
      case first =>
        go_region_held3 (fun w' => (w'.cell? ⟨w.heap.size, 0, none⟩ = some (.int .i64 z) ∧ w'.cell? ⟨w.heap.size, 1, none⟩ = some (.int .i64 d) ∧ w'.cell? ⟨w.heap.size, 2, none⟩ = some (.int .i64 s) ∧ w'.cell? ⟨w.heap.size, 3, none⟩ = some (.int .i64 l) ∧ w'.cell? ⟨w.heap.size, 4, none⟩ = some (.int .i64 a)) ∧ w'.cell? ⟨w.heap.size + 1, 0, none⟩ = some (.slice A n c) ∧ w'.cell? ⟨w.heap.size + 1, 1, none⟩ = some (.int .i64 nx) ∧ w'.cell? ⟨w.heap.size + 1, 2, none⟩ = some (.int .i64 rt)) (first | exact BX.out _ hcur | exact BX.out _ (hcur.alloc hcur.size _)) (first
          | (go_at_call 53; ((with_reducible refine (HSL.out _).mono ?_)); rintro e wA ⟨rfl, hzA⟩; have hcur := th hcur hzA)
          | (go_at_call 36; ((with_reducible refine (HIN.out _).mono ?_)); rintro e wB ⟨rfl, rfl⟩)
          | (go_at_call 35; ((with_reducible refine (HNUM.out _).mono ?_)); rintro e wC ⟨rfl, rfl⟩; have hcur := hcur.alloc hcur.size (.cells #[.int .i64 rt] 3)))
        all_goals (go_wp2_with fail; go_meet; exact ⟨rfl, hcur⟩)
      case rest =>
        obtain ⟨rfl, hb1⟩ := hcut
        go_wp2_with fail
        go_ret
        exact ⟨rfl, th hb0 hb1⟩

end Go.Proofs.YtdcoholjnlndgaaDoor
