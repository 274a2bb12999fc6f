/-
  The walks of casematelaw11.wakes, PlaceStays.
-/
import Derived.Test.YtjlppkbmapmbiaaDoorPl4
import Derived.Test.YtjlppkbmapmbiaaDoorAncG
import Derived.Test.YtjlppkbmapmbiaaDoorAncA
namespace Go.Proofs.YtjlppkbmapmbiaaDoor
open Go.RowKit Go.Lib
set_option linter.unusedVariables false
set_option maxRecDepth 100000

theorem um_raws {i n : Int} {k : Nat} (h : um i n = (k : Int)) (hn : 1 ≤ n) (hn' : n ≤ 4294967296) : (IntKind.u64.wrap i).tmod n = (k : Int) ∧ IntKind.u64.wrap i % n = (k : Int) := by
  have h0 : 0 ≤ IntKind.u64.wrap i := by rw [IntKind.wrap_u64]; exact Int.emod_nonneg _ (by omega)
  have h1 : (IntKind.u64.wrap i).tmod n = IntKind.u64.wrap i % n := Int.tmod_eq_emod_of_nonneg h0
  have h2 : 0 ≤ IntKind.u64.wrap i % n := Int.emod_nonneg _ (by omega)
  have h3 : IntKind.u64.wrap i % n < n := Int.emod_lt_of_pos _ (by omega)
  unfold um at h
  rw [h1, IntWalk.wrap64_in _ ⟨by omega, by omega⟩] at h
  exact ⟨by rw [h1, h], h⟩
theorem um_at (i : Int) {n : Int} (hn : 1 ≤ n) (hn' : n ≤ 4294967296) : ∃ k : Nat, um i n = (k : Int) ∧ (k : Int) < n := by
  obtain ⟨k, h1, h2⟩ := um_is i n.toNat (by omega) (by omega)
  rw [Int.toNat_of_nonneg (by omega)] at h1
  exact ⟨k, h1, by omega⟩
theorem some_move : someG 0 2 1 0 0 = ⟨1, 3, 1, 14, 1⟩ := by
  have h2 : um 2 4 = 2 := by unfold um; decide +kernel
  have h1 : um 1 3 = 1 := by unfold um; decide +kernel
  unfold someG
  rw [h1, h2]
  simp only [um_zero]
  rfl
theorem geo_move : GeoOk ⟨1, 3, 1, 14, 1⟩ := by decide
theorem lab_nil : labE (sL ⟨#[]⟩) = 0 := by
  have h : decs (sL ⟨#[]⟩) = [] := by
    have e : sL ⟨#[]⟩ = [] := rfl
    rw [e, ← decsF_eq 0 _ (by decide)]; rfl
  rw [labE_ok, h]
  exact ⟨by decide, by decide⟩

set_option maxHeartbeats 4000000 in
theorem wakes11 (w : World) (hT : Tabs w) : Calls Tryd.prog 11 #[] w fun e w' => e = .returned (.bool true) ∧ Below w.heap.size w w' := by
  have hs0 := fun w => some_any 0 2 1 0 0 inI_0 ⟨by omega, by omega⟩ inI_1 inI_0 inI_0 w
  rw [some_move] at hs0
  have hok : AncOk ⟨1, 3, 1, 14, 1⟩ (newAnc 1 3 ⟨#[]⟩) := newAnc_ok geo_move rfl rfl lab_nil
  have hin : (newAnc 1 3 ⟨#[]⟩).In := newAnc_in (by decide)
  have hlt : Light (newAnc 1 3 ⟨#[]⟩) := newAnc_light (by decide) (by omega) (by omega)
  have hpl : PlaceOk ⟨1, 3, 1, 14, 1⟩ (newAnc 1 3 ⟨#[]⟩) ((0 : Nat) : Int) (-1) := ⟨geo_move, hok, ⟨by decide, by decide⟩, isP_par _⟩
  have hz : (newAnc 1 3 ⟨#[]⟩).homes[0]? = some (newHom 3) := rfl
  have hfi := fun w => rafirst_any (g := ⟨1, 3, 1, 14, 1⟩) (z := 1) (d := 3) rfl rfl (by omega) (by omega) ⟨#[]⟩ w
  have hmok : AncOk ⟨1, 3, 1, 14, 1⟩ (moveA (newAnc 1 3 ⟨#[]⟩) 0 (newHom 3) 3) := move_ok geo_move hok hz (by decide) 3
  have had := fun (V : Option Addr) (c : Nat) (w : World) (hT : Tabs w) (h : Sl homR 3 w (Old w) V 1 c (List.replicate 1 (newHom 3))) => paddr_yes ⟨1, 3, 1, 14, 1⟩ (newAnc 1 3 ⟨#[]⟩) V 1 c 0 3 (-1) w hT h hin hlt hpl (newHom 3) hz rfl 3 rfl
  have hmv := fun (V : Option Addr) (c : Nat) (w : World) (hT : Tabs w) (h : Sl homR 3 w (Old w) V 1 c (List.replicate 1 (newHom 3))) => pmove_yes ⟨1, 3, 1, 14, 1⟩ (newAnc 1 3 ⟨#[]⟩) V 1 c 0 3 (-1) w hT h hin hlt hpl (newHom 3) hz rfl (by decide)
  obtain ⟨MH, hMH⟩ : ∃ MH, MH = (moveA (newAnc 1 3 ⟨#[]⟩) 0 (newHom 3) 3).homes := ⟨_, rfl⟩
  have hM0 : MH[0]? = some { places := (newHom 3).places.set 3 4, next := 5, root := 0 } := by rw [hMH]; rfl
  have hsp := fun (V : Option Addr) (c : Nat) (w : World) (hT : Tabs w) (h : Sl homR 3 w (Old w) V 1 c (moveA (newAnc 1 3 ⟨#[]⟩) 0 (newHom 3) 3).homes) => pspares_yes ⟨1, 3, 1, 14, 1⟩ (moveA (newAnc 1 3 ⟨#[]⟩) 0 (newHom 3) 3) V 1 c 0 w hT h hin (move_light hlt hz) ⟨geo_move, hmok, ⟨by decide, by decide⟩, isP_par _⟩ _ (moved_at hz)
  have e34 : slotN ⟨1, 3, 1, 14, 1⟩ ((0 : Nat) : Int) 3 = 34 := rfl
  have e35 : slotN ⟨1, 3, 1, 14, 1⟩ ((0 : Nat) : Int) (newHom 3).next = 35 := rfl
  have esp : (3 : Int) + 1 + 1 - ((newHom 3).next + 1) = 0 := rfl
  rw [← hMH] at hmv hsp
  rw [e34] at had
  rw [e35] at hmv
  unfold Geo.v Anc.v newAnc at hfi had
  unfold Geo.v Anc.v moveA newAnc at hmv hsp
  unfold Geo.v at hs0
  dsimp only at hfi had hmv hsp hs0
  rw [esp] at hsp
  have HS0 := hide hs0
  have HFI := hide hfi
  have HAD := hide had
  have HMV := hide hmv
  have HSP := hide hsp
  have HM0 := hide hM0
  clear hs0 hfi had hmv hsp hM0 hok hin hlt hpl hz hmok hMH e34 e35 esp
  go_enter Tryd.func11, Tryd.ntmps11
  go_wp2_with fail
  refine (HS0.out _).mono ?_
  rintro e w1 ⟨rfl, hb1⟩
  have hE2 := alloc_below w1 (.cells #[.int .i64 1, .int .i64 3, .int .i64 1, .int .i64 14, .int .i64 1] 24)
  have hgb := GeoAt.new w1 ⟨1, 3, 1, 14, 1⟩ 24
  have HGB := hide hgb
  have hb02 := th hb1 hE2
  clear hgb
  go_wp2_with fail
  refine (HFI.out _).mono ?_
  rintro e w3 ⟨hb3, V3, c3, rfl, hs3⟩
  obtain ⟨W4, hW4⟩ : ∃ W4, W4 = w3.alloc (.cells #[.int .i64 1, .int .i64 0, .int .i64 0, .int .i64 1, .int .i64 0, .string ⟨#[]⟩, .slice V3 1 c3] 28) := ⟨_, rfl⟩
  have hE4 : Below w3.heap.size w3 W4 := by rw [hW4]; exact alloc_below _ _
  have hv4 : Sev W4 w3.heap.size (.int .i64 1) (.int .i64 0) (.int .i64 0) (.int .i64 1) (.int .i64 0) (.string ⟨#[]⟩) (.slice V3 1 c3) := by rw [hW4]; exact Sev.new rfl (Below.refl _ _)
  have hN4 : w3.heap.size < W4.heap.size := by rw [hW4]; simp
  have hb24 := th hb3 hE4
  have hb04 := th hb02 hb24
  have hs4 := (hs3.old_ homR_fine).on homR_fine hE4
  have HV4 := hide hv4
  have hgq := (HGB.out.on hb24).2
  rw [hW4] at hgq hv4
  obtain ⟨p0, p1, p2, p3, p4⟩ := hgq
  obtain ⟨q0, q1, q2, q3, q4, q5, q6⟩ := hv4
  go_wp2_with fail
  rw [← hW4]
  clear hW4 p0 p1 p2 p3 p4 q0 q1 q2 q3 q4 q5 q6
  refine (HAD.out _ _ _ (hT.below hb04) hs4).mono ?_
  rintro e w5 ⟨rfl, hb5⟩
  have hb05 := th hb04 hb5
  obtain ⟨_, p0, p1, p2, p3, p4⟩ := HGB.out.on (th hb24 hb5)
  obtain ⟨q0, q1, q2, q3, q4, q5, q6⟩ := HV4.out.on hN4 hb5
  go_wp2_with fail
  refine (HMV.out _ _ _ (hT.below hb05) (hs4.on homR_fine hb5)).mono ?_
  rintro e w6 ⟨hb6, V6, c6, rfl, how6⟩
  have hs6 := how6.read
  obtain ⟨W7, hW7⟩ : ∃ W7, W7 = w6.alloc (.cells #[.int .i64 1, .int .i64 0, .int .i64 0, .int .i64 1, .int .i64 0, .string ⟨#[]⟩, .slice V6 1 c6] 28) := ⟨_, rfl⟩
  have hE7 : Below w6.heap.size w6 W7 := by rw [hW7]; exact alloc_below _ _
  have hv7 : Sev W7 w6.heap.size (.int .i64 1) (.int .i64 0) (.int .i64 0) (.int .i64 1) (.int .i64 0) (.string ⟨#[]⟩) (.slice V6 1 c6) := by rw [hW7]; exact Sev.new rfl (Below.refl _ _)
  have hN7 : w6.heap.size < W7.heap.size := by rw [hW7]; simp
  have hs7 := (hs6.old_ homR_fine).on homR_fine hE7
  have hb07 := th hb05 (th hb6 hE7)
  have HV7 := hide hv7
  have hgq := (HGB.out.on (th hb24 (th hb5 (th hb6 hE7)))).2
  rw [hW7] at hgq hv7
  obtain ⟨p0, p1, p2, p3, p4⟩ := hgq
  obtain ⟨q0, q1, q2, q3, q4, q5, q6⟩ := hv7
  go_wp2_with fail
  rw [← hW7]
  clear hW7 p0 p1 p2 p3 p4 q0 q1 q2 q3 q4 q5 q6
  refine (HSP.out _ _ _ (hT.below hb07) hs7).mono ?_
  rintro e w8 ⟨rfl, hb8⟩
  obtain ⟨ad, x, A', m, c', rfl, hadl, hx, _, _, _, d0, d1, d2⟩ := at_hom (hs7.on homR_fine hb8) (show 0 < 1 by omega)
  obtain rfl : x = { places := (newHom 3).places.set 3 4, next := 5, root := 0 } := by have := HM0.out; rw [hx] at this; injection this
  rw [Nat.zero_mul, add_zero'] at d0 d1 d2
  have d1' : w8.cell? ⟨ad.block, ad.off + 1, none⟩ = some (.int .i64 5) := d1
  obtain ⟨q0, q1, q2, q3, q4, q5, q6⟩ := HV7.out.on hN7 hb8
  clear hx d0 d1 d2
  go_wp2_with fail
  go_ret
  exact ⟨rfl, th hb07 hb8⟩

/-- The block at i of the zone k of a right anchor. -/
theorem place_at {g : Geo} {a : Anc} (hG : GeoOk g) (ho : AncOk g a) {k i : Nat} (hk : (k : Int) < g.zones) (hi : (i : Int) ≤ g.data) : ∃ h p, a.homes[k]? = some h ∧ h.places[i]? = some p ∧ p ≤ h.next - 1 := by
  have hkl : k < a.homes.length := by have := ho.2.2.1; omega
  have hh := ho.2.2.2 a.homes[k] (List.getElem_mem hkl)
  have hil : i < a.homes[k].places.length := by have := hh.1; omega
  exact ⟨a.homes[k], a.homes[k].places[i], List.getElem?_eq_getElem hkl, List.getElem?_eq_getElem hil, (hh.2.2.2 i _ (List.getElem?_eq_getElem hil)).1.2⟩

end Go.Proofs.YtjlppkbmapmbiaaDoor
