/-
  The walks of the laws casematelaw08: wakes, AnchorFirst.
-/
import Derived.Test.YtamgpbkakmffiaaDoorAncR
import Derived.Test.YtamgpbkakmffiaaDoorAncF
import Derived.Test.YtamgpbkakmffiaaDoorZRef
namespace Go.Proofs.YtamgpbkakmffiaaDoor
open Go.RowKit Go.Lib
set_option linter.unusedVariables false
set_option maxRecDepth 100000

theorem upTo_len (k : Nat) : (upTo k).length = k := by simp [upTo]
theorem upTo_at {k i : Nat} (h : i < k) : (upTo k)[i]? = some (i : Int) := by
  unfold upTo
  rw [List.getElem?_map, List.getElem?_range h]
  rfl
theorem upTo_some {k i : Nat} {p : Int} (h : (upTo k)[i]? = some p) : i < k ∧ p = (i : Int) := by
  have hl := (List.getElem?_eq_some_iff.1 h).1
  rw [upTo_len] at hl
  rw [upTo_at hl] at h
  injection h with h
  exact ⟨hl, h.symm⟩
theorem upTo_pl (k : Nat) (next : Int) (h : (k : Int) ≤ next) : PlOk next (upTo k) := fun i p hp => by
  obtain ⟨h1, rfl⟩ := upTo_some hp
  refine ⟨⟨by omega, by omega⟩, fun hm => ?_⟩
  obtain ⟨y, hy, e⟩ := List.mem_iff_getElem.1 hm
  have hy2 : y < i := by rw [List.length_take] at hy; omega
  have h3 : ((upTo k).take i)[y]? = some (i : Int) := by rw [List.getElem?_eq_getElem hy, e]
  rw [List.getElem?_take, if_pos hy2] at h3
  have := (upTo_some h3).2
  omega
theorem newHom_ok {g : Geo} {d : Nat} (hG : GeoOk g) (hd : g.data = (d : Int)) : HomOk g (newHom d) := by
  have hs := hG.2.2.1
  refine ⟨by show ((upTo (d + 1)).length : Int) = _; rw [upTo_len, hd]; omega, ⟨by show g.data + 1 ≤ (d : Int) + 1; omega, by show (d : Int) + 1 ≤ _; omega⟩, ⟨by show (0 : Int) ≤ 0; omega, by show (0 : Int) ≤ 4294967295; omega⟩, upTo_pl _ _ (by show ((d + 1 : Nat) : Int) ≤ (d : Int) + 1; omega)⟩
theorem num_0 : NumOk 0 := by decide
theorem num_1 : NumOk 1 := by decide
theorem inI_0 : InI 0 := ⟨by omega, by omega⟩
theorem inI_1 : InI 1 := ⟨by omega, by omega⟩
theorem newAnc_ok {g : Geo} {z d : Nat} {name : ByteArray} (hG : GeoOk g) (hz : g.zones = (z : Int)) (hd : g.data = (d : Int)) (hl : labE (sL name) = 0) : AncOk g (newAnc z d name) := by
  have hs := hG.2.2.2.1
  refine ⟨⟨num_1, num_0, num_1, num_0, Int.le_refl 1, Int.le_refl 0, Int.le_refl 0, ?_⟩, hl, ?_, fun h hm => ?_⟩
  · show (0 : Int) ≤ g.slots - 1
    omega
  · show ((List.replicate z (newHom d)).length : Int) = _
    rw [List.length_replicate, hz]
  · obtain rfl := (List.mem_replicate.1 hm).2
    exact newHom_ok hG hd
theorem newAnc_in {z d : Nat} {name : ByteArray} (h : name.size ≤ maxLen) : (newAnc z d name).In := ⟨inI_1, inI_0, inI_0, inI_1, inI_0, h⟩
theorem newAnc_light {z d : Nat} {name : ByteArray} (h : name.size ≤ 60000) (hz : z ≤ 6000) (hd : d < 6000) : Light (newAnc z d name) := by
  refine ⟨h, by show (List.replicate z (newHom d)).length ≤ 6000; rw [List.length_replicate]; exact hz, fun x hm => ?_⟩
  obtain rfl := (List.mem_replicate.1 hm).2
  show (upTo (d + 1)).length ≤ 6000
  rw [upTo_len]
  omega
theorem noAnc_no {g : Geo} : ¬ AncOk g noAnc := fun h => by
  have h1 := h.1.2.2.2.2.1
  have h2 : (1 : Int) ≤ 0 := h1
  omega
theorem noAnc_in : noAnc.In := ⟨inI_0, inI_0, inI_0, inI_0, inI_0, Nat.zero_le _⟩
theorem noAnc_light : Light noAnc := ⟨Nat.zero_le _, Nat.zero_le _, fun h hm => by simp [noAnc] at hm⟩

/-! ### what the program's functions tell, case by case -/
theorem afirst_yes {g : Geo} {z d : Nat} {name : ByteArray} (hG : GeoOk g) (hz : g.zones = (z : Int)) (hd : g.data = (d : Int)) (hs : name.size ≤ 60000) (hl : labE (sL name) = 0) (w : World) (hT : Tabs w) :
    Calls Tryd.prog 33 #[g.v, .string name] w fun e w' => Below w.heap.size w w' ∧ ∃ V c, e = .returned (.tuple #[(newAnc z d name).v (.slice V z c), .int .i64 0]) ∧ Sl homR 3 w' (New w.heap.size w') V z c (List.replicate z (newHom d)) := by
  refine (afirst_any g name hs w hT).mono ?_
  rintro e w' ⟨hb, a, v, err, rfl, ⟨V, n, c, rfl, hsl⟩, ⟨h, _⟩ | ⟨_, h, _⟩ | ⟨_, _, rfl, rfl⟩⟩
  · exact absurd hG h
  · exact absurd hl h
  · rw [show g.zones.toNat = z by omega, show g.data.toNat = d by omega] at *
    have hn := hsl.len
    have hn2 : (newAnc z d name).homes.length = z := List.length_replicate
    rw [hn2] at hn
    subst hn
    exact ⟨hb, V, c, rfl, hsl⟩
theorem abytes_yes {g : Geo} {a : Anc} (hG : GeoOk g) (ho : AncOk g a) {A : Option Addr} {n c : Nat} {w : World} (hT : Tabs w) (ha : Sl homR 3 w (Old w) A n c a.homes) (hin : a.In) (hl : Light a) :
    Calls Tryd.prog 34 #[g.v, a.v (.slice A n c)] w fun e w' => Below w.heap.size w w' ∧ ∃ V cv, e = .returned (.tuple #[.slice V (ancL a).length cv, .int .i64 0]) ∧ Ow byteR 1 w' w.heap.size 0 5 (.slice V (ancL a).length cv) (ancL a).length (ancL a) := by
  refine (abytes_any g a A n c w hT ha hin hl).mono ?_
  rintro e w' ⟨hb, V, m, cv, l, err, rfl, ho2, ⟨h, _⟩ | ⟨_, rfl, rfl⟩⟩
  · exact absurd ⟨hG, ho⟩ h
  · obtain rfl := ho2.len
    exact ⟨hb, V, cv, rfl, ho2⟩
theorem aread_yes {g : Geo} {a : Anc} (hG : GeoOk g) (ho : AncOk g a) {A : Option Addr} {n c : Nat} {w : World} (hT : Tabs w) (hb : Bs w A n c (ancL a)) (hn : n ≤ 60000) :
    Calls Tryd.prog 35 #[g.v, .slice A n c] w fun e w' => Below w.heap.size w w' ∧ ∃ V cv, e = .returned (.tuple #[a.v (.slice V a.homes.length cv), .int .i64 0]) ∧ Sl homR 3 w' (New w.heap.size w') V a.homes.length cv a.homes := by
  have hbk := anc_back hG ho
  refine (aread_any g A n c _ w hT hb hn).mono ?_
  rintro e w' ⟨hbl, a', v, err, rfl, ⟨V, m, cv, rfl, hsl⟩, ⟨h, _⟩ | ⟨_, h1, h2, rfl⟩ | ⟨_, h, _⟩⟩
  · exact absurd hG h
  · rw [hbk] at h1
    injection h1 with h1
    subst h1
    obtain rfl := hsl.len
    exact ⟨hbl, V, cv, rfl, hsl⟩
  · exact absurd ho (h a hbk)
theorem acheck_yes {g : Geo} {a : Anc} (hG : GeoOk g) (ho : AncOk g a) {A : Option Addr} {n c : Nat} {w : World} (hT : Tabs w) (ha : Sl homR 3 w (Old w) A n c a.homes) (hin : a.In) (hl : Light a) :
    Calls Tryd.prog 36 #[g.v, a.v (.slice A n c)] w fun e w' => e = .returned (.int .i64 0) ∧ Below w.heap.size w w' := by
  have h := acheck_any g a A n c w hT ha hin hl
  rwa [show ancErr g a = 0 from if_pos ⟨hG, ho⟩] at h
theorem acheck_no {g : Geo} {a : Anc} (ho : ¬ AncOk g a) {A : Option Addr} {n c : Nat} {w : World} (hT : Tabs w) (ha : Sl homR 3 w (Old w) A n c a.homes) (hin : a.In) (hl : Light a) :
    Calls Tryd.prog 36 #[g.v, a.v (.slice A n c)] w fun e w' => e = .returned (.int .i64 1) ∧ Below w.heap.size w w' := by
  have h := acheck_any g a A n c w hT ha hin hl
  rwa [show ancErr g a = 1 from if_neg (fun h => ho h.2)] at h
theorem lab_v : labE [118] = 0 := by
  have h : decs [118] = [(118, 1)] := by rw [← decsF_eq 1 _ (by decide)]; decide +kernel
  rw [labE_ok, h]
  exact ⟨by decide, by decide⟩

set_option maxHeartbeats 4000000 in
theorem wakes08 (w : World) (hT : Tabs w) : Calls Tryd.prog 37 #[] w fun e w' => e = .returned (.bool true) ∧ Below w.heap.size w w' := by
  have hs0 := fun w => some_any 0 0 0 0 0 inI_0 inI_0 inI_0 inI_0 inI_0 w
  rw [some_zero] at hs0
  have hok : AncOk ⟨1, 1, 0, 14, 1⟩ (newAnc 1 1 (mkS [118])) := newAnc_ok geo_one rfl rfl lab_v
  have hin : (newAnc 1 1 (mkS [118])).In := newAnc_in (by decide)
  have hlt : Light (newAnc 1 1 (mkS [118])) := newAnc_light (by decide) (by omega) (by omega)
  have hfi := fun w hT => afirst_yes (g := ⟨1, 1, 0, 14, 1⟩) (z := 1) (d := 1) (name := mkS [118]) geo_one rfl rfl (by decide) lab_v w hT
  have hby := fun (V : Option Addr) (c : Nat) (w : World) (hT : Tabs w) (h : Sl homR 3 w (Old w) V 1 c (List.replicate 1 (newHom 1))) => abytes_yes (a := newAnc 1 1 (mkS [118])) geo_one hok hT h hin hlt
  have hrd := fun (V : Option Addr) (n c : Nat) (w : World) (hT : Tabs w) (h : Bs w V n c (ancL (newAnc 1 1 (mkS [118])))) (hn : n ≤ 60000) => aread_yes geo_one hok hT h hn
  have hno := fun (w : World) (hT : Tabs w) => acheck_no (g := ⟨1, 1, 0, 14, 1⟩) (a := noAnc) noAnc_no (A := none) (n := 0) (c := 0) (w := w) hT (Sl.nil_ _) noAnc_in noAnc_light
  have hl26 : (ancL (newAnc 1 1 (mkS [118]))).length = 26 := by
    rw [ancL_len (d := 1) (fun h hm => by obtain rfl := (List.mem_replicate.1 hm).2; exact upTo_len 2)]
    rfl
  rw [hl26] at hby
  unfold Geo.v Anc.v newAnc at hfi hby hrd
  unfold Geo.v Anc.v noAnc at hno
  unfold Geo.v at hs0
  dsimp only at hfi hby hrd hno hs0
  simp only [List.length_replicate] at hrd
  unfold mkS at hfi hby hrd
  have HS0 := hide hs0
  have HFI := hide hfi
  have HBY := hide hby
  have HRD := hide hrd
  have HNO := hide hno
  clear hs0 hfi hby hrd hno hok hin hlt hl26
  go_enter Tryd.func37, Tryd.ntmps37
  go_wp2_with fail
  refine (HS0.out _).mono ?_
  rintro e w1 ⟨rfl, hb1⟩
  have hE2 := alloc_below w1 (.cells #[.int .i64 1, .int .i64 1, .int .i64 0, .int .i64 14, .int .i64 1] 23)
  have hgb := GeoAt.new w1 ⟨1, 1, 0, 14, 1⟩ 23
  have HGB := hide hgb
  have hb02 := th hb1 hE2
  clear hgb
  go_wp2_with fail
  refine (HFI.out _ (hT.below hb02)).mono ?_
  rintro e w3 ⟨hb3, V3, c3, rfl, hs3⟩
  have hE4 := alloc_below w3 (.cells #[.int .i64 1, .int .i64 0, .int .i64 0, .int .i64 1, .int .i64 0, .string ⟨[118].toArray⟩, .slice V3 1 c3] 26)
  have hb24 := th hb3 hE4
  have hb04 := th hb02 hb24
  have hs4 := (hs3.old_ homR_fine).on homR_fine hE4
  obtain ⟨_, p0, p1, p2, p3, p4⟩ := HGB.out.on hb24
  go_wp2_with fail
  refine (HBY.out _ _ _ (hT.below hb04) hs4).mono ?_
  rintro e w5 ⟨hb5, V5, c5, rfl, ho5⟩
  have hb05 := th hb04 hb5
  obtain ⟨_, p0, p1, p2, p3, p4⟩ := HGB.out.on (th hb24 hb5)
  go_wp2_with fail
  refine (HRD.out _ _ _ _ (hT.below hb05) (ho5.read byteR_fine) (by omega)).mono ?_
  rintro e w6 ⟨hb6, V6, c6, rfl, hs6⟩
  have hb06 := th hb05 hb6
  have hE7 := alloc_below w6 (.cells #[.int .i64 1, .int .i64 0, .int .i64 0, .int .i64 1, .int .i64 0, .string ⟨[118].toArray⟩, .slice V6 1 c6] 26)
  have hb07 := th hb06 hE7
  obtain ⟨ad, x, A', m, c', rfl, hadl, hx, _, _, _, d0, d1, d2⟩ := at_hom ((hs6.old_ homR_fine).on homR_fine hE7) (show 0 < 1 by omega)
  obtain rfl : newHom 1 = x := by simpa using hx
  rw [Nat.zero_mul, add_zero'] at d0 d1 d2
  have d1' : (w6.alloc (.cells #[.int .i64 1, .int .i64 0, .int .i64 0, .int .i64 1, .int .i64 0, .string ⟨[118].toArray⟩, .slice (some ad) 1 c6] 26)).cell? ⟨ad.block, ad.off + 1, none⟩ = some (.int .i64 2) := d1
  obtain ⟨_, p0, p1, p2, p3, p4⟩ := HGB.out.on (th hb24 (th hb5 (th hb6 hE7)))
  clear hx d0 d1 d2
  go_wp2_with fail
  refine (HNO.out _ (hT.below hb07)).mono ?_
  rintro e w8 ⟨rfl, hb8⟩
  go_wp2_with fail
  go_ret
  exact ⟨rfl, th hb07 hb8⟩

set_option maxHeartbeats 4000000 in
theorem law_anchorFirst {w : World} (hT : Tabs w) (z : Int) (hz : InI z) (d : Int) (hd : InI d) (s : Int) (hs : InI s) (l : Int) (hl : InI l) (a : Int) (ha : InI a) (name : ByteArray) (hnm : name.size ≤ maxLen) :
    Calls Tryd.prog 8 #[.int .i64 z, .int .i64 d, .int .i64 s, .int .i64 l, .int .i64 a, .string name] w fun e w' => e = .returned (.bool true) ∧ Below w.heap.size w w' := by
  by_cases h100 : name.size ≤ 100
  · have hi0 : ¬ (100 : Int) < (name.size : Int) := by omega
    have hs0 := fun w => some_any z d s l a hz hd hs hl ha w
    have hgo := someG_ok z d s l a
    obtain ⟨g, hg⟩ : ∃ g, g = someG z d s l a := ⟨_, rfl⟩
    rw [← hg] at hs0 hgo
    obtain ⟨Z, hZ⟩ : ∃ Z : Nat, g.zones = (Z : Int) := ⟨g.zones.toNat, by have := hgo.1; omega⟩
    obtain ⟨D, hD⟩ : ∃ D : Nat, g.data = (D : Int) := ⟨g.data.toNat, by have := hgo.2.1; omega⟩
    have hZ4 : Z ≤ 4 := by have := hgo.1; omega
    have hD4 : D ≤ 4 := by have := hgo.2.1; omega
    obtain ⟨E, hE⟩ : ∃ E, E = labE (sL name) := ⟨_, rfl⟩
    have hfi := fun w hT => afirst_any g name (by omega) w hT
    unfold AFirstPost AFirst at hfi
    have HGO := hide hgo
    have HE := hide hE
    have HEC := hide (labE_cases (sL name))
    have HZ := hide hZ
    have HD := hide hD
    unfold Geo.v at hs0 hfi
    obtain ⟨gz, gd, gs, gl, ga⟩ := g
    dsimp only at hZ hD hs0 hfi
    subst hZ
    subst hD
    have HS0 := hide hs0
    have HFI := hide hfi
    clear hs0 hfi hg hgo hE hz hd hs hl ha
    go_enter Tryd.func8, Tryd.ntmps8
    go_wp2_with fail
    refine (HS0.out _).mono ?_
    rintro e w1 ⟨rfl, hb1⟩
    have hE2 := alloc_below w1 (.cells #[.int .i64 Z, .int .i64 D, .int .i64 gs, .int .i64 gl, .int .i64 ga] 23)
    have hgb := GeoAt.new w1 ⟨(Z : Int), (D : Int), gs, gl, ga⟩ 23
    have HGB := hide hgb
    have hb02 := th hb1 hE2
    clear hgb
    go_wp2_with fail
    refine (HFI.out _ (hT.below hb02)).mono ?_
    rintro e w3 ⟨hb3, a, v, err, rfl, ⟨V3, n3, c3, rfl, hs3⟩, hq⟩
    have hE4 : ∀ o, Below w3.heap.size w3 (w3.alloc o) := fun o => alloc_below w3 o
    rcases hq with ⟨h, _⟩ | ⟨_, hne, rfl, rfl⟩ | ⟨_, hl0, rfl, rfl⟩
    · exact absurd HGO.out h
    · have hec := HEC.out
      rw [← HE.out] at hec hne ⊢
      have hEn : (E != 0) = true := by simpa using hne
      have hcase : E = 2 ∨ E = 3 := by rcases hec with h | h | h; exact absurd h hne; exact .inl h; exact .inr h
      unfold Anc.v noAnc
      dsimp only
      clear hec hne
      rcases hcase with rfl | rfl
      all_goals
        go_wp2_with fail
        refine (wakes08 _ (hT.below (th hb02 (th hb3 (hE4 _))))).mono ?_
        rintro e w5 ⟨rfl, hb5⟩
        go_wp2_with fail
        go_ret
        exact ⟨rfl, th hb02 (th hb3 (th (hE4 _) hb5))⟩
    · have hok : AncOk ⟨(Z : Int), (D : Int), gs, gl, ga⟩ (newAnc Z D name) := newAnc_ok HGO.out rfl rfl hl0
      have hn3 : n3 = Z := by
        have h1 := hs3.len
        have h2 : (newAnc (Z : Int).toNat (D : Int).toNat name).homes.length = Z := List.length_replicate
        rw [← h1, h2]
      subst hn3
      have hs3' : Sl homR 3 w3 (New _ w3) V3 n3 c3 (List.replicate n3 (newHom D)) := hs3
      obtain ⟨W4, hW4⟩ : ∃ W4, W4 = w3.alloc (.cells #[.int .i64 1, .int .i64 0, .int .i64 0, .int .i64 1, .int .i64 0, .string name, .slice V3 n3 c3] 26) := ⟨_, rfl⟩
      have hb34 : Below w3.heap.size w3 W4 := by rw [hW4]; exact alloc_below _ _
      have hb04 := th hb02 (th hb3 hb34)
      have hs4 := (hs3'.old_ homR_fine).on homR_fine hb34
      have hg4 := HGB.out.on (th hb3 hb34)
      have hv4 : Sev W4 w3.heap.size (.int .i64 1) (.int .i64 0) (.int .i64 0) (.int .i64 1) (.int .i64 0) (.string name) (.slice V3 n3 c3) := by rw [hW4]; exact Sev.new rfl (Below.refl _ _)
      have hN4 : w3.heap.size < W4.heap.size := by rw [hW4]; simp
      have hck := acheck_yes HGO.out hok (A := V3) (n := n3) (c := c3) (hT.below hb04) hs4 (newAnc_in hnm) (newAnc_light (by omega) (by omega) (by omega))
      unfold Geo.v at hck
      unfold Anc.v newAnc at hck ⊢
      dsimp only at hck ⊢
      have HCK := hide hck
      have HG4 := hide hg4
      have HV4 := hide hv4
      have hg4x := hg4.2
      rw [hW4] at hg4x hv4
      obtain ⟨p0, p1, p2, p3, p4⟩ := hg4x
      obtain ⟨q0, q1, q2, q3, q4, q5, q6⟩ := hv4
      have HW4 := hide hW4
      have hE0 : labE (sL name) = 0 := hl0
      clear hck hok hs3 hs3' hg4 hW4 hl0 hE0
      go_wp2_with fail
      rw [← HW4.out]
      refine HCK.out.mono ?_
      rintro e w5 ⟨rfl, hb5⟩
      obtain ⟨_, p0, p1, p2, p3, p4⟩ := HG4.out.on hb5
      obtain ⟨q0, q1, q2, q3, q4, q5, q6⟩ := HV4.out.on hN4 hb5
      go_wp2_with fail
      go_loopw [16] (fun i wr => ∃ k : Nat, k ≤ n3 ∧ i = .int .i64 k ∧ Below W4.heap.size W4 wr) (fun i _ => n3 - (RowKit.intOf i).toNat)
      case atStart => exact ⟨0, Nat.zero_le _, rfl, hb5⟩
      case round =>
        obtain ⟨k, hk, rfl, hb⟩ := hrel
        obtain ⟨wo, rfl⟩ : ∃ wo : World, wo = wr := ⟨_, rfl⟩
        obtain ⟨_, p0, p1, p2, p3, p4⟩ := HG4.out.on hb
        obtain ⟨q0, q1, q2, q3, q4, q5, q6⟩ := HV4.out.on hN4 hb
        by_cases hlt : k < n3
        · obtain ⟨ad, x, A', m, c', rfl, hadl, hx, _, _, hs, d0, d1, d2⟩ := at_hom (hs4.on homR_fine hb) hlt
          obtain rfl := (List.mem_replicate.1 (List.mem_of_getElem? hx)).2
          have hm : m = D + 1 := by rw [← hs.len]; exact upTo_len _
          subst hm
          have d1' : wo.cell? ⟨(ad.add (k * 3)).block, (ad.add (k * 3)).off + 1, none⟩ = some (.int .i64 ((D : Int) + 1)) := d1
          have d2' : wo.cell? ⟨(ad.add (k * 3)).block, (ad.add (k * 3)).off + 2, none⟩ = some (.int .i64 0) := d2
          obtain ⟨WH, hWH⟩ : ∃ WH, WH = wo.alloc (.cells #[.slice A' (D + 1) c', .int .i64 ((D : Int) + 1), .int .i64 0] 44) := ⟨_, rfl⟩
          have hbh : Below wo.heap.size wo WH := by rw [hWH]; exact alloc_below _ _
          have bh : ∀ W, Below WH.heap.size WH W → W.cell? ⟨wo.heap.size, 0, none⟩ = some (.slice A' (D + 1) c') := fun W hW => by
            subst hWH
            exact box_cell hW 0 _ rfl
          have BH := hide bh
          have hsH := hs.on intR_fine hbh
          have hbH := th hb hbh
          have hpx := (HG4.out.on hbH).2
          rw [hWH] at hpx
          obtain ⟨pp0, pp1, pp2, pp3, pp4⟩ := hpx
          clear bh d1 d2 hx
          go_wp2_with fail
          rw [← hWH]
          clear hWH
          go_loopw [18] (fun i wr => ∃ j : Nat, j ≤ D + 1 ∧ i = .int .i64 j ∧ Below WH.heap.size WH wr) (fun i _ => D + 1 - (RowKit.intOf i).toNat)
          case atStart => exact ⟨0, Nat.zero_le _, rfl, Below.refl _ _⟩
          case round =>
            obtain ⟨j, hj, rfl, hbj⟩ := hrel
            have u0 := BH.out _ hbj
            by_cases hltj : j < D + 1
            · obtain ⟨pd, p, rfl, hpdl, hp, hpi, hpc⟩ := at_int (hsH.on intR_fine hbj) hltj
              obtain rfl := (upTo_some hp).2
              clear hp hpi
              go_wp2_with fail
              go_roundw
              case rel => exact ⟨j + 1, by omega, by go_num, hbj⟩
              case measure => (first | omega | (simp [RowKit.intOf]; omega) | (unfold RowKit.intOf; simp; omega) | go_num)
            · obtain rfl : j = D + 1 := by omega
              go_wp2_with fail
              go_roundw
              case rel => exact ⟨k + 1, by omega, by go_num, th hbH hbj⟩
              case measure => (first | omega | (simp [RowKit.intOf]; omega) | (unfold RowKit.intOf; simp; omega) | go_num)
        · obtain rfl : k = n3 := by omega
          go_wp2_with fail
          refine (wakes08 _ (hT.below (th hb04 hb))).mono ?_
          rintro e w8 ⟨rfl, hb8⟩
          go_wp2_with fail
          go_ret
          exact ⟨rfl, th hb04 (th hb hb8)⟩
  · have hi0 : (100 : Int) < (name.size : Int) := by omega
    go_enter Tryd.func8, Tryd.ntmps8
    go_wp2_with fail
    go_ret
    exact ⟨rfl, Below.refl _ _⟩

end Go.Proofs.YtamgpbkakmffiaaDoor
