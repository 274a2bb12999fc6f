/-
  The walk of casematelaw14.StripeImages.
-/
import Derived.Test.YtikjhcfalofgaaaLawS1
import Derived.Test.YtikjhcfalofgaaaStrI
import Derived.Test.YtikjhcfalofgaaaTabF
import Derived.Deep.RegionHeld3
namespace Go.Proofs.Ytikjhcfalofgaaa
open Go.RowKit Go.Lib
set_option linter.unusedVariables false
set_option maxRecDepth 100000

theorem balS {w W : World} (h : Below w.heap.size w W) (o : Obj) : Below w.heap.size w (W.alloc o) := h.alloc h.size o
theorem undrewS {w w' : World} (h : Below w.drew.heap.size w.drew w') : Below w.heap.size w w' := th (Below.refl _ _).drew h
theorem tab_backS {d : Int} {L : List Ent} (h : TabOk d L) : ReadOk d (tabL L) ∧ tabOf (d + 1).toNat (tabL L) = L := by
  have e : L.length = (d + 1).toNat := by have := h.1; omega
  have h1 := tabOf_L h.2.1 []
  rw [List.append_nil] at h1
  have h2 := tabL_of (k := L.length) (l := tabL L) (by rw [tabL_len]; exact Nat.le_refl _)
  rw [h1, List.take_of_length_le (by rw [tabL_len]; exact Nat.le_refl _)] at h2
  have h3 := h2.1 rfl
  rw [← e]
  refine ⟨⟨by rw [tabL_len]; have := h.1; omega, by rw [← e]; exact h3, by rw [← e, h1]; exact h⟩, h1⟩
theorem rd_yes {g : Geo} {A : Option Addr} {n c : Nat} {L : List Ent} (hG : GeoOk g) (hT : TabOk g.data L) (w : World) (ha : Bs w A n c (tabL L)) (hn : n ≤ 60000) :
    Calls Try.prog 29 #[g.v, .slice A n c] w fun e w' => Below w.heap.size w w' ∧ ∃ V m c, e = .returned (.tuple #[.agg #[.slice V m c], .int .i64 0]) ∧ Sl entR 3 w' (New w.heap.size w') V m c L := by
  refine (read_any A n c (tabL L) g w ha hn).mono ?_
  rintro e w' ⟨hb, V, m, cv, T, er, rfl, hs, hq⟩
  obtain ⟨h1, h2⟩ := tab_backS hT
  unfold RdQ at hq
  rcases hq with ⟨h, _⟩ | ⟨_, _, rfl, rfl⟩ | ⟨_, h, _⟩
  · exact absurd hG h
  · rw [h2] at hs
    exact ⟨hb, V, m, cv, rfl, hs⟩
  · exact absurd h1 h
theorem imErr_zero {g : Geo} {z : Int} {L : List Ent} {par : List UInt8} {ats : List Int} {bl : List (List UInt8)} (h : imErr g z L par ats bl = 0) : (GeoOk g ∧ TabOk g.data L) ∧ ((0 ≤ z ∧ z < g.zones) ∧ AtsOk g.data ats) ∧ (bl.length = ats.length ∧ ∀ x ∈ bl, x.length = 8) ∧ par.length = 8 := by
  unfold imErr at h
  split at h
  · cases h
  · split at h
    · cases h
    · split at h
      · cases h
      · rename_i h1 h2 h3
        exact ⟨Classical.not_not.1 h1, Classical.not_not.1 h2, Classical.not_not.1 h3⟩

/-- A table that was read, in a box. -/
def RdAt (w3 : World) (L : List Ent) (u v : Value) (wx : World) : Prop := v = .int .i64 0 ∧ ∃ N V m c, u = .pointer (some ⟨N, 0, none⟩) ∧ wx.cell? ⟨N, 0, none⟩ = some (.slice V m c) ∧ Sl entR 3 wx (Old wx) V m c L ∧ Below w3.heap.size w3 wx

set_option maxHeartbeats 4000000 in
theorem stripeImages_core {w : World} (g : Geo) (z : Int) (hz : InI z) {A P C E : Option Addr} {n c m cP q cq p cp : Nat} {L : List Ent} {par : List UInt8} {ats : List Int} {bl : List (List UInt8)} (ha : Sl entR 3 w (Old w) A n c L) (hP : Bs w P m cP par) (hc : Is w C q cq ats) (hb : Rs w E p cp bl) :
    Calls Try.prog 7 #[g.v, .int .i64 z, .agg #[.slice A n c], .slice P m cP, .slice C q cq, .slice E p cp] w fun e w' => e = .returned (.bool true) ∧ Below w.heap.size w w' := by
  have hhv := fun w ha hb => heavy13 A E n c p cp L bl w ha hb
  unfold HeavyPost HeavyOut HeavyQ at hhv
  have hbad := fun hn hq hp h0 w ha hP hc hb => images_bad (g := g) (A := A) (C := C) (E := E) (P := P) (n := n) (c := c) (q := q) (cq := cq) (p := p) (cp := cp) (m := m) (cP := cP) (L := L) (ats := ats) (bl := bl) (par := par) z (w := w) ha hP hc hb hn hq hp h0
  have hok := fun (d : Nat) hG hd hT hzz hA hl h8 cP w ha hP hc hb => images_ok (g := g) (d := d) hG hd (A := A) (C := C) (E := E) (P := P) (n := n) (c := c) (q := q) (cq := cq) (p := p) (cp := cp) (cP := cP) (L := L) (ats := ats) (bl := bl) (par := par) z hz (w := w) ha hP hc hb hT hzz hA hl h8
  have hrd := fun hG hT V m cv w hs hm => rd_yes (g := g) (A := V) (n := m) (c := cv) (L := L) hG hT w hs hm
  have hlz := fun h => imErr_zero (g := g) (z := z) (L := L) (par := par) (ats := ats) (bl := bl) h
  obtain ⟨R, hR⟩ : ∃ R, R = imErr g z L par ats bl := ⟨_, rfl⟩
  rw [← hR] at hbad hlz
  have hla := ha.len
  have hlc := hc.len
  have hlb := hb.len
  have hlP := hP.len
  obtain ⟨gz, gd, gs, gl, ga⟩ := g
  unfold Geo.v at *
  dsimp only at hbad hok hrd hlz
  obtain ⟨W0, hW0⟩ : ∃ W0, W0 = (w.alloc (.cells #[.int .i64 gz, .int .i64 gd, .int .i64 gs, .int .i64 gl, .int .i64 ga] 23)).alloc (.cells #[.slice A n c] 26) := ⟨_, rfl⟩
  have hb0 : Below w.heap.size w W0 := by rw [hW0]; exact (alloc_below w _).alloc (by simp) _
  have hx : ∀ W, Below W0.heap.size W0 W → (W.cell? ⟨w.heap.size, 0, none⟩ = some (.int .i64 gz) ∧ W.cell? ⟨w.heap.size, 1, none⟩ = some (.int .i64 gd) ∧ W.cell? ⟨w.heap.size, 2, none⟩ = some (.int .i64 gs) ∧ W.cell? ⟨w.heap.size, 3, none⟩ = some (.int .i64 gl) ∧ W.cell? ⟨w.heap.size, 4, none⟩ = some (.int .i64 ga)) ∧ W.cell? ⟨w.heap.size + 1, 0, none⟩ = some (.slice A n c) := fun W hW => by
    have h1 : Below (w.alloc (.cells #[.int .i64 gz, .int .i64 gd, .int .i64 gs, .int .i64 gl, .int .i64 ga] 23)).heap.size (w.alloc (.cells #[.int .i64 gz, .int .i64 gd, .int .i64 gs, .int .i64 gl, .int .i64 ga] 23)) W0 := by rw [hW0]; exact alloc_below _ _
    have h3 := th h1 hW
    refine ⟨⟨box_cell h3 0 _ rfl, box_cell h3 1 _ rfl, box_cell h3 2 _ rfl, box_cell h3 3 _ rfl, box_cell h3 4 _ rfl⟩, ?_⟩
    subst hW0
    have := box_cell hW 0 _ rfl
    simpa using this
  have HX := hide hx
  have HHV := hide hhv
  have HBAD := hide hbad
  have HOK := hide hok
  have HRD := hide hrd
  have HLZ := hide hlz
  have HLA := hide hla
  have HLC := hide hlc
  have HLB := hide hlb
  have HLP := hide hlP
  have ha0 := ha.on entR_fine hb0
  have hc0 := hc.on intR_fine hb0
  have hbl0 := hb.on bytesR_fine hb0
  have hP0 := hP.on byteR_fine hb0
  obtain ⟨⟨p0, p1, p2, p3, p4⟩, pt⟩ := hx W0 (Below.refl _ _)
  rw [hW0] at p0 p1 p2 p3 p4 pt
  clear hhv hbad hok hrd hlz hx hR hla hlc hlb hlP
  go_enter Try.func7, Try.ntmps7
  go_wp2_with fail
  rw [← hW0]
  clear p0 p1 p2 p3 p4 pt hW0
  refine (HHV.out _ ha0 hbl0).mono ?_
  rintro e w1 ⟨hb1, b, rfl, hq⟩
  cases b with
  | true =>
    clear hq
    go_wp2_with fail
    go_ret
    exact ⟨rfl, th hb0 hb1⟩
  | false =>
    obtain ⟨l1, l2, l3⟩ := hq rfl
    have HL3 := hide l3
    have hn20 : n ≤ 20 := by rw [← HLA.out]; exact l1
    have hp20 : p ≤ 20 := by rw [← HLB.out]; exact l2
    clear hq l1 l2 l3
    by_cases k1 : (20 : Int) < (q : Int)
    · have k1' : decide (20 < q) = true := by simp; omega
      go_wp2_with fail
      go_ret
      exact ⟨rfl, th hb0 hb1⟩
    · have k1' : decide (20 < q) = false := by simp; omega
      by_cases k2 : (100 : Int) < (m : Int)
      · have k2' : decide (100 < m) = true := by simp; omega
        go_wp2_with fail
        go_ret
        exact ⟨rfl, th hb0 hb1⟩
      · have k2' : decide (100 < m) = false := by simp; omega
        obtain ⟨⟨p0, p1, p2, p3, p4⟩, pt⟩ := HX.out w1 hb1
        by_cases hR : R = 0
        · obtain ⟨⟨hG, hT⟩, ⟨hzz, hA⟩, ⟨hl, h8⟩, hp8⟩ := HLZ.out hR
          have hd := hG.2.1
          dsimp only at hd
          obtain ⟨d, rfl⟩ : ∃ d : Nat, gd = (d : Int) := ⟨gd.toNat, by omega⟩
          obtain rfl : n = d + 1 := by have h1 := hT.1; have h2 := HLA.out; omega
          obtain rfl : m = 8 := by rw [← HLP.out, hp8]
          obtain rfl : p = q := by have h1 := HLB.out; have h2 := HLC.out; omega
          have HIM := hide (HOK.out d hG rfl hT hzz hA hl h8)
          have HRY := hide (HRD.out hG hT)
          have HL := hide hl
          have HH8 := hide h8
          clear hG hT hzz hA hl h8 hp8 hR
          go_wp2_with fail
          refine (HIM.out _ _ (ha0.on entR_fine hb1) (hP0.on byteR_fine hb1) (hc0.on intR_fine hb1) (hbl0.on bytesR_fine hb1)).mono ?_
          rintro e w3 ⟨V3, c3, rfl, hs3, hb3⟩
          have hb03 := th hb0 (th hb1 hb3)
          have w2 : IntKind.i64.wrap ((p : Int) + 2) = (p : Int) + 2 := IntWalk.i64_in _ (by omega)
          have w1' : IntKind.i64.wrap ((p : Int) + 1) = (p : Int) + 1 := IntWalk.i64_in _ (by omega)
          go_wp2_with fail
          go_loopw [16] (fun i wr => ∃ k : Nat, k ≤ p ∧ i = .int .i64 k ∧ Below w3.heap.size w3 wr) (fun i _ => p - (RowKit.intOf i).toNat)
          case atStart => exact ⟨0, Nat.zero_le _, rfl, Below.refl _ _⟩
          case round =>
            obtain ⟨k, hk, rfl, hbr⟩ := hrel
            have hb0r := th hb03 hbr
            by_cases hlt : k < p
            · have hlI : (k : Int) < (p : Int) := by omega
              have k0 : (0 : Int) ≤ (k : Int) := by omega
              have kp2 : (k : Int) < (p : Int) + 2 := by omega
              obtain ⟨ad, a, rfl, hadl, hak, hai, hac⟩ := at_int (hc.on intR_fine hb0r) hlt
              obtain ⟨ed, x, A', n', c', rfl, hedl, hxk, hxs, hxc⟩ := at_row (hb.on bytesR_fine hb0r) hlt
              obtain rfl : n' = 8 := by have h1 := hxs.len; have h2 := HH8.out x (List.mem_of_getElem? hxk); omega
              obtain ⟨vd, y, B', n'', c'', rfl, hvdl, hyk, _, _, hys, e0, e1, e2⟩ := at_sec (hs3.on secR_fine hbr) (show k < p + 2 by omega)
              have hy : (imgL z L par ats bl)[k]? = some ⟨z, a, x⟩ := by
                unfold imgL
                rw [List.getElem?_append_left (by rw [imgs_len HL.out, HLC.out]; exact hlt)]
                exact imgs_at hak hxk
              rw [hy] at hyk
              injection hyk with hyk
              subst hyk
              dsimp only at e0 e1 e2 hys
              have hn8 : n'' = 8 := by have h1 := hys.len; have h2 := hxs.len; omega
              subst hn8
              have hby : ∀ r, Calls Try.prog 24 #[.slice B' 8 c'', .slice A' 8 c'] (wr.drewN r) fun e w' => e = .returned (.bool true) ∧ ∃ q, w' = (wr.drewN r).drewN q := fun r =>
                (bytes_any B' A' 8 c'' 8 c' x x (wr.drewN r) (hys.move byteR_fine (fun _ _ => rfl) (fun _ h => h)) (hxs.move byteR_fine (fun _ _ => rfl) (fun _ h => h)) (by omega)).mono fun e w' ⟨he, q, hq⟩ => ⟨by simpa using he, q, hq⟩
              have HBY := hide hby
              clear hak hxk hy hby
              go_wp2_with fail
              go_quiet ((go_at_call 24; exact Calls.quiet_of (HBY.out _)))
              go_wp2_with fail
              go_roundw
              case rel => exact ⟨k + 1, by omega, by go_num, th hbr (drewN_below _ _)⟩
              case measure => (first | omega | (simp [RowKit.intOf]; omega) | (unfold RowKit.intOf; simp; omega) | go_num)
            · obtain rfl : k = p := by omega
              obtain ⟨vd, y, B', n'', c'', rfl, hvdl, hyk, _, _, hys, e0, e1, e2⟩ := at_sec (hs3.on secR_fine hbr) (show k < k + 2 by omega)
              obtain ⟨vd', y2, D', nD, cD, hvd, hvdl2, hyk2, _, _, hys2, g0, g1, g2⟩ := at_sec (hs3.on secR_fine hbr) (show k + 1 < k + 2 by omega)
              injection hvd with hvd
              subst hvd
              have hil := imgs_len (z := z) HL.out
              have hy : (imgL z L par ats bl)[k]? = some ⟨z, -1, par⟩ := by
                unfold imgL
                rw [List.getElem?_append_right (by rw [hil, HLC.out]; exact Nat.le_refl _), hil, HLC.out, Nat.sub_self]
                rfl
              have hy2 : (imgL z L par ats bl)[k + 1]? = some ⟨z, 255, tabL L⟩ := by
                unfold imgL
                rw [List.getElem?_append_right (by rw [hil, HLC.out]; omega), hil, HLC.out, show k + 1 - k = 1 by omega]
                rfl
              rw [hy] at hyk
              rw [hy2] at hyk2
              injection hyk with hyk
              injection hyk2 with hyk2
              subst hyk
              subst hyk2
              dsimp only at e0 e1 e2 hys g0 g1 g2 hys2
              obtain rfl : n'' = 8 := by have h1 := hys.len; have h2 := HLP.out; omega
              have hnD : nD ≤ 60000 := by have h1 := hys2.len; rw [tabL_len, HLA.out] at h1; omega
              have hblk : (vd.add ((k + 1) * 3)).block = vd.block := block_of_add _ _
              have k0 : (0 : Int) ≤ (k : Int) := by omega
              have kp1 : (0 : Int) ≤ (k : Int) + 1 := by omega
              have kp2 : (k : Int) < (k : Int) + 2 := by omega
              have kp3 : (k : Int) + 1 < (k : Int) + 2 := by omega
              have kp4 : ((k : Int) + 1).toNat = k + 1 := by omega
              have hx4 : Hid (∀ W, Below wr.heap.size wr W → (W.cell? ⟨w.heap.size, 0, none⟩ = some (.int .i64 gz) ∧ W.cell? ⟨w.heap.size, 1, none⟩ = some (.int .i64 (d : Int)) ∧ W.cell? ⟨w.heap.size, 2, none⟩ = some (.int .i64 gs) ∧ W.cell? ⟨w.heap.size, 3, none⟩ = some (.int .i64 gl) ∧ W.cell? ⟨w.heap.size, 4, none⟩ = some (.int .i64 ga)) ∧ W.cell? ⟨(vd.add ((k + 1) * 3)).block, (vd.add ((k + 1) * 3)).off + 2, none⟩ = some (.slice D' nD cD)) := hide fun W hW =>
                ⟨(HX.out W (th hb1 (th hb3 (th hbr hW)))).1, (hW.cell (by show (vd.add ((k + 1) * 3)).block < _; rw [hblk]; exact hvdl)).trans g2⟩
              have HRD1 := hide fun W (hW : Below wr.heap.size wr W) => HRY.out D' nD cD W (hys2.on byteR_fine hW) hnD
              have hcur := Below.refl wr.heap.size wr
              have hd0 := (Below.refl wr.heap.size wr).drew
              have hd1 := alloc_below wr (.cells #[.slice none 0 0] 26)
              have hd2 := (alloc_below wr (.cells #[.slice none 0 0] 26)).drew
              have hd3 := balS (Below.refl wr.heap.size wr).drew (.cells #[.slice none 0 0] 26)
              clear hy hy2 hil g0 g1 g2 e0 e1 e2 hblk hnD kp2
              go_wp2_with fail
              go_upto_region 14 with fail
              go_cut [17, 18] (RdAt wr L)
              case first =>
                go_region_held3 (fun W => (W.cell? ⟨w.heap.size, 0, none⟩ = some (.int .i64 gz) ∧ W.cell? ⟨w.heap.size, 1, none⟩ = some (.int .i64 (d : Int)) ∧ W.cell? ⟨w.heap.size, 2, none⟩ = some (.int .i64 gs) ∧ W.cell? ⟨w.heap.size, 3, none⟩ = some (.int .i64 gl) ∧ W.cell? ⟨w.heap.size, 4, none⟩ = some (.int .i64 ga)) ∧ W.cell? ⟨(vd.add ((k + 1) * 3)).block, (vd.add ((k + 1) * 3)).off + 2, none⟩ = some (.slice D' nD cD)) (first | exact hx4.out _ hcur | exact hx4.out _ hd0 | exact hx4.out _ hd1 | exact hx4.out _ hd2 | exact hx4.out _ hd3 | exact hx4.out _ hcur.drew | exact hx4.out _ (balS hcur _) | exact hx4.out _ (balS hcur.drew _) | exact hx4.out _ (balS hcur _).drew | exact hx4.out _ (hcur.setCell (Nat.le_refl _) _) | exact hx4.out _ (hcur.drew.setCell (Nat.le_refl _) _)) ((go_at_call 29; refine Calls.mono (HRD1.out _ (by first | exact hcur | exact hd0 | exact hd1 | exact hd2 | exact hd3 | exact hcur.drew)) ?_; rintro e w6 ⟨hz6, V6, m6, c6, rfl, hs6⟩; have hcur := th (by first | exact hcur | exact hd0 | exact hd1 | exact hd2 | exact hd3 | exact hcur.drew) hz6; (first | (have kb := box_cell (undrewS hz6) 0 _ rfl; have kf := box_free (undrewS hz6) 0) | (have kb := box_cell hz6 0 _ rfl; have kf := box_free hz6 0) | skip)))
                all_goals (go_wp2_with fail; go_meet; unfold RdAt; first
                  | exact ⟨rfl, _, _, _, _, rfl, put_same kb, (hs6.new_set entR_fine _ _ (by show wr.heap.size < _; simp)).old_ entR_fine, hcur.setCell (Nat.le_refl _) _⟩
                  | exact ⟨rfl, _, _, _, _, rfl, box_cell (Below.refl _ _) 0 _ rfl, (hs6.old_ entR_fine).on entR_fine (alloc_below _ _), balS hcur _⟩
                  | exact ⟨rfl, _, _, _, _, rfl, box_cell (Below.refl _ _) 0 _ rfl, ((hs6.old_ entR_fine).on entR_fine (Below.refl _ _).drew).on entR_fine (alloc_below _ _), balS hcur.drew _⟩)
              case rest =>
                obtain ⟨rfl, N, V6, m6, c6, rfl, hN6, hs6, hb6⟩ := hcut
                obtain ⟨w6, hw6⟩ : ∃ w6, w6 = wc := ⟨_, rfl⟩
                subst hw6
                have hb16 := th hb1 (th hb3 (th hbr hb6))
                obtain ⟨vd', y, B', n'', c'', hvd, _, hyk, _, _, hys, e0, e1, e2⟩ := at_sec (hs3.on secR_fine (th hbr hb6)) (show k < k + 2 by omega)
                injection hvd with hvd
                subst hvd
                obtain ⟨vd'', y2, D', nD, cD, hvd, hvdl2, hyk2, _, _, hys2, g0, g1, g2⟩ := at_sec (hs3.on secR_fine (th hbr hb6)) (show k + 1 < k + 2 by omega)
                injection hvd with hvd
                subst hvd
                have hil := imgs_len (z := z) HL.out
                have hy : (imgL z L par ats bl)[k]? = some ⟨z, -1, par⟩ := by
                  unfold imgL
                  rw [List.getElem?_append_right (by rw [hil, HLC.out]; exact Nat.le_refl _), hil, HLC.out, Nat.sub_self]
                  rfl
                have hy2 : (imgL z L par ats bl)[k + 1]? = some ⟨z, 255, tabL L⟩ := by
                  unfold imgL
                  rw [List.getElem?_append_right (by rw [hil, HLC.out]; omega), hil, HLC.out, show k + 1 - k = 1 by omega]
                  rfl
                rw [hy] at hyk
                rw [hy2] at hyk2
                injection hyk with hyk
                injection hyk2 with hyk2
                subst hyk
                subst hyk2
                dsimp only at e0 e1 e2 hys g0 g1 g2 hys2
                obtain rfl : n'' = 8 := by have h1 := hys.len; have h2 := HLP.out; omega
                have hP6 := hP0.on byteR_fine hb16
                have HBY := hide (bytes_same par hys hP6 (by omega))
                have hm6 : m6 ≤ 65536 := by have h1 := hs6.len; have h2 := HLA.out; omega
                have kp2 : (k : Int) < (k : Int) + 2 := by omega
                clear hy hy2 hil g2
                go_wp2_with fail
                refine HBY.out.mono ?_
                rintro e w7 ⟨rfl, hb7⟩
                have g0' := (hb7.cell (by show (vd.add ((k + 1) * 3)).block < _; rw [block_of_add]; exact hvdl2)).trans g0
                have g1' := (hb7.cell (by show (vd.add ((k + 1) * 3)).block < _; rw [block_of_add]; exact hvdl2)).trans g1
                have hN7 := (hb7.cell (World.block_lt_of_cell? _ _ hN6)).trans hN6
                have pt7 := (HX.out w7 (th hb16 hb7)).2
                have hta := table_any V6 A m6 c6 (d + 1) c L L w7 (hs6.on entR_fine hb7) (ha0.on entR_fine (th hb16 hb7)) hm6
                rw [decide_eq_true rfl] at hta
                have HTA := hide hta
                clear g0 g1 e0 e1 e2 hta hN6
                go_wp2_with fail
                refine HTA.out.mono ?_
                rintro e w8 ⟨rfl, hb8⟩
                go_wp2_with fail
                refine (wakes14 _).mono ?_
                rintro e w9 ⟨rfl, hb9⟩
                go_wp2_with fail
                go_ret
                exact ⟨rfl, th hb0 (th hb16 (th hb7 (th hb8 hb9)))⟩
        · have hRb : (R != 0) = true := by simpa using hR
          have HNB := hide (HBAD.out (by omega) (by omega) (by omega) hR)
          clear hR
          go_wp2_with fail
          refine (HNB.out _ (ha0.on entR_fine hb1) (hP0.on byteR_fine hb1) (hc0.on intR_fine hb1) (hbl0.on bytesR_fine hb1)).mono ?_
          rintro e w3 ⟨rfl, hb3⟩
          go_wp2_with fail
          refine (wakes14 _).mono ?_
          rintro e w4 ⟨rfl, hb4⟩
          go_wp2_with fail
          go_ret
          exact ⟨rfl, th hb0 (th hb1 (th hb3 hb4))⟩

theorem law_stripeImages {w : World} {v0 v2 : Value} {g : Geo} {L : List Ent} {P C E : Option Addr} {m cP q cq p cp : Nat} {par : List UInt8} {ats : List Int} {bl : List (List UInt8)} (hg : ArgR geoR w v0 g) (z : Int) (hz : InI z) (ht : ArgR tabR w v2 L) (hP : Bs w P m cP par) (hc : Is w C q cq ats) (hb : Rs w E p cp bl) :
    Calls Try.prog 7 #[v0, .int .i64 z, v2, .slice P m cP, .slice C q cq, .slice E p cp] w fun e w' => e = .returned (.bool true) ∧ Below w.heap.size w w' := by
  obtain ⟨rfl, _⟩ := geo_form hg
  obtain ⟨A, n, c, rfl, ha⟩ := tab_form ht
  exact stripeImages_core g z hz ha hP hc hb

end Go.Proofs.Ytikjhcfalofgaaa
