/-
  The walk of the law ZoneLost.
-/
import Derived.Test.YtnieiobpbioeiaaLawZ1
import Derived.Test.YtnieiobpbioeiaaSpot
namespace Go.Proofs.Ytnieiobpbioeiaa
open Go.RowKit
set_option linter.unusedVariables false
set_option maxRecDepth 100000

/-- An entry's field, stored into. -/
theorem spot_lost {w : World} {base lo : Nat} {e : TypeId} {A : Option Addr} {n c : Nat} {L : List Ent} (h : Ow entR 3 w base lo e (.slice A n c) n L) {k : Nat} (hk : k < n) :
    ∃ g x, A = some ⟨g, 0, none⟩ ∧ base ≤ g ∧ g < w.heap.size ∧ L[k]? = some x ∧ w.cell? ⟨g, k * 3 + 2, none⟩ = some (.bool x.lost) ∧ w.frozen? ⟨g, k * 3 + 2, none⟩ = false ∧
      ∀ b, Ow entR 3 (w.setCell ⟨g, k * 3 + 2, none⟩ (.bool b)) base lo e (.slice A n c) n (L.set k ⟨x.stamp, x.sum, b⟩) := by
  obtain ⟨g, x, cs, u, rfl, hg, hgl, hx, hr, hu, hcell, hfr, hst⟩ := h.spotN entR_fine hk (show 2 < 3 by omega)
  obtain ⟨rfl, i1, i2⟩ := hr
  simp at hu
  subst hu
  exact ⟨g, x, rfl, hg, hgl, hx, hcell, hfr, fun b => hst _ _ rfl ⟨rfl, i1, i2⟩⟩

/-- A table, one of its blocks lost. -/
theorem tab_lost {d : Nat} {L : List Ent} (h : TabOk (d : Int) L) {k : Nat} (hk : k < d) {x : Ent} (hx : L[k]? = some x) : TabOk (d : Int) (L.set k ⟨x.stamp, x.sum, true⟩) := by
  refine ⟨by rw [List.length_set]; exact h.1, fun e he => ?_, fun e he => ?_⟩
  · rcases List.mem_or_eq_of_mem_set he with he | rfl
    · exact h.2.1 e he
    · exact h.2.1 x (List.mem_of_getElem? hx)
  · rw [Int.toNat_natCast, List.getElem?_set_ne (by omega)] at he
    exact h.2.2 e (by rw [Int.toNat_natCast]; exact he)
theorem had_set {d : Int} {H : List (List UInt8)} (h : HadOk d H) (k : Nat) {b : List UInt8} (hb : b.length = 0 ∨ b.length = 8) : HadOk d (H.set k b) := by
  refine ⟨by rw [List.length_set]; exact h.1, fun x hx => ?_⟩
  rcases List.mem_or_eq_of_mem_set hx with hx | rfl
  · exact h.2 x hx
  · exact hb

/-- A row that is taken away, seen from a later world. -/
theorem spot_later {w w' : World} {base lo : Nat} {e : TypeId} {C : Option Addr} {n c : Nat} {L : List (List UInt8)} (h : Ow (slR byteR 1) 1 w base lo e (.slice C n c) n L) (hb : Below w.heap.size w w') {k : Nat} (hk : k < n) :
    ∃ g A' n' c', C = some ⟨g, 0, none⟩ ∧ base ≤ g ∧ g < w.heap.size ∧ w'.cell? ⟨g, k, none⟩ = some (.slice A' n' c') ∧ w'.frozen? ⟨g, k, none⟩ = false ∧ Sl (slR byteR 1) 1 (w'.setCell ⟨g, k, none⟩ (.slice none 0 0)) (Old w) C n c (L.set k []) := by
  obtain ⟨g, A', n', c', rfl, hg, hgl, hc, hf, ho⟩ := spot_row h hk
  refine ⟨g, A', n', c', rfl, hg, hgl, (hb.cell (by exact hgl)).trans hc, (hb.frozen (by exact hgl)).trans hf, ?_⟩
  exact (ho.read bytesR_fine).move bytesR_fine (fun b hb' => set_later hb _ _ (by have h : b < (w.setCell _ _).heap.size := hb'; rwa [set_size] at h)) (fun b hb' => by have h : b < (w.setCell _ _).heap.size := hb'; rwa [set_size] at h)

set_option maxHeartbeats 4000000 in
theorem zoneLost_core {w : World} {A B D : Option Addr} {n c m cb nb cc : Nat} {L : List Ent} {H : List (List UInt8)} {b : List UInt8} (g : Geo) (ha : Sl entR 3 w (Old w) A n c L) (hh : Rs w B m cb H) (at_ : Int) (hat : InI at_) (hbb : Bs w D nb cc b) :
    Calls Try.prog 7 #[g.v, .agg #[.slice A n c], .slice B m cb, .int .i64 at_, .slice D nb cc] w fun e w' => e = .returned (.bool true) ∧ Below w.heap.size w w' := by
  have hb0 : Below w.heap.size w ((w.alloc (.cells #[.int .i64 g.zones, .int .i64 g.data, .int .i64 g.spares, .int .i64 g.slots, .int .i64 g.anchors] 23)).alloc (.cells #[.slice A n c] 26)) := (alloc_below w _).alloc (by simp) _
  have BX := hide (boxes_gt (w := w) g (A := A) (n := n) (c := c) 23 26)
  have ha0 := ha.on entR_fine hb0
  have hh0 := hh.on bytesR_fine hb0
  have hve := heavy13 A B n c m cb L H _ ha0 hh0
  have HVE := hide hve
  have hgc := fun w => rgeo_any g w
  have HGC := hide hgc
  clear hve hgc
  unfold Geo.v
  unfold Geo.v at HGC
  obtain ⟨gz, gd, gs, gl, ga⟩ := g
  dsimp only at BX HGC ha0 hh0 HVE hb0 ⊢
  go_enter Try.func7, Try.ntmps7
  go_wp2_with fail
  refine HVE.out.mono ?_
  rintro e w1 ⟨hb1, bo, rfl, hq⟩
  cases bo with
  | true =>
    clear hq
    go_wp2_with fail
    go_ret
    exact ⟨rfl, th hb0 hb1⟩
  | false =>
    obtain ⟨hl1, hl2, hl3⟩ := hq rfl
    have HL3 := hide hl3
    have ha1 := ha0.on entR_fine hb1
    have hh1 := hh0.on bytesR_fine hb1
    have hnn := ha.len
    have hmm := hh.len
    have hn : n ≤ 20 := by omega
    have hm : m ≤ 20 := by omega
    clear hq hl1 hl2 hl3 hnn hmm
    obtain ⟨x0, x1, x2, x3, x4, xt, _⟩ := BX.out w1 hb1
    go_wp2_with fail
    refine (HGC.out _).mono ?_
    rintro e w2 ⟨rfl, hb2⟩
    by_cases hG : GeoOk ⟨gz, gd, gs, gl, ga⟩
    · rw [decide_eq_true hG]
      have hb12 := th hb1 hb2
      have ha2 := ha1.on entR_fine hb2
      have hh2 := hh1.on bytesR_fine hb2
      have hta := rtab_any A n c L ⟨gz, gd, gs, gl, ga⟩ hG _ ha2 (by omega)
      unfold Geo.v at hta
      dsimp only at hta
      have HTA := hide hta
      clear hta
      obtain ⟨y0, y1, y2, y3, y4, yt, _⟩ := BX.out w2 hb12
      go_wp2_with fail
      refine HTA.out.mono ?_
      rintro e w3 ⟨rfl, hb3⟩
      by_cases hT : TabOk gd L
      · rw [decide_eq_true hT]
        have hb13 := th hb12 hb3
        have ha3 := ha2.on entR_fine hb3
        have hh3 := hh2.on bytesR_fine hb3
        have hha := rhad_any B m cb H ⟨gz, gd, gs, gl, ga⟩ hG _ hh3 (by omega)
        unfold Geo.v at hha
        dsimp only at hha
        have HHA := hide hha
        clear hha
        obtain ⟨z0, z1, z2, z3, z4, zt, _⟩ := BX.out w3 hb13
        go_wp2_with fail
        refine HHA.out.mono ?_
        rintro e w4 ⟨rfl, hb4⟩
        have hb14 := th hb13 hb4
        by_cases hH : HadOk gd H
        · rw [decide_eq_true hH]
          by_cases h8 : nb = 8
          · subst h8
            have ha4 := ha3.on entR_fine hb4
            have hh4 := hh3.on bytesR_fine hb4
            obtain ⟨d, rfl⟩ : ∃ d : Nat, gd = (d : Int) := ⟨gd.toNat, by have := hG.2.1; dsimp only at this; omega⟩
            have hd4 : d ≤ 4 := by have := hG.2.1; dsimp only at this; omega
            have hd1 : 1 ≤ d := by have := hG.2.1; dsimp only at this; omega
            obtain ⟨k, he, hk⟩ := um_is at_ d (by omega) (by omega)
            have he' : wrap64 ((IntKind.u64.wrap at_).tmod (d : Int)) = (k : Int) := he
            have hkn : k < n := by have h1 := hT.1; have h2 := ha.len; omega
            have hkm : k < m := by have h1 := hH.1; have h2 := hh.len; omega
            have HG := hide hG
            have HT := hide hT
            have HH := hide hH
            have htt := twintable_any A n c L _ ha4 (by omega)
            have HTT := hide htt
            clear he hG hT hH htt
            obtain ⟨v0, v1, v2, v3, v4, vt, _⟩ := BX.out w4 hb14
            go_wp2_with fail
            refine HTT.out.mono ?_
            rintro e w5 ⟨A5, c5, rfl, ho5, hb5⟩
            obtain ⟨gu, x, rfl, hgu, hgul, hx, uc, uf, ust⟩ := spot_lost ho5 hkn
            have ho6 := ust true
            have hb15 := th hb14 hb5
            have hS6 : (w5.setCell ⟨gu, k * 3 + 2, none⟩ (.bool true)).heap.size = w5.heap.size := set_size _ _ _
            obtain ⟨W7, hW7⟩ : ∃ W7, W7 = (w5.setCell ⟨gu, k * 3 + 2, none⟩ (.bool true)).alloc (.cells #[.slice (some ⟨gu, 0, none⟩) n c5] 26) := ⟨_, rfl⟩
            have hb7 : Below w4.heap.size w4 W7 := by rw [hW7]; exact (hb5.setCell hgu _).alloc (by rw [hS6]; exact hb5.size) _
            have hu7 : Sl entR 3 W7 (Old W7) (some ⟨gu, 0, none⟩) n c5 (L.set k ⟨x.stamp, x.sum, true⟩) := by rw [hW7]; exact (ho6.read entR_fine).on entR_fine (alloc_below _ _)
            have kt : ∀ W, Below W7.heap.size W7 W → W.cell? ⟨w5.heap.size, 0, none⟩ = some (.slice (some ⟨gu, 0, none⟩) n c5) := fun W hW => by
              subst hW7
              exact bx_at hS6 hW 0 _ rfl
            have hb17 := th hb14 hb7
            have hh7 := hh4.on bytesR_fine hb7
            have h8H : ∀ l ∈ H, l.length ≤ 65536 := fun l hl => by rcases HH.out.2 l hl with h | h <;> omega
            have htr := twinrows_any B m cb H W7 hh7 (by omega) h8H
            have hT2 := tab_lost HT.out hk hx
            have hHa := had_set HH.out k (b := []) (.inl rfl)
            have hHb := had_set HH.out k (b := b) (.inr (by have := hbb.len; omega))
            have hxl : (L.set k ⟨x.stamp, x.sum, true⟩)[k]? = some ⟨x.stamp, x.sum, true⟩ := List.getElem?_set_self (by have := ha.len; omega)
            have hFa : knownL (L.set k ⟨x.stamp, x.sum, true⟩) (H.set k []) = fun i => if i = k then [] else knownL (L.set k ⟨x.stamp, x.sum, true⟩) H i := funext fun i => known_lostset hxl rfl [] i
            have hFb : knownL (L.set k ⟨x.stamp, x.sum, true⟩) (H.set k b) = fun i => if i = k then [] else knownL (L.set k ⟨x.stamp, x.sum, true⟩) H i := funext fun i => known_lostset hxl rfl b i
            obtain ⟨F, hF⟩ : ∃ F, F = fun i => if i = k then [] else knownL (L.set k ⟨x.stamp, x.sum, true⟩) H i := ⟨_, rfl⟩
            have hFk : F k = [] := by rw [hF]; simp
            have hF8 : ∀ i, (F i).length ≤ 65536 := fun i => by rw [hF, ← hFa]; rcases known_len (L := L.set k ⟨x.stamp, x.sum, true⟩) hHa i with h | h <;> omega
            rw [← hF] at hFa hFb
            have HFK := hide hFk
            have HF8 := hide hF8
            have HFA := hide hFa
            have HFB := hide hFb
            have HT2 := hide hT2
            have HHA := hide hHa
            have HHB := hide hHb
            have HW7 := hide hW7
            have KT := hide kt
            have H8H := hide h8H
            have HTR := hide htr
            clear ust hx hS6 hW7 kt h8H htr hT2 hHa hHb hxl hFa hFb hF hFk hF8
            go_wp2_with fail
            rw [← HW7.out]
            refine HTR.out.mono ?_
            rintro e w8 ⟨X8, x8, rfl, hox, hb8⟩
            have hh8 := hh7.on bytesR_fine hb8
            go_wp2_with fail
            refine (twinrows_any B m cb H w8 hh8 (by omega) H8H.out).mono ?_
            rintro e w9 ⟨Y9, y9, rfl, hoy, hb9⟩
            obtain ⟨gx, A1, n1, c1, rfl, hgx, hgxl, xc, xf, hxs⟩ := spot_later hox hb9 hkm
            have hoy10 := (hoy.kept (rw := some gx) bytesR_fine (grownBy_set w9 ⟨gx, k, none⟩ (.slice none 0 0)) (.inr fun e => by have := (hoy.lt _ e).1; omega) (fun q hq => blk_set _ _ _ _ (by have := hq.1; show q ≠ gx; omega))).less bytesR_fine (Nat.le_refl _) (Nat.zero_le _)
            obtain ⟨gy, yy, uy, rfl, hgy, hgyl, _, huy, yc, yf, yst⟩ := hoy10.spot bytesR_fine hkm
            obtain ⟨A2, n2, c2, huy', _⟩ := huy
            simp at huy'
            subst huy'
            have hww : w.heap.size ≤ w8.heap.size := (th hb0 (th hb17 hb8)).size
            have hb10 : Below W7.heap.size W7 (w9.setCell ⟨gx, k, none⟩ (.slice none 0 0)) := (th hb8 hb9).setCell hgx _
            have hwW : w.heap.size ≤ W7.heap.size := (th hb0 hb17).size
            have hoy11 := yst (.slice D 8 cc) b rfl ⟨D, 8, cc, rfl, hbb.move byteR_fine (fun q hq => ((th hb0 hb17).trans (hb10.mono hwW)).block q hq) (fun q hq => ⟨Nat.zero_le _, by have h := ((th hb0 hb17).trans (hb10.mono hwW)).size; have hq : q < w.heap.size := hq; omega, fun e => by injection e with e; have e : q = gy := e; have hq : q < w.heap.size := hq; omega⟩)⟩
            have hx11 : Rs ((w9.setCell ⟨gx, k, none⟩ (.slice none 0 0)).setCell ⟨gy, k, none⟩ (.slice D 8 cc)) (some ⟨gx, 0, none⟩) m x8 (H.set k []) :=
              hxs.move bytesR_fine (fun q hq => blk_set _ _ _ _ (by have hq : q < w8.heap.size := hq; show q ≠ gy; omega)) (fun q hq => by have hq : q < w8.heap.size := hq; have := hb9.size; show q < ((w9.setCell _ _).setCell _ _).heap.size; rw [set_size, set_size]; omega)
            have hb11 : Below W7.heap.size W7 ((w9.setCell ⟨gx, k, none⟩ (.slice none 0 0)).setCell ⟨gy, k, none⟩ (.slice D 8 cc)) := hb10.setCell (Nat.le_trans hb8.size hgy) _
            obtain ⟨W11, hW11⟩ : ∃ W11, W11 = (w9.setCell ⟨gx, k, none⟩ (.slice none 0 0)).setCell ⟨gy, k, none⟩ (.slice D 8 cc) := ⟨_, rfl⟩
            have hgne : gx ≠ gy := by omega
            have hy11 := hoy11.read bytesR_fine
            rw [← hW11] at hx11 hb11 hy11
            have hb111 := th hb17 hb11
            have hu11 := hu7.on entR_fine hb11
            obtain ⟨p0, p1, p2, p3, p4, pt, _⟩ := BX.out _ hb111
            have pu := KT.out _ hb11
            have hal := all_good hu11 hx11 (by omega) (by omega) HG.out rfl HT2.out HHA.out
            rw [HFA.out] at hal
            unfold Geo.v at hal
            dsimp only at hal
            have HAL := hide hal
            rw [hW11] at p0 p1 p2 p3 p4 pt pu
            have HW11 := hide hW11
            clear hal hW11 yst hoy11 hxs hoy10 hww hwW
            go_wp2_with fail
            rw [← HW11.out]
            refine HAL.out.mono ?_
            rintro e w12 ⟨V, cv, V', cv', rfl, hsl, hsk, hb12'⟩
            have hb112 := th hb111 hb12'
            have hu12 := hu11.on entR_fine hb12'
            have hy12 := hy11.on bytesR_fine hb12'
            obtain ⟨q0, q1, q2, q3, q4, qt, _⟩ := BX.out _ hb112
            have qu := KT.out _ (th hb11 hb12')
            have hal := all_good hu12 hy12 (by omega) (by omega) HG.out rfl HT2.out HHB.out
            rw [HFB.out] at hal
            unfold Geo.v at hal
            dsimp only at hal
            have HAL2 := hide hal
            clear hal
            go_wp2_with fail
            refine HAL2.out.mono ?_
            rintro e w13 ⟨V2, cv2, V2', cv2', rfl, hsl2, hsk2, hb13'⟩
            have hb113 := th hb112 hb13'
            have hu13 := hu12.on entR_fine hb13'
            have hy13 := hy12.on bytesR_fine hb13'
            obtain ⟨r0, r1, r2, r3, r4, rt, _⟩ := BX.out _ hb113
            have ru := KT.out _ (th hb11 (th hb12' hb13'))
            have hbn := block_none hu13 hy13 (by omega) (by omega) HG.out HT2.out HHB.out (k := (k : Int)) (by omega) (by show (k : Int) < (d : Int); omega) (by rw [if_neg (by omega), Int.toNat_natCast, HFB.out]; exact HFK.out)
            unfold Geo.v at hbn
            dsimp only at hbn
            have HBN := hide hbn
            clear hbn
            go_wp2_with fail
            refine HBN.out.mono ?_
            rintro e w14 ⟨V14, cv14, rfl, hs14, hb14'⟩
            have hb114 := th hb113 hb14'
            obtain ⟨s0, s1, s2, s3, s4, st, _⟩ := BX.out _ hb114
            have hsk14 := hsk.on boolR_fine (th hb13' hb14')
            have hsk214 := hsk2.on boolR_fine hb14'
            have hsl14 := hsl.on bytesR_fine (th hb13' hb14')
            have hsl214 := hsl2.on bytesR_fine hb14'
            obtain ⟨kd, kx, rfl, hkdl, hkx, hkc⟩ := at_bool hsk14 (show k < d + 1 by omega)
            rw [List.getElem?_map, List.getElem?_range (by omega)] at hkx
            simp only [Option.map_some] at hkx
            injection hkx with hkx
            rw [HFK.out] at hkx
            obtain rfl : kx = false := by rw [← hkx]; rfl
            have hro := rows_any _ _ _ _ _ _ _ _ _ hsl14 hsl214 (by omega) (fun l hl => by simp only [List.mem_map] at hl; obtain ⟨i, _, rfl⟩ := hl; exact HF8.out i)
            rw [decide_eq_true rfl] at hro
            have HRO := hide hro
            clear hkx hro
            go_wp2_with fail
            refine HRO.out.mono ?_
            rintro e w15 ⟨rfl, hb15'⟩
            have hbo := bools_any _ _ _ _ _ _ _ _ _ (hsk14.on boolR_fine hb15') (hsk214.on boolR_fine hb15') (by omega)
            rw [decide_eq_true rfl] at hbo
            have HBO := hide hbo
            clear hbo
            go_wp2_with fail
            refine HBO.out.mono ?_
            rintro e w16 ⟨rfl, hb16'⟩
            go_wp2_with fail
            refine (wakes13 _).mono ?_
            rintro e w17 ⟨rfl, hb17'⟩
            go_wp2_with fail
            go_ret
            exact ⟨rfl, th hb0 (th hb114 (th hb15' (th hb16' hb17')))⟩
          · have e8 : ((nb : Int) != 8) = true := by simp; omega
            clear hH hT hG
            go_wp2_with fail
            go_ret
            exact ⟨rfl, th hb0 hb14⟩
        · rw [decide_eq_false hH]
          clear hH hT hG
          go_wp2_with fail
          go_ret
          exact ⟨rfl, th hb0 hb14⟩
      · rw [decide_eq_false hT]
        clear hT hG
        go_wp2_with fail
        go_ret
        exact ⟨rfl, th hb0 (th hb12 hb3)⟩
    · rw [decide_eq_false hG]
      clear hG
      go_wp2_with fail
      go_ret
      exact ⟨rfl, th hb0 (th hb1 hb2)⟩

theorem law_zoneLost {w : World} {V0 V1 : Value} {B D : Option Addr} {m cb nb cc : Nat} {g : Geo} {L : List Ent} {H : List (List UInt8)} {b : List UInt8} (hg : ArgR geoR w V0 g) (ht : ArgR tabR w V1 L) (hh : Rs w B m cb H) (at_ : Int) (hat : InI at_) (hb : Bs w D nb cc b) :
    Calls Try.prog 7 #[V0, V1, .slice B m cb, .int .i64 at_, .slice D nb cc] w fun e w' => e = .returned (.bool true) ∧ Below w.heap.size w w' := by
  obtain ⟨rfl, _⟩ := geo_form hg
  obtain ⟨A, n, c, rfl, ha⟩ := tab_form ht
  exact zoneLost_core g ha hh at_ hat hb

end Go.Proofs.Ytnieiobpbioeiaa
