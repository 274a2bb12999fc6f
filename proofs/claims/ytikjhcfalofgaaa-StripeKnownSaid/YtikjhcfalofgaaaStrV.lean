/-
  Contract: stripe.Write of a right zone.
  Contract: stripe.Write of what may not be written.
-/
import Derived.Test.YtikjhcfalofgaaaStrW
namespace Go.Proofs.Ytikjhcfalofgaaa
open Go.RowKit Go.Lib
set_option linter.unusedVariables false
set_option maxRecDepth 100000

theorem ent_keptW {w w' : World} {base lo : Nat} {e : TypeId} {V : Value} {n : Nat} {L : List Ent} {rw : Option Nat} (h : Ow entR 3 w base lo e V n L) (hg : w.grownBy w' rw) (hne : V.ownBlock = none ∨ V.ownBlock ≠ rw) : Ow entR 3 w' base lo e V n L := by
  obtain ⟨hl, xs, hx, h1, hel⟩ := h
  exact ⟨hl, xs, hx.kept hg hne, h1, fun i x hi => hel i x hi⟩

/-- Behind a store of an entry. -/
def WroteAt (w w1 : World) (d : Int) (N B2 B4 g3 c3 n m' : Nat) (eE eR : TypeId) (V v : Value) (hs : List (Option Addr × Nat × Nat)) (M : List Ent) (lo : Nat) (wx : World) : Prop :=
  WKeep w w1 d N V wx ∧ Ow entR 3 wx B2 B2 eE (.slice (some ⟨g3, 0, none⟩) n c3) n M ∧ Ow hdrR 1 wx B4 0 eR v m' hs ∧ lo ≤ wx.heap.size
section
variable {w w1 wr w6 : World} {d : Int} {N B2 B4 g3 c3 n m' k : Nat} {eE eR : TypeId} {V v : Value} {hs : List (Option Addr × Nat × Nat)} {M : List Ent}
theorem wrote_put (h : WroteAt w w1 d N B2 B4 g3 c3 n m' eE eR V v hs M wr.heap.size w6) (hz : (N + 3 ≤ w1.heap.size ∧ w1.heap.size ≤ g3) ∧ g3 < B4) (j : Nat) (u : Value) (M' : List Ent) (hM : Ow entR 3 (w6.setCell ⟨g3, j, none⟩ u) B2 B2 eE (.slice (some ⟨g3, 0, none⟩) n c3) n M') :
    WroteAt w w1 d N B2 B4 g3 c3 n m' eE eR V v hs M' wr.heap.size (w6.setCell ⟨g3, j, none⟩ u) :=
  ⟨h.1.put _ _ (by show _ ≤ g3; omega) (by show _ ≤ g3; omega), hM, hdr_kept h.2.2.1 (grownBy_set _ _ _) (.inr (by intro e; have := (h.2.2.1.lt g3 e).1; omega)), by rw [set_size]; exact h.2.2.2⟩
theorem wrote_on (hkp : WKeep w w1 d N V wr) (hot : Ow entR 3 wr B2 B2 eE (.slice (some ⟨g3, 0, none⟩) n c3) n M) (hos : Ow hdrR 1 wr B4 0 eR v m' hs) (hb : Below wr.heap.size wr w6) (hz : (N + 3 ≤ w1.heap.size ∧ w1.heap.size ≤ g3) ∧ g3 < B4) : WroteAt w w1 d N B2 B4 g3 c3 n m' eE eR V v hs M wr.heap.size w6 :=
  ⟨hkp.on hb hkp.big (by have := hkp.big; omega), hot.below entR_fine hb, hos.below hdrR_fine hb, hb.size⟩
theorem wrote3 (hkp : WKeep w w1 d N V wr) (hot : Ow entR 3 wr B2 B2 eE (.slice (some ⟨g3, 0, none⟩) n c3) n M) (hos : Ow hdrR 1 wr B4 0 eR v m' hs) (hz : (N + 3 ≤ w1.heap.size ∧ w1.heap.size ≤ g3) ∧ g3 < B4) (hk : k < n) (y : Ent) (h1 : InI y.stamp) (h2 : InI y.sum) (hb : Below wr.heap.size wr w6) :
    WroteAt w w1 d N B2 B4 g3 c3 n m' eE eR V v hs (M.set k y) wr.heap.size (((w6.setCell ⟨g3, k * 3, none⟩ (.int .i64 y.stamp)).setCell ⟨g3, k * 3 + 1, none⟩ (.int .i64 y.sum)).setCell ⟨g3, k * 3 + 2, none⟩ (.bool y.lost)) := by
  have h0 := wrote_on hkp hot hos hb hz
  have h4 := ent_three h0.2.1 hk y h1 h2
  refine ⟨((h0.1.put _ _ (by show _ ≤ g3; omega) (by show _ ≤ g3; omega)).put _ _ (by show _ ≤ g3; omega) (by show _ ≤ g3; omega)).put _ _ (by show _ ≤ g3; omega) (by show _ ≤ g3; omega), h4, ?_, by simp only [set_size]; exact h0.2.2.2⟩
  have hne : ∀ {W : World}, Ow hdrR 1 W B4 0 eR v m' hs → v.ownBlock = none ∨ v.ownBlock ≠ some g3 := fun h => .inr (by intro e; have := (h.lt g3 e).1; omega)
  have a1 := hdr_kept h0.2.2.1 (grownBy_set w6 ⟨g3, k * 3, none⟩ (.int .i64 y.stamp)) (hne h0.2.2.1)
  have a2 := hdr_kept a1 (grownBy_set _ ⟨g3, k * 3 + 1, none⟩ (.int .i64 y.sum)) (hne a1)
  exact hdr_kept a2 (grownBy_set _ ⟨g3, k * 3 + 2, none⟩ (.bool y.lost)) (hne a2)
end

set_option maxHeartbeats 4000000 in
theorem write_ok {g : Geo} {d : Nat} (hG : GeoOk g) (hd : g.data = (d : Int)) {A B C E : Option Addr} {n c m cb q cq p cp : Nat} {L : List Ent} {H : List (List UInt8)} {ats : List Int} {bl : List (List UInt8)} (s : Int) {w : World}
    (ha : Sl entR 3 w (Old w) A n c L) (hh : Rs w B m cb H) (hc : Is w C q cq ats) (hb : Rs w E p cp bl) (hT : TabOk g.data L) (hH : HadOk g.data H) (hA : AtsOk g.data ats) (hl : bl.length = ats.length) (h8 : ∀ x ∈ bl, x.length = 8) (hs : NumOk s) :
    Calls Try.prog 11 #[g.v, .agg #[.slice A n c], .slice B m cb, .slice C q cq, .slice E p cp, .int .i64 s] w fun e w' => ∃ V cv P cP, e = .returned (.tuple #[.agg #[.slice V (d + 1) cv], .slice P 8 cP, .int .i64 0]) ∧
      Sl entR 3 w' (New w.heap.size w') V (d + 1) cv (wrT L H ats bl s d) ∧ Sl byteR 1 w' (New w.heap.size w') P 8 cP (parN L H ats bl d) ∧ Below w.heap.size w w' := by
  obtain ⟨i0, hi0, hz0, hz1, hz2⟩ := info_parts row_info
  obtain ⟨gz, gd, gs, gl, ga⟩ := g
  dsimp only at hd
  subst hd
  dsimp only at hT hH hA
  have hd4 := hG.2.1
  dsimp only at hd4
  have hn : n = d + 1 := by have h1 := ha.len; have h2 := hT.1; omega
  have hm : m = d + 1 := by have h1 := hh.len; have h2 := hH.1; omega
  have hqd : q ≤ d := by have h1 := hc.len; have h2 := ats_len hA; omega
  have hpq : p = q := by have h1 := hc.len; have h2 := hb.len; omega
  subst hn
  subst hm
  subst hpq
  have hd4' : 1 ≤ d ∧ d ≤ 4 := by omega
  obtain ⟨hd1, hd4''⟩ := hd4'
  have hLl : L.length = d + 1 := ha.len
  obtain ⟨hsl, hsm⟩ := hs
  have hal := fun w ha hh => all_goodN (A := A) (B := B) (c := c) (cb := cb) (n := d + 1) (m := d + 1) (w := w) ha hh (by omega) (by omega) hG rfl hT hH
  have hri := fun w hc => rising_any ⟨gz, d, gs, gl, ga⟩ C p cq ats w hc (by omega)
  rw [decide_eq_true hA] at hri
  have hwh := fun w hb => whole_any E p cp bl w hb (by omega)
  rw [decide_eq_true (show ∀ x ∈ bl, Blk8 x from h8)] at hwh
  have htw := fun w ha => ttwin_any A (d + 1) c L w ha (by omega)
  obtain ⟨W0, hW0⟩ : ∃ W0, W0 = ((w.alloc (.cells #[.int .i64 gz, .int .i64 d, .int .i64 gs, .int .i64 gl, .int .i64 ga] 23)).alloc (.cells #[.slice A (d + 1) c] 26)).alloc (.cells #[.slice none 0 0] 26) := ⟨_, rfl⟩
  have hb0 : Below w.heap.size w W0 := by rw [hW0]; exact ((alloc_below w _).alloc (by simp) _).alloc (by simp; omega) _
  have hN0 : W0.heap.size = w.heap.size + 3 := by rw [hW0]; simp
  have hx : ∀ W, Below W0.heap.size W0 W → (W.cell? ⟨w.heap.size, 0, none⟩ = some (.int .i64 gz) ∧ W.cell? ⟨w.heap.size, 1, none⟩ = some (.int .i64 (d : Int)) ∧ W.cell? ⟨w.heap.size, 2, none⟩ = some (.int .i64 gs) ∧ W.cell? ⟨w.heap.size, 3, none⟩ = some (.int .i64 gl) ∧ W.cell? ⟨w.heap.size, 4, none⟩ = some (.int .i64 ga)) ∧ W.cell? ⟨w.heap.size + 1, 0, none⟩ = some (.slice A (d + 1) c) ∧ W.cell? ⟨w.heap.size + 1 + 1, 0, none⟩ = some (.slice none 0 0) ∧ W.frozen? ⟨w.heap.size + 1 + 1, 0, none⟩ = false := fun W hW => by
    have h1 : Below (w.alloc (.cells #[.int .i64 gz, .int .i64 d, .int .i64 gs, .int .i64 gl, .int .i64 ga] 23)).heap.size (w.alloc (.cells #[.int .i64 gz, .int .i64 d, .int .i64 gs, .int .i64 gl, .int .i64 ga] 23)) W0 := by rw [hW0]; exact (alloc_below _ _).alloc (by simp) _
    have h3 := th h1 hW
    have h2 : W0.cell? ⟨w.heap.size + 1, 0, none⟩ = some (.slice A (d + 1) c) := by
      rw [hW0]
      refine ((alloc_below _ _).cell (by simp)).trans ?_
      simp
    refine ⟨⟨box_cell h3 0 _ rfl, box_cell h3 1 _ rfl, box_cell h3 2 _ rfl, box_cell h3 3 _ rfl, box_cell h3 4 _ rfl⟩, (hW.cell (by show w.heap.size + 1 < _; omega)).trans h2, ?_, ?_⟩
    · subst hW0
      have := box_cell hW 0 _ rfl
      simpa using this
    · subst hW0
      have := box_free hW 0
      simpa using this
  have HX := hide hx
  have HN0 := hide hN0
  have HAL := hide hal
  have HRI := hide hri
  have HWH := hide hwh
  have HTW := hide htw
  have HLL := hide hLl
  have HHH := hide hH
  have HH8 := hide h8
  have HHA := hide hA
  have HBL := hide hl
  have HHT := hide hT
  have ha0 := ha.on entR_fine hb0
  have hh0 := hh.on bytesR_fine hb0
  have hc0 := hc.on intR_fine hb0
  have hbl0 := hb.on bytesR_fine hb0
  obtain ⟨⟨p0, p1, p2, p3, p4⟩, pt, _⟩ := hx W0 (Below.refl _ _)
  rw [hW0] at p0 p1 p2 p3 p4 pt
  have k1 : ¬ s < 0 := by omega
  have k2 : ¬ 4294967295 < s := by omega
  clear hal hri hwh htw hx hN0 hLl hH h8 hA hl hT hG
  unfold Geo.v at *
  go_enter Try.func11, Try.ntmps11
  go_wp2_with fail
  rw [← hW0]
  clear p0 p1 p2 p3 p4 pt hW0
  refine (HAL.out _ ha0 hh0).mono ?_
  rintro e w1 ⟨V1, c1, V2, c2, rfl, hs1, hs2, hb1⟩
  obtain ⟨⟨p0, p1, p2, p3, p4⟩, pt, _⟩ := HX.out w1 hb1
  go_wp2_with fail
  refine (HRI.out _ (hc0.on intR_fine hb1)).mono ?_
  rintro e w2 ⟨rfl, hb2⟩
  have hb12 := th hb1 hb2
  obtain ⟨⟨p0, p1, p2, p3, p4⟩, pt, pr, pf⟩ := HX.out w2 hb12
  go_wp2_with fail
  refine (HWH.out _ (hbl0.on bytesR_fine hb12)).mono ?_
  rintro e w2' ⟨rfl, rfl⟩
  go_wp2_with fail
  refine (HTW.out _ (ha0.on entR_fine hb12)).mono ?_
  rintro e w3 ⟨A3, c3, rfl, ho3, hb3⟩
  obtain ⟨g3, x3, rfl, hg3, hgl3, _, _, _, _, _, _⟩ := ent_spot ho3 (show 0 < d + 1 by omega)
  obtain ⟨⟨p0, p1, p2, p3, p4⟩, pt, pr, pf⟩ := HX.out w3 (th hb12 hb3)
  have hsz0 := HN0.out
  have hsz1 := hb1.size
  have hsz2 := hb2.size
  have hsz3 := hb3.size
  obtain ⟨W4, hW4⟩ : ∃ W4, W4 = w3.setCell ⟨w.heap.size + 1 + 1, 0, none⟩ (.slice (some ⟨g3, 0, none⟩) (d + 1) c3) := ⟨_, rfl⟩
  have hK4 : WKeep w w1 d w.heap.size (.slice (some ⟨g3, 0, none⟩) (d + 1) c3) W4 := by
    rw [hW4]
    refine ⟨put_far (by show w.heap.size ≠ w.heap.size + 1 + 1; omega) p1, put_same pr, by rw [put_free]; exact pf, fun b hb' => ?_, (th hb0 (th hb12 hb3)).setCell (by show w.heap.size ≤ w.heap.size + 1 + 1; omega) _, by rw [set_size]; omega⟩
    rw [put_blk _ _ _ _ (by show b ≠ w.heap.size + 1 + 1; omega)]
    exact (th hb2 hb3).block b hb'.2
  have ho4 : Ow entR 3 W4 w2.heap.size w2.heap.size 61 (.slice (some ⟨g3, 0, none⟩) (d + 1) c3) (d + 1) L := by
    rw [hW4]
    exact ent_keptW ho3 (grownBy_set _ _ _) (.inr (by show some g3 ≠ some (w.heap.size + 1 + 1); intro e; injection e with e; omega))
  have hs4 : W4.heap.size = w3.heap.size := by rw [hW4, set_size]
  have hB4 : w3.heap.size ≤ W4.heap.size := by omega
  have HK4 := hide hK4
  have h4 : (w.heap.size + 3 ≤ w1.heap.size ∧ w1.heap.size ≤ g3) ∧ g3 < W4.heap.size := by omega
  have HSZ := hide h4
  have HS4 := hide hs4
  clear hs4 h4
  go_upto_region 9 with fail
  rw [← hW4]
  clear p0 p1 p2 p3 p4 pt pr pf hW4 hK4 hsz0 hsz1 hsz2 hsz3 hg3 hgl3
  have p1 : W4.cell? ⟨w.heap.size, 1, none⟩ = some (.int .i64 (d : Int)) := HK4.out.geo
  go_wp2_with fail
  clear p1
  go_loopw [17, 63] (fun v i wr => ∃ k m' Vs cs hs, k ≤ d ∧ i = .int .i64 (k : Nat) ∧ v = .slice Vs m' cs ∧ Ow hdrR 1 wr W4.heap.size 0 29 (.slice Vs m' cs) m' hs ∧ Hid (Hdrs w1 (fun b => (b < w.heap.size ∨ w.heap.size + 3 ≤ b) ∧ b < w1.heap.size) hs (stayL L H ats bl k)) ∧ Ow entR 3 wr w2.heap.size w2.heap.size 61 (.slice (some ⟨g3, 0, none⟩) (d + 1) c3) (d + 1) (mixE L H ats bl s k) ∧ WKeep w w1 d w.heap.size (.slice (some ⟨g3, 0, none⟩) (d + 1) c3) wr ∧ Below W4.heap.size W4 W4 ∧ W4.heap.size ≤ wr.heap.size) (fun _ i _ => d - (RowKit.intOf i).toNat)
  case atStart => exact ⟨0, 0, none, 0, [], Nat.zero_le _, rfl, rfl, Ow.nil_ _ _ _ _, hide (Hdrs.nil_ _ _), by rw [mix_zero]; exact ho4, HK4.out, Below.refl _ _, Nat.le_refl _⟩
  case round =>
    obtain ⟨k, m', Vs, cs, hs, hk, rfl, rfl, hos, hhd, hot, hkp, _, hszr⟩ := hrel
    have HKP := hide hkp
    clear hkp
    by_cases hlt : k < d
    · have hlI : (k : Int) < (d : Int) := by omega
      have k0 : (0 : Int) ≤ (k : Int) := by omega
      have kd1 : (k : Int) < (d : Int) + 1 := by omega
      have hml : m' = hs.length := hos.len.symm
      have hm4 : m' ≤ 4 := by have h1 := hhd.out.1; have h2 := stay_count (L := L) (H := H) (ats := ats) (bl := bl) k; omega
      have hix := indexS_any C p cq ats (k : Int) wr (hc.on intR_fine HKP.out.bel) (by omega)
      unfold IdxPostS at hix
      have HIX := hide hix
      clear hix
      go_wp2_with fail
      refine HIX.out.mono ?_
      rintro e w5 ⟨rfl, ⟨j, hjl, hja, hjn, rfl⟩ | ⟨hjn, rfl⟩⟩
      · have j0 : (0 : Int) ≤ (j : Int) := by omega
        have hjp : j < p := by have h1 := hc.len; omega
        have jp : (j : Int) < (p : Int) := by omega
        obtain ⟨ed, b, A', n', c', rfl, hedl, hbj, hbs, hbc⟩ := at_row hb hjp
        have hb8 : b.length = 8 := HH8.out b (List.mem_of_getElem? hbj)
        obtain rfl : n' = 8 := by have := hbs.len; omega
        have hbo := blkOf_some hja hjn hbj
        obtain ⟨hnw, hne⟩ := now_in (L := L) (H := H) (s := s) hbo
        have hmk := fun w hb => emake_any (A := A') (n := 8) (c := c') (l := b) (w := w) s hb (by omega)
        rw [emk_is ⟨hsl, hsm⟩ hb8] at hmk
        unfold Ent.v at hmk
        dsimp only at hmk
        have hss := stay_succ L H ats bl k
        rw [hnw, if_neg (ne_nil8 hb8)] at hss
        have hms := mix_succ (L := L) (H := H) (ats := ats) (bl := bl) (s := s) (k := k) (by rw [HLL.out]; omega)
        rw [hne] at hms
        obtain ⟨cb8, hcb8⟩ : ∃ z : Nat, z = crc b := ⟨_, rfl⟩
        have hcl : cb8 < 4294967296 := by rw [hcb8]; exact crc_lt b
        rw [← hcb8] at hmk hms
        have HMK := hide hmk
        have HSS := hide hss
        have HMS := hide hms
        have HS : Hid (∀ W, Below wr.heap.size wr W → W.cell? ⟨w.heap.size + 1 + 1, 0, none⟩ = some (.slice (some ⟨g3, 0, none⟩) (d + 1) c3) ∧ W.cell? (ed.add j) = some (.slice A' 8 c')) := hide fun W hW => by
          have h1 := HKP.out.on hW HKP.out.big (by have := HKP.out.big; have := HSZ.out; omega)
          exact ⟨h1.res, below_cell h1.bel hedl hbc⟩
        have HE : Hid (∀ W, Below wr.heap.size wr W → (W.cell? ⟨g3, k * 3, none⟩ = some (.int .i64 (entN L k).stamp) ∧ W.cell? ⟨g3, k * 3 + 1, none⟩ = some (.int .i64 (entN L k).sum) ∧ W.cell? ⟨g3, k * 3 + 2, none⟩ = some (.bool (entN L k).lost)) ∧ ∀ j, W.frozen? ⟨g3, j, none⟩ = false) := hide fun W hW => by
          obtain ⟨gq, xq, eq, _, _, hxq, hcq, hfq, _⟩ := ent_spot (hot.below entR_fine hW) (show k < d + 1 by omega)
          injection eq with eq
          injection eq with eq
          subst eq
          rw [mix_at (by rw [HLL.out]; omega)] at hxq
          injection hxq with hxq
          subst hxq
          exact ⟨hcq, hfq⟩
        have HBB := hide fun W (hW : Below wr.heap.size wr W) => (hbs.on byteR_fine (HKP.out.bel.trans (hW.mono HKP.out.bel.size)))
        have HS3 : Hid (∀ W, Below wr.heap.size wr W → (((W.setCell ⟨g3, k * 3, none⟩ (.int .i64 s)).setCell ⟨g3, k * 3 + 1, none⟩ (.int .i64 cb8)).setCell ⟨g3, k * 3 + 2, none⟩ (.bool false)).cell? ⟨w.heap.size + 1 + 1, 0, none⟩ = some (.slice (some ⟨g3, 0, none⟩) (d + 1) c3) ∧ (((W.setCell ⟨g3, k * 3, none⟩ (.int .i64 s)).setCell ⟨g3, k * 3 + 1, none⟩ (.int .i64 cb8)).setCell ⟨g3, k * 3 + 2, none⟩ (.bool false)).cell? (ed.add j) = some (.slice A' 8 c')) := hide fun W hW => by
          obtain ⟨h1, h2⟩ := HS.out W hW
          have h3 := HSZ.out
          have n1 : w.heap.size + 1 + 1 ≠ g3 := by omega
          have hedl' : ed.block < w.heap.size := hedl
          have n2 : (ed.add j).block ≠ g3 := by rw [block_of_add]; omega
          exact ⟨put_far n1 (put_far n1 (put_far n1 h1)), put_far n2 (put_far n2 (put_far n2 h2))⟩
        have hcur := Below.refl wr.heap.size wr
        have HW3 := hide fun w6 (h : Below wr.heap.size wr w6) => wrote3 HKP.out hot hos HSZ.out (show k < d + 1 by omega) ⟨s, cb8, false⟩ ⟨by show -9223372036854775808 ≤ s; omega, by show s ≤ 9223372036854775807; omega⟩ ⟨by show -9223372036854775808 ≤ (cb8 : Int); omega, by show (cb8 : Int) ≤ 9223372036854775807; omega⟩ h
        clear hmk hss hms hbo hnw hne hcb8 hbj hb8 hja hjn hot hos hml hjl
        obtain ⟨k3, hk3⟩ : ∃ k3, k3 = k * 3 := ⟨_, rfl⟩
        go_wp2_with fail
        go_cut [] (WroteAt w w1 d w.heap.size w2.heap.size W4.heap.size g3 c3 (d + 1) m' 61 29 (.slice (some ⟨g3, 0, none⟩) (d + 1) c3) (.slice Vs m' cs) hs (mixE L H ats bl s (k + 1)) wr.heap.size)
        case first =>
          go_region_held3 (fun W => W.cell? ⟨w.heap.size + 1 + 1, 0, none⟩ = some (.slice (some ⟨g3, 0, none⟩) (d + 1) c3) ∧ W.cell? (ed.add j) = some (.slice A' 8 c')) (first | exact HS.out _ hcur | exact HS.out _ hcur.drew | exact HS3.out _ hcur | exact HS3.out _ hcur.drew) ((go_at_call 35; (with_reducible refine (HMK.out _ (HBB.out _ (by first | exact hcur | exact hcur.drew))).mono ?_); rintro e wA ⟨rfl, hzz⟩; have hcur := th (by first | exact hcur | exact hcur.drew) hzz; obtain ⟨⟨v0, v1, v2⟩, hvf⟩ := HE.out _ hcur; have f0 := hvf (k * 3); have f1 := hvf (k * 3 + 1); have f2 := hvf (k * 3 + 2)))
          all_goals (go_wp2_with fail; go_meet; rw [← HMS.out]; first | exact HW3.out _ hcur | exact HW3.out _ hcur.drew)
        case rest =>
          obtain ⟨hk6, ho6, hh6, hz6⟩ := hcut
          have hcr : wc.cell? (ed.add j) = some (.slice A' 8 c') := below_cell hk6.bel hedl hbc
          have hE7 := alloc_below wc (.cells #[.slice A' 8 c'] 29)
          have hos7 := hh6.below hdrR_fine hE7
          have hot7 := ho6.below entR_fine hE7
          have hsz6 := hk6.big
          have h37 := HSZ.out
          have hk7 := hk6.on hE7 hsz6 (by omega)
          have hb7 : W4.heap.size ≤ (wc.alloc (.cells #[.slice A' 8 c'] 29)).heap.size := Nat.le_trans hszr (Nat.le_trans hz6 hE7.size)
          have hlit : Sl hdrR 1 (wc.alloc (.cells #[.slice A' 8 c'] 29)) (fun _ => True) (some ⟨wc.heap.size, 0, none⟩) 1 1 [(A', 8, c')] := lit_plain (R := hdrR) rfl trivial
          have HDX : Hid (Hdrs w1 (fun b => (b < w.heap.size ∨ w.heap.size + 3 ≤ b) ∧ b < w1.heap.size) (hs ++ [(A', 8, c')]) (stayL L H ats bl (k + 1))) := hide (by
            rw [HSS.out]
            exact hhd.out.snoc (hbs.move byteR_fine (fun x hx => (th hb0 hb1).block x hx) (fun x hx => ⟨.inl hx, Nat.lt_of_lt_of_le (show x < w.heap.size from hx) (th hb0 hb1).size⟩)))
          clear hk6 ho6 hh6 hz6 hbs hbc hsz6 h37
          go_wp2_with (at_builtin; refine wpList_append_ow _ rfl (.tmp 90) (.tmp 95) _ rfl hdrR_fine W4.heap.size 0 29 i0 _ 24 Try.underlying27 hi0 hz0 hz1 hz2 rfl (by omega) (.slice Vs m' cs) m' hs rfl hos7 _ _ 1 1 _ rfl hlit (fun _ _ _ h => h) (by simp only [maxLen]; omega) (by omega) hb7 ?_; intro V8 w8 ho8 hg8 hat8; obtain ⟨A8, c8, rfl⟩ := ho8.form)
          have hb8 := below_grown hg8 hos7.lt hb7
          have hot8 := ent_keptW hot7 hg8 (.inr (by intro e; have h1 := (hos7.lt g3 e.symm).1; have h2 := HSZ.out; omega))
          have hk8 := hk7.on hb8 (by have := HSZ.out; omega) (by have := HSZ.out; omega)
          go_roundw
          case rel => exact ⟨k + 1, m' + 1, A8, c8, _, by omega, by go_num, rfl, ho8, HDX, hot8, hk8, Below.refl _ _, Nat.le_trans hb7 hb8.size⟩
          case measure => (first | omega | (simp [RowKit.intOf]; omega) | (unfold RowKit.intOf; simp; omega) | go_num)
      · obtain ⟨vd, D, rfl, hvl, hD, hvc⟩ := at_bool hs2 (show k < d + 1 by omega)
        obtain ⟨nd, x, A', n', c', rfl, hndl, hx, hxs, hxc⟩ := at_row hs1 (show k < d + 1 by omega)
        rw [List.getElem?_map, List.getElem?_range (show k < d + 1 by omega)] at hD hx
        have hD : decide (knownL L H k ≠ []) = D := by simpa using hD
        have hx : knownL L H k = x := by simpa using hx
        subst hx
        have hN0 := HN0.out
        have hvc' : wr.cell? (vd.add k) = some (.bool D) := (World.cell?_of_block (by rw [block_of_add]; exact HKP.out.dom _ ⟨.inr (by have := hvl.1; omega), hvl.2⟩)).trans hvc
        have hxc' : wr.cell? (nd.add k) = some (.slice A' n' c') := (World.cell?_of_block (by rw [block_of_add]; exact HKP.out.dom _ ⟨.inr (by have := hndl.1; omega), hndl.2⟩)).trans hxc
        obtain ⟨hnw, hne⟩ := now_out (L := L) (H := H) (s := s) (blkOf_none bl hjn)
        have hss := stay_succ L H ats bl k
        have hms := mix_succ (L := L) (H := H) (ats := ats) (bl := bl) (s := s) (k := k) (by rw [HLL.out]; omega)
        have hsm2 := mix_same (L := L) (H := H) (ats := ats) (bl := bl) (s := s) (k := k) (by rw [HLL.out]; omega)
        rw [hnw] at hss
        have hszk := HKP.out.big
        have h37 := HSZ.out
        cases D with
        | true =>
          have hkn : knownL L H k ≠ [] := of_decide_eq_true hD
          rw [if_neg hkn] at hss hne
          rw [← hsm2 hne] at hms
          have HMX := hide (hsm2 hne)
          have hE7 := alloc_below wr (.cells #[.slice A' n' c'] 29)
          have hos7 := hos.below hdrR_fine hE7
          have hot7 := hot.below entR_fine hE7
          have hk7 := HKP.out.on hE7 hszk (by omega)
          have hb7 : W4.heap.size ≤ (wr.alloc (.cells #[.slice A' n' c'] 29)).heap.size := Nat.le_trans hszr hE7.size
          have hlit : Sl hdrR 1 (wr.alloc (.cells #[.slice A' n' c'] 29)) (fun _ => True) (some ⟨wr.heap.size, 0, none⟩) 1 1 [(A', n', c')] := lit_plain (R := hdrR) rfl trivial
          have HDX : Hid (Hdrs w1 (fun b => (b < w.heap.size ∨ w.heap.size + 3 ≤ b) ∧ b < w1.heap.size) (hs ++ [(A', n', c')]) (stayL L H ats bl (k + 1))) := hide (by
            rw [hss]
            exact hhd.out.snoc (hxs.move byteR_fine (fun _ _ => rfl) (fun y hy => ⟨.inr (by have := hy.1; omega), hy.2⟩)))
          clear hss hms hsm2 hne hnw hkn hD hjn hxs hxc hvc hml hot hos h37 hszk hN0
          go_wp2_with (at_builtin; refine wpList_append_ow _ rfl (.tmp 102) (.tmp 107) _ rfl hdrR_fine W4.heap.size 0 29 i0 _ 24 Try.underlying27 hi0 hz0 hz1 hz2 rfl (by omega) (.slice Vs m' cs) m' hs rfl hos7 _ _ 1 1 _ rfl hlit (fun _ _ _ h => h) (by simp only [maxLen]; omega) (by omega) hb7 ?_; intro V8 w8 ho8 hg8 hat8; obtain ⟨A8, c8, rfl⟩ := ho8.form)
          have hb8 := below_grown hg8 hos7.lt hb7
          have hot8 := ent_keptW hot7 hg8 (.inr (by intro e; have h1 := (hos7.lt g3 e.symm).1; have h2 := HSZ.out; omega))
          rw [HMX.out] at hot8
          have hk8 := hk7.on hb8 (by have := HSZ.out; omega) (by have := HSZ.out; omega)
          go_roundw
          case rel => exact ⟨k + 1, m' + 1, A8, c8, _, by omega, by go_num, rfl, ho8, HDX, hot8, hk8, Below.refl _ _, Nat.le_trans hb7 hb8.size⟩
          case measure => (first | omega | (simp [RowKit.intOf]; omega) | (unfold RowKit.intOf; simp; omega) | go_num)
        | false =>
          have hkn : knownL L H k = [] := by simpa using of_decide_eq_false hD
          rw [if_pos hkn, List.append_nil] at hss
          rw [if_pos hkn] at hne
          rw [hne] at hms
          obtain ⟨gq, xq, eq, _, _, hxq, ⟨u0, u1, u2⟩, uf, _, _, us2⟩ := ent_spot hot (show k < d + 1 by omega)
          injection eq with eq
          injection eq with eq
          subst eq
          rw [mix_at (by rw [HLL.out]; omega)] at hxq
          injection hxq with hxq
          subst hxq
          have f2 := uf (k * 3 + 2)
          have hE7 := us2 true
          rw [show (⟨(entN L k).stamp, (entN L k).sum, true⟩ : Ent) = { entN L k with lost := true } from rfl, hms] at hE7
          have hW7 := hide (wrote_put (m' := m') (v := .slice Vs m' cs) (hs := hs) ⟨HKP.out, hot, hos, Nat.le_refl _⟩ HSZ.out _ _ _ hE7)
          have hrs := HKP.out.res
          have HSS := hide hss
          clear hss hms hsm2 hne hnw hkn hD hjn hxs hxc hvc hml hot hos h37 hszk hN0 us2 uf u0 u1 hE7
          go_wp2_with fail
          obtain ⟨hk8, ho8, hh8, hz8⟩ := hW7.out
          go_roundw
          case rel => exact ⟨k + 1, m', Vs, cs, hs, by omega, by go_num, rfl, hh8, by rw [HSS.out]; exact hhd, ho8, hk8, Below.refl _ _, Nat.le_trans hszr hz8⟩
          case measure => (first | omega | (simp [RowKit.intOf]; omega) | (unfold RowKit.intOf; simp; omega) | go_num)
    · obtain rfl : k = d := by omega
      have hml : m' = hs.length := hos.len.symm
      have hm4 : m' ≤ 4 := by have h1 := hhd.out.1; have h2 := stay_count (L := L) (H := H) (ats := ats) (bl := bl) k; omega
      have hszk := HKP.out.big
      have h37 := HSZ.out
      have hrow := hhd.out.rows (w' := wr) (fun b hb => ⟨HKP.out.dom b hb, Nat.lt_of_lt_of_le hb.2 hszk⟩) (hos.read hdrR_fine)
      have hxa := all_ok 8 Vs m' cs (stayL L H ats bl k) wr hrow (by omega) (by omega) (stay_len HHH.out HH8.out k)
      obtain ⟨par, hpar⟩ : ∃ par, par = parN L H ats bl k := ⟨_, rfl⟩
      rw [show zxs (List.replicate 8 0) (stayL L H ats bl k) = par from hpar.symm] at hxa
      have hp8 : par.length = 8 := by rw [hpar]; exact parN_len HHH.out HH8.out k
      have hmk := fun A c w hb => emake_any (A := A) (n := 8) (c := c) (l := par) (w := w) s hb (by omega)
      rw [emk_is ⟨hsl, hsm⟩ hp8] at hmk
      unfold Ent.v at hmk
      dsimp only at hmk
      have hms := mix_last (L := L) (H := H) (ats := ats) (bl := bl) (s := s) (d := k) HLL.out
      rw [← hpar] at hms
      obtain ⟨cb8, hcb8⟩ : ∃ z : Nat, z = crc par := ⟨_, rfl⟩
      have hcl : cb8 < 4294967296 := by rw [hcb8]; exact crc_lt par
      rw [← hcb8] at hmk hms
      have HMK := hide hmk
      have HMS := hide hms
      have HPAR := hide hpar
      have HXA := hide hxa
      clear hxa hpar hp8 hmk hms hcb8 hrow hml
      go_wp2_with fail
      refine HXA.out.mono ?_
      rintro e w8 ⟨P8, cP, rfl, hoP, hb8⟩
      have hk8 := HKP.out.on hb8 hszk (by omega)
      have hot8 := hot.below entR_fine hb8
      have hos8 := hos.below hdrR_fine hb8
      have HK8 := hide hk8
      have HS : Hid (∀ W, Below w8.heap.size w8 W → W.cell? ⟨w.heap.size + 1 + 1, 0, none⟩ = some (.slice (some ⟨g3, 0, none⟩) (k + 1) c3) ∧ W.cell? ⟨w.heap.size, 1, none⟩ = some (.int .i64 (k : Int))) := hide fun W hW => by
        have h1 := HK8.out.on hW HK8.out.big (by have := HK8.out.big; have := HSZ.out; omega)
        exact ⟨h1.res, h1.geo⟩
      have HE : Hid (∀ W, Below w8.heap.size w8 W → (W.cell? ⟨g3, k * 3, none⟩ = some (.int .i64 (entN L k).stamp) ∧ W.cell? ⟨g3, k * 3 + 1, none⟩ = some (.int .i64 (entN L k).sum) ∧ W.cell? ⟨g3, k * 3 + 2, none⟩ = some (.bool (entN L k).lost)) ∧ ∀ j, W.frozen? ⟨g3, j, none⟩ = false) := hide fun W hW => by
        obtain ⟨gq, xq, eq, _, _, hxq, hcq, hfq, _⟩ := ent_spot (hot8.below entR_fine hW) (show k < k + 1 by omega)
        injection eq with eq
        injection eq with eq
        subst eq
        rw [mix_at (by rw [HLL.out]; omega)] at hxq
        injection hxq with hxq
        subst hxq
        exact ⟨hcq, hfq⟩
      have HBB := hide fun W (hW : Below w8.heap.size w8 W) => (hoP.below byteR_fine hW).read byteR_fine
      have HPP := hide fun W (hW : Below w8.heap.size w8 W) => hoP.below byteR_fine hW
      have hcur := Below.refl w8.heap.size w8
      have HW3 := hide fun w6 (h : Below w8.heap.size w8 w6) => wrote3 hk8 hot8 hos8 HSZ.out (show k < k + 1 by omega) ⟨s, cb8, false⟩ ⟨by show -9223372036854775808 ≤ s; omega, by show s ≤ 9223372036854775807; omega⟩ ⟨by show -9223372036854775808 ≤ (cb8 : Int); omega, by show (cb8 : Int) ≤ 9223372036854775807; omega⟩ h
      have HS3 : Hid (∀ W, Below w8.heap.size w8 W → (((W.setCell ⟨g3, k * 3, none⟩ (.int .i64 s)).setCell ⟨g3, k * 3 + 1, none⟩ (.int .i64 cb8)).setCell ⟨g3, k * 3 + 2, none⟩ (.bool false)).cell? ⟨w.heap.size + 1 + 1, 0, none⟩ = some (.slice (some ⟨g3, 0, none⟩) (k + 1) c3) ∧ (((W.setCell ⟨g3, k * 3, none⟩ (.int .i64 s)).setCell ⟨g3, k * 3 + 1, none⟩ (.int .i64 cb8)).setCell ⟨g3, k * 3 + 2, none⟩ (.bool false)).cell? ⟨w.heap.size, 1, none⟩ = some (.int .i64 (k : Int))) := hide fun W hW => by
        obtain ⟨h1, h2⟩ := HS.out W hW
        have h3 := HSZ.out
        have n1 : w.heap.size + 1 + 1 ≠ g3 := by omega
        have n2 : w.heap.size ≠ g3 := by omega
        exact ⟨put_far n1 (put_far n1 (put_far n1 h1)), put_far n2 (put_far n2 (put_far n2 h2))⟩
      have HP3 : Hid (∀ W, Below w8.heap.size w8 W → Ow byteR 1 (((W.setCell ⟨g3, k * 3, none⟩ (.int .i64 s)).setCell ⟨g3, k * 3 + 1, none⟩ (.int .i64 cb8)).setCell ⟨g3, k * 3 + 2, none⟩ (.bool false)) wr.heap.size wr.heap.size 5 (.slice P8 8 cP) 8 par) := hide fun W hW => by
        have h3 := HSZ.out
        have hp : ∀ {W : World} {j : Nat} {u : Value}, Ow byteR 1 W wr.heap.size wr.heap.size 5 (.slice P8 8 cP) 8 par → Ow byteR 1 (W.setCell ⟨g3, j, none⟩ u) wr.heap.size wr.heap.size 5 (.slice P8 8 cP) 8 par := fun h =>
          h.kept (rw := some g3) byteR_fine (grownBy_set _ _ _) (.inr (by intro e; have h1 := (h.lt _ e).1; omega)) (fun b hb => put_blk _ _ _ _ (by have h1 := hb.1; show b ≠ g3; omega))
        exact hp (hp (hp (HPP.out W hW)))
      have kd1 : (k : Int) < (k : Int) + 1 := by omega
      have k0 : (0 : Int) ≤ (k : Int) := by omega
      clear hot hos hos8 hot8 hk8 hszk h37 hoP hhd
      go_upto_region 22 with fail
      go_cut [] (fun wx => WroteAt w w1 k w.heap.size w2.heap.size W4.heap.size g3 c3 (k + 1) m' 61 29 (.slice (some ⟨g3, 0, none⟩) (k + 1) c3) (.slice Vs m' cs) hs (wrT L H ats bl s k) w8.heap.size wx ∧ Ow byteR 1 wx wr.heap.size wr.heap.size 5 (.slice P8 8 cP) 8 par)
      case first =>
        go_region_held3 (fun W => W.cell? ⟨w.heap.size + 1 + 1, 0, none⟩ = some (.slice (some ⟨g3, 0, none⟩) (k + 1) c3) ∧ W.cell? ⟨w.heap.size, 1, none⟩ = some (.int .i64 (k : Int))) (first | exact HS.out _ hcur | exact HS.out _ hcur.drew | exact HS3.out _ hcur | exact HS3.out _ hcur.drew) ((go_at_call 35; (with_reducible refine (HMK.out _ _ _ (HBB.out _ (by first | exact hcur | exact hcur.drew))).mono ?_); rintro e wA ⟨rfl, hzz⟩; have hcur := th (by first | exact hcur | exact hcur.drew) hzz; obtain ⟨⟨v0, v1, v2⟩, hvf⟩ := HE.out _ hcur; have f0 := hvf (k * 3); have f1 := hvf (k * 3 + 1); have f2 := hvf (k * 3 + 2)))
        all_goals (go_wp2_with fail; go_meet; rw [← HMS.out]; first | exact ⟨HW3.out _ hcur, HP3.out _ hcur⟩ | exact ⟨HW3.out _ hcur.drew, HP3.out _ hcur.drew⟩)
      case rest =>
        obtain ⟨⟨hk9, ho9, hh9, hz9⟩, hp9⟩ := hcut
        have kr := hk9.res
        have kf := hk9.free
        have kr2 := put_same (v := .slice (some ⟨g3, 0, none⟩) (k + 1) c3) kr
        have KR2 := hide kr2
        have hfin : Sl entR 3 (wc.setCell ⟨w.heap.size + 1 + 1, 0, none⟩ (.slice (some ⟨g3, 0, none⟩) (k + 1) c3)) (New w.heap.size (wc.setCell ⟨w.heap.size + 1 + 1, 0, none⟩ (.slice (some ⟨g3, 0, none⟩) (k + 1) c3))) (some ⟨g3, 0, none⟩) (k + 1) c3 (wrT L H ats bl s k) := by
          have h3 := HSZ.out
          have h4 := hb2.size
          exact (ent_keptW ho9 (grownBy_set _ _ _) (.inr (by show some g3 ≠ some (w.heap.size + 1 + 1); intro e; injection e with e; omega))).new_ entR_fine (by omega) (by omega)
        have hfp : Sl byteR 1 (wc.setCell ⟨w.heap.size + 1 + 1, 0, none⟩ (.slice (some ⟨g3, 0, none⟩) (k + 1) c3)) (New w.heap.size (wc.setCell ⟨w.heap.size + 1 + 1, 0, none⟩ (.slice (some ⟨g3, 0, none⟩) (k + 1) c3))) P8 8 cP par := by
          have h3 := HSZ.out
          have h4 := HKP.out.big
          refine (hp9.kept (rw := some (w.heap.size + 1 + 1)) byteR_fine (grownBy_set _ _ _) (.inr (by intro e; have h1 := (hp9.lt _ e).1; omega)) (fun b hb => put_blk _ _ _ _ (by have h1 := hb.1; show b ≠ w.heap.size + 1 + 1; omega))).new_ byteR_fine (by omega) (by omega)
        have hfb := hk9.bel.setCell (p := ⟨w.heap.size + 1 + 1, 0, none⟩) (by show w.heap.size ≤ w.heap.size + 1 + 1; omega) (.slice (some ⟨g3, 0, none⟩) (k + 1) c3)
        have HF := hide (And.intro hfin (And.intro hfp hfb))
        clear hfin hfp hfb kr2 hk9 ho9 hh9 hp9
        go_wp2_with fail
        have kr3 := KR2.out
        have HF1 := HF.out
        rw [HPAR.out] at HF1
        exact bodyPost_ret (v := .tuple #[.agg #[.slice (some ⟨g3, 0, none⟩) (k + 1) c3], .slice P8 8 cP, .int .i64 0]) (by simp [results, Try.results11, go_sem, kr3]) rfl ⟨_, _, _, _, rfl, HF1.1, HF1.2.1, HF1.2.2⟩

end Go.Proofs.Ytikjhcfalofgaaa

namespace Go.Proofs.Ytikjhcfalofgaaa
open Go.RowKit Go.Lib
set_option linter.unusedVariables false
set_option maxRecDepth 100000

/-- Why a zone may not be written; nought: it may. -/
def wrErr (g : Geo) (L : List Ent) (H : List (List UInt8)) (ats : List Int) (bl : List (List UInt8)) (s : Int) : Int :=
  if ¬ (GeoOk g ∧ TabOk g.data L) then 1 else if ¬ HadOk g.data H then 2 else if ¬ (AtsOk g.data ats ∧ NumOk s) then 1 else if ¬ (bl.length = ats.length ∧ ∀ x ∈ bl, x.length = 8) then 2 else 0

set_option maxHeartbeats 4000000 in
theorem write_bad {g : Geo} {A B C E : Option Addr} {n c m cb q cq p cp : Nat} {L : List Ent} {H : List (List UInt8)} {ats : List Int} {bl : List (List UInt8)} (s : Int) {w : World}
    (ha : Sl entR 3 w (Old w) A n c L) (hh : Rs w B m cb H) (hc : Is w C q cq ats) (hb : Rs w E p cp bl) (hn : n ≤ 65536) (hm : m ≤ 65536) (hq : q ≤ 65536) (hp : p ≤ 65536) (h0 : wrErr g L H ats bl s ≠ 0) :
    Calls Try.prog 11 #[g.v, .agg #[.slice A n c], .slice B m cb, .slice C q cq, .slice E p cp, .int .i64 s] w fun e w' => e = .returned (.tuple #[.agg #[.slice none 0 0], .slice none 0 0, .int .i64 (wrErr g L H ats bl s)]) ∧ Below w.heap.size w w' := by
  obtain ⟨R, hR⟩ : ∃ R, R = wrErr g L H ats bl s := ⟨_, rfl⟩
  have hal := fun w ha hh => zall_new A B n c m cb L H g w ha hh hn hm
  have hri := fun w hc => rising_any g C q cq ats w hc hq
  have hwh := fun w hb => whole_any E p cp bl w hb hp
  have hlp := hb.len
  have hlq := hc.len
  rw [← hR] at h0 ⊢
  unfold wrErr at hR
  unfold AllPostN AllZ at hal
  obtain ⟨gz, gd, gs, gl, ga⟩ := g
  dsimp only at hR hal hri
  obtain ⟨W0, hW0⟩ : ∃ W0, W0 = ((w.alloc (.cells #[.int .i64 gz, .int .i64 gd, .int .i64 gs, .int .i64 gl, .int .i64 ga] 23)).alloc (.cells #[.slice A n c] 26)).alloc (.cells #[.slice none 0 0] 26) := ⟨_, rfl⟩
  have hb0 : Below w.heap.size w W0 := by rw [hW0]; exact ((alloc_below w _).alloc (by simp) _).alloc (by simp; omega) _
  have hx : ∀ W, Below W0.heap.size W0 W → (W.cell? ⟨w.heap.size, 0, none⟩ = some (.int .i64 gz) ∧ W.cell? ⟨w.heap.size, 1, none⟩ = some (.int .i64 gd) ∧ W.cell? ⟨w.heap.size, 2, none⟩ = some (.int .i64 gs) ∧ W.cell? ⟨w.heap.size, 3, none⟩ = some (.int .i64 gl) ∧ W.cell? ⟨w.heap.size, 4, none⟩ = some (.int .i64 ga)) ∧ W.cell? ⟨w.heap.size + 1, 0, none⟩ = some (.slice A n c) ∧ W.cell? ⟨w.heap.size + 1 + 1, 0, none⟩ = some (.slice none 0 0) ∧ W.frozen? ⟨w.heap.size + 1 + 1, 0, none⟩ = false := fun W hW => by
    have h1 : Below (w.alloc (.cells #[.int .i64 gz, .int .i64 gd, .int .i64 gs, .int .i64 gl, .int .i64 ga] 23)).heap.size (w.alloc (.cells #[.int .i64 gz, .int .i64 gd, .int .i64 gs, .int .i64 gl, .int .i64 ga] 23)) W0 := by rw [hW0]; exact (alloc_below _ _).alloc (by simp) _
    have h3 := th h1 hW
    have h2 : W0.cell? ⟨w.heap.size + 1, 0, none⟩ = some (.slice A n c) := by
      rw [hW0]
      refine ((alloc_below _ _).cell (by simp)).trans ?_
      simp
    have hN : W0.heap.size = w.heap.size + 3 := by rw [hW0]; simp
    refine ⟨⟨box_cell h3 0 _ rfl, box_cell h3 1 _ rfl, box_cell h3 2 _ rfl, box_cell h3 3 _ rfl, box_cell h3 4 _ rfl⟩, (hW.cell (by show w.heap.size + 1 < _; omega)).trans h2, ?_, ?_⟩
    · subst hW0
      have := box_cell hW 0 _ rfl
      simpa using this
    · subst hW0
      have := box_free hW 0
      simpa using this
  have HX := hide hx
  have HAL := hide hal
  have HRI := hide hri
  have HWH := hide hwh
  have HR := hide hR
  have HLP := hide hlp
  have HLQ := hide hlq
  have ha0 := ha.on entR_fine hb0
  have hh0 := hh.on bytesR_fine hb0
  have hc0 := hc.on intR_fine hb0
  have hbl0 := hb.on bytesR_fine hb0
  obtain ⟨⟨p0, p1, p2, p3, p4⟩, pt, _⟩ := hx W0 (Below.refl _ _)
  rw [hW0] at p0 p1 p2 p3 p4 pt
  clear hal hri hwh hx hR hlp hlq
  unfold Geo.v at *
  have H0 := hide h0
  clear h0
  go_enter Try.func11, Try.ntmps11
  go_wp2_with fail
  rw [← hW0]
  clear p0 p1 p2 p3 p4 pt hW0
  refine (HAL.out _ ha0 hh0).mono ?_
  rintro e w1 ⟨hb1, V1, n1, c1, V2, n2, c2, l1, l2, err, rfl, hs1, hs2, hz⟩
  obtain ⟨⟨p0, p1, p2, p3, p4⟩, pt, pr, pf⟩ := HX.out w1 hb1
  rcases hz with ⟨z1, rfl, _, _⟩ | ⟨z1, z2, rfl, _, _⟩ | ⟨z1, z2, rfl, _, _⟩
  · obtain rfl : R = 1 := by have h := HR.out; rw [if_pos z1] at h; exact h
    clear z1
    have kr := put_same (v := .slice none 0 0) pr
    have KR := hide kr
    clear kr
    go_wp2_with fail
    have kr := KR.out
    exact bodyPost_ret (v := .tuple #[.agg #[.slice none 0 0], .slice none 0 0, .int .i64 1]) (by simp [results, Try.results11, go_sem, kr]) rfl ⟨rfl, (th hb0 hb1).setCell (by show w.heap.size ≤ w.heap.size + 1 + 1; omega) _⟩
  · obtain rfl : R = 2 := by have h := HR.out; rw [if_neg (not_not_intro z1), if_pos z2] at h; exact h
    clear z1 z2
    have kr := put_same (v := .slice none 0 0) pr
    have KR := hide kr
    clear kr
    go_wp2_with fail
    have kr := KR.out
    exact bodyPost_ret (v := .tuple #[.agg #[.slice none 0 0], .slice none 0 0, .int .i64 2]) (by simp [results, Try.results11, go_sem, kr]) rfl ⟨rfl, (th hb0 hb1).setCell (by show w.heap.size ≤ w.heap.size + 1 + 1; omega) _⟩
  · have hr1 : R = if ¬ (AtsOk gd ats ∧ NumOk s) then 1 else if ¬ (bl.length = ats.length ∧ ∀ x ∈ bl, x.length = 8) then 2 else 0 := by have h := HR.out; rw [if_neg (not_not_intro z1), if_neg (not_not_intro z2)] at h; exact h
    have HR1 := hide hr1
    clear hr1 z1 z2
    by_cases hA : AtsOk gd ats
    · by_cases hS : NumOk s
      · have hr2 : R = if ¬ (bl.length = ats.length ∧ ∀ x ∈ bl, x.length = 8) then 2 else 0 := by have h := HR1.out; rw [if_neg (not_not_intro ⟨hA, hS⟩)] at h; exact h
        have HR2 := hide hr2
        have HRI2 := hide (fun w hc => (HRI.out w hc).mono fun e w' (h : e = .returned (.bool (decide (AtsOk gd ats))) ∧ Below w.heap.size w w') => (⟨by rw [h.1, decide_eq_true hA], h.2⟩ : e = .returned (.bool true) ∧ Below w.heap.size w w'))
        obtain ⟨s0, s1⟩ := hS
        have k1 : ¬ s < 0 := by omega
        have k2 : ¬ 4294967295 < s := by omega
        clear hr2 hA
        by_cases hpq : p = q
        · have hbad : ¬ ∀ x ∈ bl, Blk8 x := fun h => H0.out (by have h2 := HR2.out; rw [if_neg (not_not_intro ⟨by rw [HLP.out, HLQ.out, hpq], h⟩)] at h2; exact h2)
          have hwf := fun w hb => (HWH.out w hb).mono fun e w' (h : e = .returned (.bool (decide (∀ x ∈ bl, Blk8 x))) ∧ w = w') => (⟨by rw [h.1, decide_eq_false hbad], h.2⟩ : e = .returned (.bool false) ∧ w = w')
          obtain rfl : R = 2 := by have h := HR2.out; rw [if_pos (fun h2 => hbad h2.2)] at h; exact h
          have HWF := hide hwf
          clear hwf hbad
          subst hpq
          go_wp2_with fail
          refine (HRI2.out _ (hc0.on intR_fine hb1)).mono ?_
          rintro e w2 ⟨rfl, hb2⟩
          obtain ⟨⟨p0, p1, p2, p3, p4⟩, pt, pr, pf⟩ := HX.out w2 (th hb1 hb2)
          go_wp2_with fail
          refine (HWF.out _ (hbl0.on bytesR_fine (th hb1 hb2))).mono ?_
          rintro e w3 ⟨rfl, rfl⟩
          have kr := put_same (v := .slice none 0 0) pr
          have KR := hide kr
          clear kr
          go_wp2_with fail
          have kr := KR.out
          exact bodyPost_ret (v := .tuple #[.agg #[.slice none 0 0], .slice none 0 0, .int .i64 2]) (by simp [results, Try.results11, go_sem, kr]) rfl ⟨rfl, (th hb0 (th hb1 hb2)).setCell (by show w.heap.size ≤ w.heap.size + 1 + 1; omega) _⟩
        · have hpq' : ((p : Int) != (q : Int)) = true := by simp; omega
          have hpq2 : (p != q) = true := by simp; omega
          obtain rfl : R = 2 := by have h := HR2.out; rw [if_pos (fun h2 => hpq (by rw [← HLP.out, ← HLQ.out]; exact h2.1))] at h; exact h
          clear hpq
          go_wp2_with fail
          refine (HRI2.out _ (hc0.on intR_fine hb1)).mono ?_
          rintro e w2 ⟨rfl, hb2⟩
          obtain ⟨⟨p0, p1, p2, p3, p4⟩, pt, pr, pf⟩ := HX.out w2 (th hb1 hb2)
          have kr := put_same (v := .slice none 0 0) pr
          have KR := hide kr
          clear kr
          go_wp2_with fail
          have kr := KR.out
          exact bodyPost_ret (v := .tuple #[.agg #[.slice none 0 0], .slice none 0 0, .int .i64 2]) (by simp [results, Try.results11, go_sem, kr]) rfl ⟨rfl, (th hb0 (th hb1 hb2)).setCell (by show w.heap.size ≤ w.heap.size + 1 + 1; omega) _⟩
      · obtain rfl : R = 1 := by have h := HR1.out; rw [if_pos (fun h2 => hS h2.2)] at h; exact h
        have HRI2 := hide (fun w hc => (HRI.out w hc).mono fun e w' (h : e = .returned (.bool (decide (AtsOk gd ats))) ∧ Below w.heap.size w w') => (⟨by rw [h.1, decide_eq_true hA], h.2⟩ : e = .returned (.bool true) ∧ Below w.heap.size w w'))
        clear hA
        by_cases k1 : s < 0
        · clear hS
          go_wp2_with fail
          refine (HRI2.out _ (hc0.on intR_fine hb1)).mono ?_
          rintro e w2 ⟨rfl, hb2⟩
          obtain ⟨⟨p0, p1, p2, p3, p4⟩, pt, pr, pf⟩ := HX.out w2 (th hb1 hb2)
          have kr := put_same (v := .slice none 0 0) pr
          have KR := hide kr
          clear kr
          go_wp2_with fail
          have kr := KR.out
          exact bodyPost_ret (v := .tuple #[.agg #[.slice none 0 0], .slice none 0 0, .int .i64 1]) (by simp [results, Try.results11, go_sem, kr]) rfl ⟨rfl, (th hb0 (th hb1 hb2)).setCell (by show w.heap.size ≤ w.heap.size + 1 + 1; omega) _⟩
        · have k2 : 4294967295 < s := by unfold NumOk at hS; omega
          clear hS
          go_wp2_with fail
          refine (HRI2.out _ (hc0.on intR_fine hb1)).mono ?_
          rintro e w2 ⟨rfl, hb2⟩
          obtain ⟨⟨p0, p1, p2, p3, p4⟩, pt, pr, pf⟩ := HX.out w2 (th hb1 hb2)
          have kr := put_same (v := .slice none 0 0) pr
          have KR := hide kr
          clear kr
          go_wp2_with fail
          have kr := KR.out
          exact bodyPost_ret (v := .tuple #[.agg #[.slice none 0 0], .slice none 0 0, .int .i64 1]) (by simp [results, Try.results11, go_sem, kr]) rfl ⟨rfl, (th hb0 (th hb1 hb2)).setCell (by show w.heap.size ≤ w.heap.size + 1 + 1; omega) _⟩
    · obtain rfl : R = 1 := by have h := HR1.out; rw [if_pos (fun h2 => hA h2.1)] at h; exact h
      have HRI2 := hide (fun w hc => (HRI.out w hc).mono fun e w' (h : e = .returned (.bool (decide (AtsOk gd ats))) ∧ Below w.heap.size w w') => (⟨by rw [h.1, decide_eq_false hA], h.2⟩ : e = .returned (.bool false) ∧ Below w.heap.size w w'))
      clear hA
      go_wp2_with fail
      refine (HRI2.out _ (hc0.on intR_fine hb1)).mono ?_
      rintro e w2 ⟨rfl, hb2⟩
      obtain ⟨⟨p0, p1, p2, p3, p4⟩, pt, pr, pf⟩ := HX.out w2 (th hb1 hb2)
      have kr := put_same (v := .slice none 0 0) pr
      have KR := hide kr
      clear kr
      go_wp2_with fail
      have kr := KR.out
      exact bodyPost_ret (v := .tuple #[.agg #[.slice none 0 0], .slice none 0 0, .int .i64 1]) (by simp [results, Try.results11, go_sem, kr]) rfl ⟨rfl, (th hb0 (th hb1 hb2)).setCell (by show w.heap.size ≤ w.heap.size + 1 + 1; omega) _⟩

end Go.Proofs.Ytikjhcfalofgaaa
