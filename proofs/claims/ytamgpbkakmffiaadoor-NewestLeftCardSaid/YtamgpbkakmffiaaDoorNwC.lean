/-
  Contract: newest.Pick of as many readings as there are anchors.
  casematelaw09.wakes; what a sealed anchor says; a list of two readings.
-/
import Derived.Test.YtamgpbkakmffiaaDoorNwB
import Derived.Test.YtamgpbkakmffiaaDoorAncL1
import Derived.Test.YtamgpbkakmffiaaDoorAncG
import Derived.Test.YtamgpbkakmffiaaDoorSeal
namespace Go.Proofs.YtamgpbkakmffiaaDoor
open Go.RowKit Go.Lib
set_option linter.unusedVariables false
set_option maxRecDepth 100000

/-- The anchor that is picked of the first k readings; where it stands; is there one. -/
def pickN (g : Geo) (L : List Gt) : Nat → Anc × Nat × Bool
  | 0 => (noAnc, 0, false)
  | k + 1 => match (L[k]?).bind fun x => saysN g x.err x.bytes (k : Int) with
    | none => pickN g L k
    | some b => if (pickN g L k).2.2 = false ∨ (pickN g L k).1.gen < b.gen then (b, k, true) else pickN g L k
def pickE (g : Geo) (L : List Gt) (k : Nat) : Int := if (pickN g L k).2.2 = true then 0 else 11
theorem at_gt {w : World} {S : Nat → Prop} {A : Option Addr} {n c : Nat} {L : List Gt} (h : Sl gotR 2 w S A n c L) {k : Nat} (hk : k < n) : ∃ ad x A' n' c', A = some ad ∧ S ad.block ∧ L[k]? = some x ∧ InI x.err ∧ Sl byteR 1 w S A' n' c' x.bytes ∧
    w.cell? (ad.add (k * 2)) = some (.int .i64 x.err) ∧ w.cell? ⟨(ad.add (k * 2)).block, (ad.add (k * 2)).off + 1, none⟩ = some (.slice A' n' c') := by
  obtain ⟨ad, e, cs, rfl, hS, he, ⟨A', n', c', rfl, h1, hs⟩, hat⟩ := h.at_ hk
  refine ⟨ad, e, A', n', c', rfl, hS, he, h1, hs, ?_, hat 1 _ rfl⟩
  have := hat 0 _ rfl
  rwa [add_zero'] at this

set_option maxHeartbeats 8000000 in
theorem npick_yes (g : Geo) (hG : GeoOk g) (A : Option Addr) (n c : Nat) (L : List Gt) (w : World) (hT : Tabs w) (hl : Sl gotR 2 w (Old w) A n c L) (hn : (n : Int) = g.anchors) (hb : ∀ x ∈ L, x.bytes.length ≤ 60000) :
    Calls Tryd.prog 47 #[g.v, .slice A n c] w fun e w' => Below w.heap.size w w' ∧ ∃ V m d, e = .returned (.tuple #[(pickN g L n).1.v (.slice V m d), .int .i64 ((pickN g L n).2.1 : Int), .int .i64 (pickE g L n)]) ∧ Sl homR 3 w' (Old w') V m d (pickN g L n).1.homes := by
  have han := hG.2.2.2.2
  have HCK := hide fun w => gcheck_any g w
  rw [show geoErr g = 0 from if_pos hG] at HCK
  have HGA := hide fun (k : Nat) (hk : (k : Int) ≤ g.anchors - 1) w => (show Calls Tryd.prog 89 #[g.v, .int .i64 (k : Int)] w fun e w' => e = .returned (.tuple #[.int .i64 (k : Int), .int .i64 0]) ∧ Below w.heap.size w w' by
    have h := ganchor_any g hG (k : Int) ⟨by omega, by omega⟩ w
    rwa [show ganErr g (k : Int) = 0 from if_pos ⟨by omega, hk⟩, show ganAt g (k : Int) = (k : Int) from if_pos ⟨by omega, hk⟩] at h)
  have HSY := hide fun err V m d b addr w hT h hm => nsays_any g err V m d b addr w hT h hm
  unfold SaysPost at HSY
  have tn : ((n : Int) != g.anchors) = false := by simpa using hn
  have HNA := hide hn
  have HB := hide hb
  have hn3 : n ≤ 3 := by omega
  clear hn hb han hG
  obtain ⟨W0, hW0⟩ : ∃ W0, W0 = (w.alloc (.cells #[.int .i64 g.zones, .int .i64 g.data, .int .i64 g.spares, .int .i64 g.slots, .int .i64 g.anchors] 23)).alloc (.cells #[.int .i64 0, .int .i64 0, .int .i64 0, .int .i64 0, .int .i64 0, .string ⟨#[]⟩, .slice none 0 0] 26) := ⟨_, rfl⟩
  have hs0 : W0.heap.size = w.heap.size + 2 := by rw [hW0]; simp
  have hb0 : Below w.heap.size w W0 := by rw [hW0]; exact (alloc_below w _).alloc (by simp) _
  have hgb : GeoAt W0 w.heap.size g := by rw [hW0]; exact (GeoAt.new w g 23).on (alloc_below _ _)
  have hzv : Sev W0 (w.heap.size + 1) (.int .i64 0) (.int .i64 0) (.int .i64 0) (.int .i64 0) (.int .i64 0) (.string ⟨#[]⟩) (.slice none 0 0) := by rw [hW0]; exact Sev.new (by simp) (Below.refl _ _)
  have hfz : ∀ k, W0.frozen? ⟨w.heap.size + 1, k, none⟩ = false := fun k => by rw [hW0]; exact bx_free2 (by simp) (Below.refl _ _) k
  have HGB := hide hgb
  have HZV := hide hzv
  have HFZ := hide hfz
  have hpq := hgb.2
  rw [hW0] at hpq
  obtain ⟨p0, p1, p2, p3, p4⟩ := hpq
  unfold Geo.v Anc.v at *
  clear hgb hzv hfz
  go_enter Tryd.func47, Tryd.ntmps47
  go_wp2_with fail
  rw [← hW0]
  clear hW0 p0 p1 p2 p3 p4
  refine (HCK.out _).mono ?_
  rintro e w1 ⟨rfl, hb1⟩
  obtain ⟨_, p0, p1, p2, p3, p4⟩ := HGB.out.on hb1
  go_wp2_with fail
  go_loopw [5, 6, 27] (fun at_ er i wr => ∃ (k : Nat) (V : Option Addr) (m d : Nat), k ≤ n ∧ i = .int .i64 k ∧ at_ = .int .i64 ((pickN g L k).2.1 : Int) ∧ er = .int .i64 (pickE g L k) ∧ Hid (Sev wr (w.heap.size + 1) (.int .i64 (pickN g L k).1.gen) (.int .i64 (pickN g L k).1.epoch) (.int .i64 (pickN g L k).1.pos) (.int .i64 (pickN g L k).1.seq) (.int .i64 (pickN g L k).1.last) (.string (pickN g L k).1.label) (.slice V m d)) ∧ Hid (Sl homR 3 wr (New W0.heap.size wr) V m d (pickN g L k).1.homes) ∧ Hid (∀ j, wr.frozen? ⟨w.heap.size + 1, j, none⟩ = false) ∧ Below (w.heap.size + 1) W0 wr ∧ W0.heap.size ≤ wr.heap.size) (fun _ _ i _ => n - (RowKit.intOf i).toNat)
  case atStart => exact ⟨0, none, 0, 0, Nat.zero_le _, rfl, rfl, rfl, hide (HZV.out.onB (by omega) hb1), hide (Sl.nil_ _), hide (fun j => (hb1.frozen (by show w.heap.size + 1 < _; omega)).trans (HFZ.out j)), hb1.mono (by omega), hb1.size⟩
  case round =>
    obtain ⟨k, V, m, d, hk, rfl, rfl, rfl, hsv, hrd, hfr, hbw, hsz⟩ := hrel
    obtain ⟨⟨a0, t0, f0⟩, hP⟩ : ∃ P, P = pickN g L k := ⟨_, rfl⟩
    rw [← hP] at hsv hrd ⊢
    dsimp only at hsv hrd ⊢
    have HPK := hide hP
    obtain ⟨E, hE⟩ : ∃ E : Int, E = pickE g L k := ⟨_, rfl⟩
    rw [← hE]
    have HEK := hide hE
    have HE : Hid (E = (if f0 = true then 0 else 11)) := hide (by rw [hE]; unfold pickE; rw [← hP])
    clear hP hE
    have hbww : Below w.heap.size w wr := hb0.trans (hbw.mono (by omega))
    have hgr : GeoAt wr w.heap.size g := by
      obtain ⟨_, c0, c1, c2, c3, c4⟩ := HGB.out
      exact ⟨by omega, (hbw.cell (by show w.heap.size < _; omega)).trans c0, (hbw.cell (by show w.heap.size < _; omega)).trans c1, (hbw.cell (by show w.heap.size < _; omega)).trans c2, (hbw.cell (by show w.heap.size < _; omega)).trans c3, (hbw.cell (by show w.heap.size < _; omega)).trans c4⟩
    have HGR := hide hgr
    clear hgr p0 p1 p2 p3 p4
    by_cases hlt : k < n
    · obtain ⟨ad, x, A', n', c', rfl, hadl, hx, _, hsx, d0, d1⟩ := at_gt (hl.on gotR_fine hbww) hlt
      have hxb := HB.out x (List.mem_of_getElem? hx)
      have hn' : n' ≤ 60000 := by rw [← hsx.len]; exact hxb
      have HX := hide hx
      have hka : (k : Int) ≤ g.anchors - 1 := by have := HNA.out; omega
      have HGK := hide (fun w => HGA.out k hka w)
      have K0 : (0 : Int) ≤ (k : Int) := by omega
      have K1 : (k : Int) < (n : Int) := by omega
      obtain ⟨W1, hW1⟩ : ∃ W1, W1 = wr.alloc (.cells #[.int .i64 x.err, .slice A' n' c'] 78) := ⟨_, rfl⟩
      have hE1 : Below wr.heap.size wr W1 := by rw [hW1]; exact alloc_below _ _
      have hxs : ∀ W, Below W1.heap.size W1 W → W.cell? ⟨wr.heap.size, 0, none⟩ = some (.int .i64 x.err) ∧ W.cell? ⟨wr.heap.size, 1, none⟩ = some (.slice A' n' c') := fun W hW => by
        subst hW1
        exact ⟨box_cell hW 0 _ rfl, box_cell hW 1 _ rfl⟩
      have HXS := hide hxs
      have d1' : wr.cell? ⟨(ad.add (k * 2)).block, (ad.add (k * 2)).off + 1, none⟩ = some (.slice A' n' c') := d1
      clear hx hxs hka hxb d1
      go_upto_region 9 with fail
      rw [← hW1]
      clear hW1 d0 d1'
      obtain ⟨_, p0, p1, p2, p3, p4⟩ := HGR.out.on hE1
      go_wp2_with fail
      refine (HGK.out _).mono ?_
      rintro e w2 ⟨rfl, hb2⟩
      have hb12 := th hE1 hb2
      clear p0 p1 p2 p3 p4
      obtain ⟨_, p0, p1, p2, p3, p4⟩ := HGR.out.on hb12
      obtain ⟨x0, x1⟩ := HXS.out _ hb2
      go_wp2_with fail
      refine (HSY.out _ _ _ _ _ _ _ (hT.below (th hbww hb12)) (hsx.on byteR_fine hb12) hn').mono ?_
      rintro e w3 ⟨hb3, b, Vb, mb, db, r, rfl, hsb, his⟩
      obtain ⟨W4, hW4⟩ : ∃ W4, W4 = w3.alloc (.cells #[.int .i64 b.gen, .int .i64 b.epoch, .int .i64 b.pos, .int .i64 b.seq, .int .i64 b.last, .string b.label, .slice Vb mb db] 26) := ⟨_, rfl⟩
      have hE4 : Below w3.heap.size w3 W4 := by rw [hW4]; exact alloc_below _ _
      have hbr4 := th hb12 (th hb3 hE4)
      have hvb : Sev W4 w3.heap.size (.int .i64 b.gen) (.int .i64 b.epoch) (.int .i64 b.pos) (.int .i64 b.seq) (.int .i64 b.last) (.string b.label) (.slice Vb mb db) := by rw [hW4]; exact Sev.new rfl (Below.refl _ _)
      have HVB := hide hvb
      have hsz2 := hb12.size
      have hsb4 : Sl homR 3 W4 (New W0.heap.size W4) Vb mb db b.homes := hsb.move homR_fine (fun q hq => hE4.block q hq.2) (fun q hq => ⟨Nat.le_trans hsz (Nat.le_trans hsz2 hq.1), Nat.lt_of_lt_of_le hq.2 hE4.size⟩)
      have hstep : pickN g L (k + 1) = match (L[k]?).bind fun x => saysN g x.err x.bytes (k : Int) with
        | none => pickN g L k
        | some b => if (pickN g L k).2.2 = false ∨ (pickN g L k).1.gen < b.gen then (b, k, true) else pickN g L k := rfl
      rw [HX.out, ← HPK.out] at hstep
      have hstep2 : ∀ o, saysN g x.err x.bytes (k : Int) = o → pickN g L (k + 1) = match o with
        | none => (a0, t0, f0)
        | some b => if f0 = false ∨ a0.gen < b.gen then (b, k, true) else (a0, t0, f0) := fun o ho => by rw [hstep]; show (match (saysN g x.err x.bytes (k : Int)) with | none => (a0, t0, f0) | some b => if f0 = false ∨ a0.gen < b.gen then (b, k, true) else (a0, t0, f0)) = _; rw [ho]
      have HST := hide hstep2
      clear hstep hstep2 hvb hsb p0 p1 p2 p3 p4 x0 x1
      go_upto_region 11 with fail
      rw [← hW4]
      clear hW4
      rcases his with ⟨rfl, hs1⟩ | ⟨rfl, _, hs1⟩
      · cases f0 with
        | false =>
          have HP1 := hide ((HST.out _ hs1).trans (if_pos (.inl rfl)))
          obtain rfl : E = 11 := HE.out.trans (if_neg (by decide))
          clear hs1
          obtain ⟨b0, b1, b2, b3, b4, b5, b6⟩ := HVB.out
          have hzz := hsv.out.on (by omega) hbr4
          have hff : ∀ j, W4.frozen? ⟨w.heap.size + 1, j, none⟩ = false := fun j => (hbr4.frozen (by show w.heap.size + 1 < _; omega)).trans (hfr.out j)
          have g0 := hff 0
          have g1 := hff 1
          have g2 := hff 2
          have g3 := hff 3
          have g4 := hff 4
          have g5 := hff 5
          have g6 := hff 6
          have HZ2 := hide (put7_sev hzz (.int .i64 b.gen) (.int .i64 b.epoch) (.int .i64 b.pos) (.int .i64 b.seq) (.int .i64 b.last) (.string b.label) (.slice Vb mb db))
          have HFF := hide hff
          have HR2 := hide (put7_new homR_fine hsb4 (show w.heap.size + 1 < W0.heap.size by omega) (.int .i64 b.gen) (.int .i64 b.epoch) (.int .i64 b.pos) (.int .i64 b.seq) (.int .i64 b.last) (.string b.label) (.slice Vb mb db))
          obtain ⟨y0, y1, y2, y3, y4, y5, y6⟩ := hzz
          clear hff
          go_wp2_with fail
          go_roundw
          case rel => exact ⟨k + 1, Vb, mb, db, by omega, by go_num, (by rw [HP1.out] <;> rfl), (by unfold pickE; rw [HP1.out]; first | rfl | exact congrArg (Value.int .i64) HE.out), by rw [HP1.out]; exact HZ2, by rw [HP1.out]; exact HR2, hide (fun j => by simp only [put_free]; exact HFF.out j), (put7_below (hbw.trans (hbr4.mono (by omega))) (Nat.le_refl _) (.int .i64 b.gen) (.int .i64 b.epoch) (.int .i64 b.pos) (.int .i64 b.seq) (.int .i64 b.last) (.string b.label) (.slice Vb mb db)), by simp only [set_size]; exact Nat.le_trans hsz hbr4.size⟩
          case measure => (first | omega | (simp [RowKit.intOf]; omega) | go_num)
        | true =>
          obtain rfl : E = 0 := HE.out.trans (if_pos rfl)
          by_cases hgt : a0.gen < b.gen
          · have HP1 := hide ((HST.out _ hs1).trans (if_pos (.inr hgt)))
            obtain ⟨b0, _⟩ := HVB.out
            obtain ⟨v0, _⟩ := hsv.out.on (by omega) hbr4
            clear hs1
            obtain ⟨b0, b1, b2, b3, b4, b5, b6⟩ := HVB.out
            have hzz := hsv.out.on (by omega) hbr4
            have hff : ∀ j, W4.frozen? ⟨w.heap.size + 1, j, none⟩ = false := fun j => (hbr4.frozen (by show w.heap.size + 1 < _; omega)).trans (hfr.out j)
            have g0 := hff 0
            have g1 := hff 1
            have g2 := hff 2
            have g3 := hff 3
            have g4 := hff 4
            have g5 := hff 5
            have g6 := hff 6
            have HZ2 := hide (put7_sev hzz (.int .i64 b.gen) (.int .i64 b.epoch) (.int .i64 b.pos) (.int .i64 b.seq) (.int .i64 b.last) (.string b.label) (.slice Vb mb db))
            have HFF := hide hff
            have HR2 := hide (put7_new homR_fine hsb4 (show w.heap.size + 1 < W0.heap.size by omega) (.int .i64 b.gen) (.int .i64 b.epoch) (.int .i64 b.pos) (.int .i64 b.seq) (.int .i64 b.last) (.string b.label) (.slice Vb mb db))
            obtain ⟨y0, y1, y2, y3, y4, y5, y6⟩ := hzz
            clear hff
            go_wp2_with fail
            go_roundw
            case rel => exact ⟨k + 1, Vb, mb, db, by omega, by go_num, (by rw [HP1.out] <;> rfl), (by unfold pickE; rw [HP1.out]; first | rfl | exact congrArg (Value.int .i64) HE.out), by rw [HP1.out]; exact HZ2, by rw [HP1.out]; exact HR2, hide (fun j => by simp only [put_free]; exact HFF.out j), (put7_below (hbw.trans (hbr4.mono (by omega))) (Nat.le_refl _) (.int .i64 b.gen) (.int .i64 b.epoch) (.int .i64 b.pos) (.int .i64 b.seq) (.int .i64 b.last) (.string b.label) (.slice Vb mb db)), by simp only [set_size]; exact Nat.le_trans hsz hbr4.size⟩
            case measure => (first | omega | (simp [RowKit.intOf]; omega) | go_num)
          · have HP1 := hide ((HST.out _ hs1).trans (if_neg fun h => by rcases h with h | h; cases h; exact hgt h))
            obtain ⟨b0, _⟩ := HVB.out
            obtain ⟨v0, _⟩ := hsv.out.on (by omega) hbr4
            clear hs1
            go_wp2_with fail
            go_roundw
            case rel => exact ⟨k + 1, V, m, d, by omega, by go_num, (by rw [HP1.out] <;> rfl), (by unfold pickE; rw [HP1.out]; first | rfl | exact congrArg (Value.int .i64) HE.out), by rw [HP1.out]; exact hide (hsv.out.on (by omega) hbr4), by rw [HP1.out]; exact hide (hrd.out.move homR_fine (fun q hq => hbr4.block q hq.2) (fun q hq => ⟨hq.1, Nat.lt_of_lt_of_le hq.2 hbr4.size⟩)), hide (fun j => (hbr4.frozen (by show w.heap.size + 1 < _; omega)).trans (hfr.out j)), hbw.trans (hbr4.mono (by omega)), Nat.le_trans hsz hbr4.size⟩
            case measure => (first | omega | (simp [RowKit.intOf]; omega) | go_num)
      · have HP1 := hide (HST.out _ hs1)
        clear hs1
        go_wp2_with fail
        go_roundw
        case rel => exact ⟨k + 1, V, m, d, by omega, by go_num, (by rw [HP1.out] <;> rfl), (by unfold pickE; rw [HP1.out]; first | rfl | exact congrArg (Value.int .i64) HE.out), by rw [HP1.out]; exact hide (hsv.out.on (by omega) hbr4), by rw [HP1.out]; exact hide (hrd.out.move homR_fine (fun q hq => hbr4.block q hq.2) (fun q hq => ⟨hq.1, Nat.lt_of_lt_of_le hq.2 hbr4.size⟩)), hide (fun j => (hbr4.frozen (by show w.heap.size + 1 < _; omega)).trans (hfr.out j)), hbw.trans (hbr4.mono (by omega)), Nat.le_trans hsz hbr4.size⟩
        case measure => (first | omega | (simp [RowKit.intOf]; omega) | go_num)
    · obtain rfl : k = n := by omega
      have hzu := put7_sev hsv.out (.int .i64 a0.gen) (.int .i64 a0.epoch) (.int .i64 a0.pos) (.int .i64 a0.seq) (.int .i64 a0.last) (.string a0.label) (.slice V m d)
      unfold put7 at hzu
      have HZU := hide hzu
      have HRF := hide ((put7_new homR_fine hrd.out (show w.heap.size + 1 < W0.heap.size by omega) (.int .i64 a0.gen) (.int .i64 a0.epoch) (.int .i64 a0.pos) (.int .i64 a0.seq) (.int .i64 a0.last) (.string a0.label) (.slice V m d)).old_ homR_fine)
      have g0 := hfr.out 0
      have g1 := hfr.out 1
      have g2 := hfr.out 2
      have g3 := hfr.out 3
      have g4 := hfr.out 4
      have g5 := hfr.out 5
      have g6 := hfr.out 6
      obtain ⟨y0, y1, y2, y3, y4, y5, y6⟩ := hsv.out
      clear hzu
      go_wp2_with fail
      obtain ⟨u0, u1, u2, u3, u4, u5, u6⟩ := HZU.out
      exact bodyPost_ret (v := .tuple #[.agg #[.int .i64 a0.gen, .int .i64 a0.epoch, .int .i64 a0.pos, .int .i64 a0.seq, .int .i64 a0.last, .string a0.label, .slice V m d], .int .i64 (t0 : Int), .int .i64 E]) (by simp [results, Tryd.results47, go_sem, u0, u1, u2, u3, u4, u5, u6]) rfl (by rw [← HPK.out, ← HEK.out]; exact ⟨put7_below hbww (by omega) _ _ _ _ _ _ _, V, m, d, rfl, HRF.out⟩)

end Go.Proofs.YtamgpbkakmffiaaDoor

namespace Go.Proofs.YtamgpbkakmffiaaDoor
open Go.RowKit Go.Lib
set_option linter.unusedVariables false
set_option maxRecDepth 100000

theorem says_cell {g : Geo} {a : Anc} (hG : GeoOk g) (ho : AncOk g a) {i : Nat} (hi : i ≤ 65535) (k : Int) : saysN g 0 (sealL i a.gen.toNat (ancL a)) k = if (i : Int) = k then some a else none := by
  have hr := (anc_room hG ho).2
  have hgn := ho.1.1
  have hge : 0 ≤ a.gen := hgn.1
  have hge2 : a.gen ≤ 4294967295 := hgn.2
  have h1 := open_seal (a := i) (s := a.gen.toNat) (l := ancL a) (by omega) hi (by omega)
  have h2 := anc_back hG ho
  unfold saysN
  rw [h1]
  dsimp only
  by_cases hk : (i : Int) = k
  · rw [if_pos ⟨hG, ⟨by omega, by omega⟩, rfl, rfl, hk⟩, if_pos hk, h2]
    exact if_pos ⟨ho, by omega⟩
  · rw [if_neg (fun h => hk h.2.2.2.2), if_neg hk]
theorem says_bad {g : Geo} {e : Int} (he : e ≠ 0) (l : List UInt8) (k : Int) : saysN g e l k = none := by
  unfold saysN
  exact if_neg (fun h => he h.2.2.1)
theorem says_shut {g : Geo} {e : Int} {l : List UInt8} (he : (openS l).2 ≠ 0) (k : Int) : saysN g e l k = none := by
  unfold saysN
  exact if_neg (fun h => he h.2.2.2.1)
theorem lit_got2 {w : World} {N : Nat} {A A' : Option Addr} {n c n' c' : Nat} {x y : Gt} (e : TypeId) (hN : w.heap.size = N) (h : Bs w A n c x.bytes) (h' : Bs w A' n' c' y.bytes) (hx : InI x.err) (hy : InI y.err) :
    Sl gotR 2 (w.alloc (.cells #[.int .i64 x.err, .slice A n c, .int .i64 y.err, .slice A' n' c'] e)) (Old (w.alloc (.cells #[.int .i64 x.err, .slice A n c, .int .i64 y.err, .slice A' n' c'] e))) (some ⟨N, 0, none⟩) 2 2 [x, y] := by
  subst hN
  refine (Ow.made (R := gotR) (s := 2) (lo := 0) (e := e) (n := 2) (L := [x, y]) w #[.int .i64 x.err, .slice A n c, .int .i64 y.err, .slice A' n' c'] (by simp only [maxLen]; omega) rfl rfl (by simp [Value.oneCell']) (fun i z hz => ?_) gotR_fine).read gotR_fine
  have hi := (List.getElem?_eq_some_iff.1 hz).1
  simp at hi
  obtain rfl | rfl : i = 0 ∨ i = 1 := by omega
  · simp at hz
    subst hz
    exact ⟨A, n, c, rfl, hx, h.move byteR_fine (fun _ _ => rfl) (fun b hb => ⟨Nat.zero_le _, hb⟩)⟩
  · simp at hz
    subst hz
    exact ⟨A', n', c', rfl, hy, h'.move byteR_fine (fun _ _ => rfl) (fun b hb => ⟨Nat.zero_le _, hb⟩)⟩
theorem some_two : someG 0 0 0 0 1 = ⟨1, 1, 0, 14, 2⟩ := by
  have h1 : um 1 3 = 1 := by unfold um; decide +kernel
  unfold someG
  rw [h1]
  simp only [um_zero]
  rfl
theorem geo_two : GeoOk ⟨1, 1, 0, 14, 2⟩ := by decide
theorem lab_none : labE (sL ⟨#[]⟩) = 0 := by
  have h : decs (sL ⟨#[]⟩) = [] := by
    have e : sL ⟨#[]⟩ = [] := rfl
    rw [e, ← decsF_eq 0 _ (by decide)]; rfl
  rw [labE_ok, h]
  exact ⟨by decide, by decide⟩
theorem cell_rest {g : Geo} {e : Int} {b : List UInt8} {k : Nat} {L : List Gt} (hk : L[k]? = some ⟨e, b⟩) (h : saysN g e b (k : Int) = none) : pickN g L (k + 1) = pickN g L k := by
  show (match (L[k]?).bind fun x => saysN g x.err x.bytes (k : Int) with | none => pickN g L k | some b => _) = _
  rw [hk]
  show (match saysN g e b (k : Int) with | none => pickN g L k | some b => _) = _
  rw [h]
theorem cell_take {g : Geo} {e : Int} {b : List UInt8} {k : Nat} {L : List Gt} {a : Anc} (hk : L[k]? = some ⟨e, b⟩) (h : saysN g e b (k : Int) = some a) (hb : (pickN g L k).2.2 = false ∨ (pickN g L k).1.gen < a.gen) : pickN g L (k + 1) = (a, k, true) := by
  show (match (L[k]?).bind fun x => saysN g x.err x.bytes (k : Int) with | none => pickN g L k | some b => _) = _
  rw [hk]
  show (match saysN g e b (k : Int) with | none => pickN g L k | some b => _) = _
  rw [h]
  exact if_pos hb
theorem cell_stay {g : Geo} {e : Int} {b : List UInt8} {k : Nat} {L : List Gt} {a : Anc} (hk : L[k]? = some ⟨e, b⟩) (h : saysN g e b (k : Int) = some a) (hb : ¬ ((pickN g L k).2.2 = false ∨ (pickN g L k).1.gen < a.gen)) : pickN g L (k + 1) = pickN g L k := by
  show (match (L[k]?).bind fun x => saysN g x.err x.bytes (k : Int) with | none => pickN g L k | some b => _) = _
  rw [hk]
  show (match saysN g e b (k : Int) with | none => pickN g L k | some b => _) = _
  rw [h]
  exact if_neg hb

theorem um_rawG {i n : Int} {k : Nat} (h : um i n = (k : Int)) (hn : 1 ≤ n) (hn' : n ≤ 4294967296) : (IntKind.u64.wrap i).tmod n = (k : Int) ∧ IntKind.u64.wrap i % n = (k : Int) := by
  have h0 : 0 ≤ IntKind.u64.wrap i := by rw [IntKind.wrap_u64]; exact Int.emod_nonneg _ (by omega)
  have h1 : (IntKind.u64.wrap i).tmod n = IntKind.u64.wrap i % n := Int.tmod_eq_emod_of_nonneg h0
  have h2 : 0 ≤ IntKind.u64.wrap i % n := Int.emod_nonneg _ (by omega)
  have h3 : IntKind.u64.wrap i % n < n := Int.emod_lt_of_pos _ (by omega)
  unfold um at h
  rw [h1, IntWalk.wrap64_in _ ⟨by omega, by omega⟩] at h
  exact ⟨by rw [h1, h], h⟩

set_option maxHeartbeats 4000000 in
theorem wakes09 (w : World) (hT : Tabs w) : Calls Tryd.prog 50 #[] w fun e w' => e = .returned (.bool true) ∧ Below w.heap.size w w' := by
  have hs0 := fun w => some_any 0 0 0 0 1 inI_0 inI_0 inI_0 inI_0 inI_1 w
  rw [some_two] at hs0
  have hok : AncOk ⟨1, 1, 0, 14, 2⟩ (newAnc 1 1 ⟨#[]⟩) := newAnc_ok geo_two rfl rfl lab_none
  have hin : (newAnc 1 1 ⟨#[]⟩).In := newAnc_in (by decide)
  have hlt : Light (newAnc 1 1 ⟨#[]⟩) := newAnc_light (by decide) (by omega) (by omega)
  have hl25 : (ancL (newAnc 1 1 ⟨#[]⟩)).length = 25 := by
    rw [ancL_len (d := 1) (fun h hm => by obtain rfl := (List.mem_replicate.1 hm).2; exact upTo_len 2)]
    rfl
  have hfi := fun w => rafirst_any (g := ⟨1, 1, 0, 14, 2⟩) (z := 1) (d := 1) rfl rfl (by omega) (by omega) ⟨#[]⟩ w
  have hce := fun (V : Option Addr) (c : Nat) (w : World) (hT : Tabs w) (h : Sl homR 3 w (Old w) V 1 c (List.replicate 1 (newHom 1))) => ncell_yes ⟨1, 1, 0, 14, 2⟩ (newAnc 1 1 ⟨#[]⟩) V 1 c 1 w hT h hin hlt ⟨geo_two, hok, by decide, by decide⟩
  obtain ⟨S, hS⟩ : ∃ S, S = sealL 1 (newAnc 1 1 ⟨#[]⟩).gen.toNat (ancL (newAnc 1 1 ⟨#[]⟩)) := ⟨_, rfl⟩
  have hSl : S.length = 36 := by rw [hS, seal_len, hl25]
  have hsy : saysN ⟨1, 1, 0, 14, 2⟩ 0 S ((1 : Nat) : Int) = some (newAnc 1 1 ⟨#[]⟩) := by rw [hS, says_cell geo_two hok (by omega)]; exact if_pos rfl
  rw [hl25] at hce
  rw [← hS] at hce
  have hP1 : pickN ⟨1, 1, 0, 14, 2⟩ [⟨6, []⟩, ⟨0, S⟩] 2 = (newAnc 1 1 ⟨#[]⟩, 1, true) := by
    refine cell_take rfl hsy (.inl ?_)
    rw [cell_rest (k := 0) rfl (says_bad (by decide) _ _)]
    rfl
  have hP2 : pickN ⟨1, 1, 0, 14, 2⟩ [⟨6, []⟩, ⟨0, []⟩] 2 = (noAnc, 0, false) := by
    rw [cell_rest (k := 1) rfl (says_shut (by decide) _), cell_rest (k := 0) rfl (says_bad (by decide) _ _)]
    rfl
  have hE1 : pickE ⟨1, 1, 0, 14, 2⟩ [⟨6, []⟩, ⟨0, S⟩] 2 = 0 := by unfold pickE; rw [hP1]; rfl
  have hE2 : pickE ⟨1, 1, 0, 14, 2⟩ [⟨6, []⟩, ⟨0, []⟩] 2 = 11 := by unfold pickE; rw [hP2]; rfl
  have hpa := fun (V : Option Addr) (w : World) (hT : Tabs w) (h : Sl gotR 2 w (Old w) V 2 2 [⟨6, []⟩, ⟨0, S⟩]) => npick_yes ⟨1, 1, 0, 14, 2⟩ geo_two V 2 2 _ w hT h rfl (fun x hx => by
    simp only [List.mem_cons, List.not_mem_nil, or_false] at hx
    rcases hx with rfl | rfl
    · show 0 ≤ 60000
      omega
    · show S.length ≤ 60000
      omega)
  have hpb := fun (V : Option Addr) (w : World) (hT : Tabs w) (h : Sl gotR 2 w (Old w) V 2 2 [⟨6, []⟩, ⟨0, []⟩]) => npick_yes ⟨1, 1, 0, 14, 2⟩ geo_two V 2 2 _ w hT h rfl (fun x hx => by
    simp only [List.mem_cons, List.not_mem_nil, or_false] at hx
    rcases hx with rfl | rfl
    all_goals
      show 0 ≤ 60000
      omega)
  simp only [hP1, hE1] at hpa
  simp only [hP2, hE2] at hpb
  unfold Geo.v Anc.v newAnc at hfi hce hpa
  unfold Geo.v Anc.v noAnc at hpb
  unfold Geo.v at hs0
  dsimp only at hfi hce hpa hpb hs0
  have HS0 := hide hs0
  have HFI := hide hfi
  have HCE := hide hce
  have HPA := hide hpa
  have HPB := hide hpb
  have hS6 : InI 6 := ⟨by omega, by omega⟩
  clear hs0 hfi hce hpa hpb hok hin hlt hl25 hP1 hP2 hE1 hE2 hS hsy
  go_enter Tryd.func50, Tryd.ntmps50
  go_wp2_with fail
  refine (HS0.out _).mono ?_
  rintro e w1 ⟨rfl, hb1⟩
  have hE2 := alloc_below w1 (.cells #[.int .i64 1, .int .i64 1, .int .i64 0, .int .i64 14, .int .i64 2] 23)
  have hgb := GeoAt.new w1 ⟨1, 1, 0, 14, 2⟩ 23
  have HGB := hide hgb
  have hb02 := th hb1 hE2
  clear hgb
  go_wp2_with fail
  refine (HFI.out _).mono ?_
  rintro e w3 ⟨hb3, V3, c3, rfl, hs3⟩
  obtain ⟨W4, hW4⟩ : ∃ W4, W4 = w3.alloc (.cells #[.int .i64 1, .int .i64 0, .int .i64 0, .int .i64 1, .int .i64 0, .string ⟨#[]⟩, .slice V3 1 c3] 26) := ⟨_, rfl⟩
  have hE4 : Below w3.heap.size w3 W4 := by rw [hW4]; exact alloc_below _ _
  have hv4 : Sev W4 w3.heap.size (.int .i64 1) (.int .i64 0) (.int .i64 0) (.int .i64 1) (.int .i64 0) (.string ⟨#[]⟩) (.slice V3 1 c3) := by rw [hW4]; exact Sev.new rfl (Below.refl _ _)
  have hb24 := th hb3 hE4
  have hb04 := th hb02 hb24
  have hs4 := (hs3.old_ homR_fine).on homR_fine hE4
  have hgq := (HGB.out.on hb24).2
  rw [hW4] at hgq hv4
  obtain ⟨p0, p1, p2, p3, p4⟩ := hgq
  obtain ⟨q0, q1, q2, q3, q4, q5, q6⟩ := hv4
  go_wp2_with fail
  rw [← hW4]
  clear hW4 p0 p1 p2 p3 p4 q0 q1 q2 q3 q4 q5 q6
  refine (HCE.out _ _ _ (hT.below hb04) hs4).mono ?_
  rintro e w5 ⟨V5, c5, rfl, ho5, hb5⟩
  have hb05 := th hb04 hb5
  obtain ⟨W6, hW6⟩ : ∃ W6, W6 = w5.alloc (.cells #[.int .i64 6, .slice none 0 0, .int .i64 0, .slice V5 36 c5] 78) := ⟨_, rfl⟩
  have hs6 : Sl gotR 2 W6 (Old W6) (some ⟨w5.heap.size, 0, none⟩) 2 2 [⟨6, []⟩, ⟨0, S⟩] := by rw [hW6]; exact lit_got2 (x := ⟨6, []⟩) (y := ⟨0, S⟩) _ rfl (Sl.nil_ _) (ho5.read byteR_fine) hS6 inI_0
  have hE6 : Below w5.heap.size w5 W6 := by rw [hW6]; exact alloc_below _ _
  have hb06 := th hb05 hE6
  obtain ⟨_, p0, p1, p2, p3, p4⟩ := HGB.out.on (th hb24 hb5)
  go_wp2_with fail
  rw [← hW6]
  clear hW6 p0 p1 p2 p3 p4
  refine (HPA.out _ _ (hT.below hb06) hs6).mono ?_
  rintro e w7 ⟨hb7, V7, m7, c7, rfl, hs7⟩
  obtain ⟨W8, hW8⟩ : ∃ W8, W8 = w7.alloc (.cells #[.int .i64 1, .int .i64 0, .int .i64 0, .int .i64 1, .int .i64 0, .string ⟨#[]⟩, .slice V7 m7 c7] 26) := ⟨_, rfl⟩
  have hE8 : Below w7.heap.size w7 W8 := by rw [hW8]; exact alloc_below _ _
  have hv8 : Sev W8 w7.heap.size (.int .i64 1) (.int .i64 0) (.int .i64 0) (.int .i64 1) (.int .i64 0) (.string ⟨#[]⟩) (.slice V7 m7 c7) := by rw [hW8]; exact Sev.new rfl (Below.refl _ _)
  have hN8 : w7.heap.size < W8.heap.size := by rw [hW8]; simp
  have HV8 := hide hv8
  have hb28 := th hb24 (th hb5 (th hE6 (th hb7 hE8)))
  have hb08 := th hb06 (th hb7 hE8)
  clear hv8
  go_upto_region 5 with fail
  rw [← hW8]
  clear hW8
  obtain ⟨W9, hW9⟩ : ∃ W9, W9 = W8.alloc (.cells #[.int .i64 6, .slice none 0 0, .int .i64 0, .slice none 0 0] 78) := ⟨_, rfl⟩
  have hs9 : Sl gotR 2 W9 (Old W9) (some ⟨W8.heap.size, 0, none⟩) 2 2 [⟨6, []⟩, ⟨0, []⟩] := by rw [hW9]; exact lit_got2 (x := ⟨6, []⟩) (y := ⟨0, []⟩) _ rfl (Sl.nil_ _) (Sl.nil_ _) hS6 inI_0
  have hE9 : Below W8.heap.size W8 W9 := by rw [hW9]; exact alloc_below _ _
  have hb09 := th hb08 hE9
  obtain ⟨_, p0, p1, p2, p3, p4⟩ := HGB.out.on hb28
  go_wp2_with fail
  rw [← hW9]
  clear hW9 p0 p1 p2 p3 p4
  refine (HPB.out _ _ (hT.below hb09) hs9).mono ?_
  rintro e w10 ⟨hb10, V10, m10, c10, rfl, hs10⟩
  obtain ⟨W11, hW11⟩ : ∃ W11, W11 = w10.alloc (.cells #[.int .i64 0, .int .i64 0, .int .i64 0, .int .i64 0, .int .i64 0, .string ⟨#[]⟩, .slice V10 m10 c10] 26) := ⟨_, rfl⟩
  have hE11 : Below w10.heap.size w10 W11 := by rw [hW11]; exact alloc_below _ _
  have hb911 := th hE9 (th hb10 hE11)
  go_upto_region 6 with fail
  rw [← hW11]
  clear hW11
  obtain ⟨q0, q1, q2, q3, q4, q5, q6⟩ := HV8.out.on hN8 hb911
  go_wp2_with fail
  go_ret
  exact ⟨rfl, th hb08 hb911⟩
theorem rcell_any {A : Option Addr} {n c : Nat} {l : List UInt8} {w : World} (hl : Bs w A n c l) (a s : Nat) (ha : a ≤ 65535) (hs : s ≤ 4294967295) (hn : n ≤ 96) :
    Calls Tryd.prog 55 #[.int .i64 a, .int .i64 s, .slice A n c] w fun e w' => ∃ V cv, e = .returned (.slice V (n + 11) cv) ∧ Ow byteR 1 w' w.heap.size w.heap.size 5 (.slice V (n + 11) cv) (n + 11) (sealL a s l) ∧ Below w.heap.size w w' := by
  have H := hide (rseal_any hl a s ha hs hn)
  go_enter Tryd.func55, Tryd.ntmps55
  go_wp2_with fail
  refine H.out.mono ?_
  rintro e w1 ⟨V, cv, rfl, ho, hb⟩
  go_wp2_with fail
  go_ret
  exact ⟨V, cv, rfl, ho, hb⟩
end Go.Proofs.YtamgpbkakmffiaaDoor
