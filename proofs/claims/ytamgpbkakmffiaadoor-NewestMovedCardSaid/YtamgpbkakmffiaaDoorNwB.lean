/-
  Contract: newest.Says.
-/
import Derived.Test.YtamgpbkakmffiaaDoorNwA
import Derived.Test.YtamgpbkakmffiaaDoorSealO
namespace Go.Proofs.YtamgpbkakmffiaaDoor
open Go.RowKit Go.Lib
set_option linter.unusedVariables false
set_option maxRecDepth 100000

/-- The anchor that a reading says, if any. -/
def saysN (g : Geo) (err : Int) (l : List UInt8) (addr : Int) : Option Anc :=
  if GeoOk g ∧ (0 ≤ addr ∧ addr ≤ 65535) ∧ err = 0 ∧ (openS l).2 = 0 ∧ (openS l).1.addr = addr then
    match ancOf g.zones.toNat g.data.toNat (openS l).1.load with
    | some a => if AncOk g a ∧ a.gen = (openS l).1.stamp then some a else none
    | none => none
  else none
def SaysIs (S : Option Anc) (a : Anc) (r : Bool) : Prop := (r = true ∧ S = some a) ∨ (r = false ∧ a = noAnc ∧ S = none)
theorem says_no : SaysIs none noAnc false := .inr ⟨rfl, rfl, rfl⟩
theorem says_yes (a : Anc) : SaysIs (some a) a true := .inl ⟨rfl, rfl⟩
def SaysPost (w : World) (S : Option Anc) (e : Ending) (w' : World) : Prop := Below w.heap.size w w' ∧ ∃ (a : Anc) (V : Option Addr) (n c : Nat) (r : Bool), e = .returned (.tuple #[a.v (.slice V n c), .bool r]) ∧ Sl homR 3 w' (New w.heap.size w') V n c a.homes ∧ SaysIs S a r
theorem open_len (l : List UInt8) : (openS l).1.load.length ≤ l.length := by
  unfold openS
  repeat' split
  all_goals (first | (show ([] : List UInt8).length ≤ _; exact Nat.zero_le _) | (show ((l.drop 1).take _).length ≤ _; rw [List.length_take, List.length_drop]; omega))

set_option maxHeartbeats 8000000 in
theorem nsays_any (g : Geo) (err : Int) (A : Option Addr) (n c : Nat) (l : List UInt8) (addr : Int) (w : World) (hT : Tabs w) (hl : Bs w A n c l) (hn : n ≤ 60000) :
    Calls Tryd.prog 46 #[g.v, .agg #[.int .i64 err, .slice A n c], .int .i64 addr] w (SaysPost w (saysN g err l addr)) := by
  have HCK := hide fun w => gcheck_any g w
  have HOP := hide fun w h => open_any (A := A) (n := n) (c := c) (l := l) (w := w) h (by omega)
  have hol : (openS l).1.load.length ≤ 60000 := by have := open_len l; have := hl.len; omega
  have HRD := hide fun V m d w hT h hm => aread_any g V m d (openS l).1.load w hT h hm
  unfold OpenPost at HOP
  unfold AReadPost at HRD
  obtain ⟨S, hS⟩ : ∃ S, S = saysN g err l addr := ⟨_, rfl⟩
  rw [← hS]
  have HS : Hid (S = saysN g err l addr) := hide hS
  have HNO : Hid (¬ (GeoOk g ∧ (0 ≤ addr ∧ addr ≤ 65535) ∧ err = 0 ∧ (openS l).2 = 0 ∧ (openS l).1.addr = addr) → S = none) := hide fun h => by rw [HS.out]; exact if_neg h
  have HYES : Hid ((GeoOk g ∧ (0 ≤ addr ∧ addr ≤ 65535) ∧ err = 0 ∧ (openS l).2 = 0 ∧ (openS l).1.addr = addr) → S = match ancOf g.zones.toNat g.data.toNat (openS l).1.load with | some a => if AncOk g a ∧ a.gen = (openS l).1.stamp then some a else none | none => none) := hide fun h => by rw [HS.out]; exact if_pos h
  clear hS
  obtain ⟨OS, hOS⟩ : ∃ OS, OS = openS l := ⟨_, rfl⟩
  rw [← hOS] at HOP HRD HNO HYES hol
  have HOL := hide hol
  clear hol hOS HS
  unfold SaysPost
  obtain ⟨W0, hW0⟩ : ∃ W0, W0 = ((w.alloc (.cells #[.int .i64 g.zones, .int .i64 g.data, .int .i64 g.spares, .int .i64 g.slots, .int .i64 g.anchors] 23)).alloc (.cells #[.int .i64 err, .slice A n c] 78)).alloc (.cells #[.int .i64 0, .int .i64 0, .int .i64 0, .int .i64 0, .int .i64 0, .string ⟨#[]⟩, .slice none 0 0] 26) := ⟨_, rfl⟩
  have hs0 : W0.heap.size = w.heap.size + 3 := by rw [hW0]; simp
  have hb0 : Below w.heap.size w W0 := by rw [hW0]; exact ((alloc_below w _).alloc (by simp) _).alloc (by simp; omega) _
  have hl0 := hl.on byteR_fine hb0
  have hgb : GeoAt W0 w.heap.size g := by rw [hW0]; exact (GeoAt.new w g 23).on ((alloc_below _ _).alloc (by simp) _)
  have hxb : ∀ W, Below W0.heap.size W0 W → W.cell? ⟨w.heap.size + 1, 0, none⟩ = some (.int .i64 err) ∧ W.cell? ⟨w.heap.size + 1, 1, none⟩ = some (.slice A n c) := fun W hW => by
    have h2 := th (alloc_below _ _) (show Below (((w.alloc (.cells #[.int .i64 g.zones, .int .i64 g.data, .int .i64 g.spares, .int .i64 g.slots, .int .i64 g.anchors] 23)).alloc (.cells #[.int .i64 err, .slice A n c] 78)).alloc (.cells #[.int .i64 0, .int .i64 0, .int .i64 0, .int .i64 0, .int .i64 0, .string ⟨#[]⟩, .slice none 0 0] 26)).heap.size _ W by rw [← hW0]; exact hW)
    exact ⟨bx_at2 (by simp) h2 0 _ rfl, bx_at2 (by simp) h2 1 _ rfl⟩
  have hzv : Sev W0 (w.heap.size + 1 + 1) (.int .i64 0) (.int .i64 0) (.int .i64 0) (.int .i64 0) (.int .i64 0) (.string ⟨#[]⟩) (.slice none 0 0) := by rw [hW0]; exact Sev.new (by simp) (Below.refl _ _)
  have hfZ : ∀ W, Below W0.heap.size W0 W → ∀ k, W.frozen? ⟨w.heap.size + 1 + 1, k, none⟩ = false := fun W hW k => (hW.frozen (by show w.heap.size + 1 + 1 < _; omega)).trans (by rw [hW0]; exact bx_free2 (by simp) (Below.refl _ _) k)
  have HXB := hide hxb
  have HFZ := hide hfZ
  have HZV := hide hzv
  have HGB := hide hgb
  have hpq := hgb.2
  have hxq := hxb W0 (Below.refl _ _)
  rw [hW0] at hpq hxq
  obtain ⟨p0, p1, p2, p3, p4⟩ := hpq
  obtain ⟨x0, x1⟩ := hxq
  clear hgb hzv hfZ hxb
  unfold Geo.v at *
  by_cases hG : GeoOk g
  · rw [show geoErr g = 0 from if_pos hG] at HCK
    by_cases h0 : 0 ≤ addr
    · by_cases h1 : addr ≤ 65535
      · by_cases h2 : err = 0
        · subst h2
          have t1 : ¬ addr < 0 := by omega
          have t2 : ¬ 65535 < addr := by omega
          obtain ⟨⟨oa, os, ol⟩, oe⟩ := OS
          dsimp only at *
          by_cases h3 : oe = 0
          · subst h3
            by_cases h4 : oa = addr
            · subst h4
              have HM := hide (HYES.out ⟨hG, ⟨h0, h1⟩, rfl, rfl, rfl⟩)
              have HGO := hide hG
              clear hG h0 h1 HNO HYES
              go_enter Tryd.func46, Tryd.ntmps46
              go_wp2_with fail
              rw [← hW0]
              clear hW0 p0 p1 p2 p3 p4 x0 x1
              refine (HCK.out _).mono ?_
              rintro e w1 ⟨rfl, hb1⟩
              obtain ⟨x0, x1⟩ := HXB.out _ hb1
              go_wp2_with fail
              refine (HOP.out _ (hl0.on byteR_fine hb1)).mono ?_
              rintro e w2 ⟨VO, no, co, rfl, hs2, hb2⟩
              have hE3 := alloc_below w2 (.cells #[.int .i64 oa, .int .i64 os, .slice VO no co] 122)
              obtain ⟨W3, hW3⟩ : ∃ W3, W3 = w2.alloc (.cells #[.int .i64 oa, .int .i64 os, .slice VO no co] 122) := ⟨_, rfl⟩
              have hb23 : Below w2.heap.size w2 W3 := by rw [hW3]; exact alloc_below _ _
              have hSB : Hid (∀ W, Below W3.heap.size W3 W → W.cell? ⟨w2.heap.size, 0, none⟩ = some (.int .i64 oa) ∧ W.cell? ⟨w2.heap.size, 1, none⟩ = some (.int .i64 os) ∧ W.cell? ⟨w2.heap.size, 2, none⟩ = some (.slice VO no co)) := hide fun W hW => by
                subst hW3
                exact ⟨box_cell hW 0 _ rfl, box_cell hW 1 _ rfl, box_cell hW 2 _ rfl⟩
              have hb03 := th hb1 (th hb2 hb23)
              have hno : no ≤ 60000 := by have := hs2.len; have := HOL.out; omega
              clear x0 x1 hE3
              go_upto_region 4 with fail
              rw [← hW3]
              clear hW3
              obtain ⟨s0, s1, s2⟩ := hSB.out _ (Below.refl _ _)
              obtain ⟨_, p0, p1, p2, p3, p4⟩ := HGB.out.on hb03
              go_wp2_with fail
              refine (HRD.out _ _ _ _ (hT.below (th hb0 hb03)) (hs2.on byteR_fine hb23) hno).mono ?_
              rintro e w4 ⟨hb4, r, v, er, rfl, ⟨VR, nr, cr, rfl, hsr⟩, hq⟩
              unfold Anc.v
              dsimp only
              obtain ⟨W5, hW5⟩ : ∃ W5, W5 = w4.alloc (.cells #[.int .i64 r.gen, .int .i64 r.epoch, .int .i64 r.pos, .int .i64 r.seq, .int .i64 r.last, .string r.label, .slice VR nr cr] 26) := ⟨_, rfl⟩
              have hE5 : Below w4.heap.size w4 W5 := by rw [hW5]; exact alloc_below _ _
              have hN5 : w4.heap.size < W5.heap.size := by rw [hW5]; simp
              have hv5 : Sev W5 w4.heap.size (.int .i64 r.gen) (.int .i64 r.epoch) (.int .i64 r.pos) (.int .i64 r.seq) (.int .i64 r.last) (.string r.label) (.slice VR nr cr) := by rw [hW5]; exact Sev.new rfl (Below.refl _ _)
              have HV5 := hide hv5
              have hr5 := (hsr.old_ homR_fine).on homR_fine hE5
              have hb35 := th hb4 hE5
              have hb05 := th hb03 hb35
              clear hv5 p0 p1 p2 p3 p4 s0 s1 s2
              rcases hq with ⟨h, _⟩ | ⟨_, hq1, hq2, rfl⟩ | ⟨_, hq1, rfl, rfl⟩
              · exact absurd HGO.out h
              · by_cases hgs : r.gen = os
                · have hSr : S = some r := by rw [HM.out, hq1]; exact if_pos ⟨hq2, hgs⟩
                  subst hSr
                  have HGS := hide hgs
                  clear hq1 hq2 hgs HM
                  go_upto_region 7 with fail
                  rw [← hW5]
                  clear hW5
                  obtain ⟨s0, s1, s2⟩ := hSB.out _ hb35
                  rw [← HGS.out] at s1
                  obtain ⟨t0, t1, t2, t3, t4, t5, t6⟩ := HV5.out
                  have hzz := HZV.out.onB (show w.heap.size + 1 + 1 < W0.heap.size by omega) hb05
                  have f0 := HFZ.out _ hb05 0
                  have f1 := HFZ.out _ hb05 1
                  have f2 := HFZ.out _ hb05 2
                  have f3 := HFZ.out _ hb05 3
                  have f4 := HFZ.out _ hb05 4
                  have f5 := HFZ.out _ hb05 5
                  have f6 := HFZ.out _ hb05 6
                  have hzu := put7_sev hzz (.int .i64 r.gen) (.int .i64 r.epoch) (.int .i64 r.pos) (.int .i64 r.seq) (.int .i64 r.last) (.string r.label) (.slice VR nr cr)
                  unfold put7 at hzu
                  have HZU := hide hzu
                  have hsz4 := (th hb1 (th hb2 hb23)).size
                  have hrd : Sl homR 3 (put7 W5 (w.heap.size + 1 + 1) (.int .i64 r.gen) (.int .i64 r.epoch) (.int .i64 r.pos) (.int .i64 r.seq) (.int .i64 r.last) (.string r.label) (.slice VR nr cr)) (New w.heap.size (put7 W5 (w.heap.size + 1 + 1) (.int .i64 r.gen) (.int .i64 r.epoch) (.int .i64 r.pos) (.int .i64 r.seq) (.int .i64 r.last) (.string r.label) (.slice VR nr cr))) VR nr cr r.homes := by
                    have h1 := put7_new homR_fine (hsr.move (w' := W5) (S' := New W3.heap.size W5) homR_fine (fun b hb => hE5.block b hb.2) (fun b hb => ⟨hb.1, Nat.lt_of_lt_of_le hb.2 hE5.size⟩)) (show w.heap.size + 1 + 1 < W3.heap.size by omega) (.int .i64 r.gen) (.int .i64 r.epoch) (.int .i64 r.pos) (.int .i64 r.seq) (.int .i64 r.last) (.string r.label) (.slice VR nr cr)
                    exact h1.new_less homR_fine (show w.heap.size ≤ W3.heap.size by omega)
                  have HRDD := hide hrd
                  obtain ⟨y0, y1, y2, y3, y4, y5, y6⟩ := hzz
                  clear hzu hrd
                  go_wp2_with fail
                  obtain ⟨u0, u1, u2, u3, u4, u5, u6⟩ := HZU.out
                  exact bodyPost_ret (v := .tuple #[.agg #[.int .i64 r.gen, .int .i64 r.epoch, .int .i64 r.pos, .int .i64 r.seq, .int .i64 r.last, .string r.label, .slice VR nr cr], .bool true]) (by simp [results, Tryd.results46, go_sem, u0, u1, u2, u3, u4, u5, u6]) rfl ⟨put7_below (th hb0 hb05) (by omega) _ _ _ _ _ _ _, r, VR, nr, cr, true, rfl, HRDD.out, says_yes r⟩
                · have hSr : S = none := by rw [HM.out, hq1]; exact if_neg fun h => hgs h.2
                  subst hSr
                  have tg : (r.gen != os) = true := by simpa using hgs
                  clear hq1 hq2 hgs HM
                  go_upto_region 7 with fail
                  rw [← hW5]
                  clear hW5
                  obtain ⟨s0, s1, s2⟩ := hSB.out _ hb35
                  obtain ⟨t0, t1, t2, t3, t4, t5, t6⟩ := HV5.out
                  have hzz := HZV.out.onB (show w.heap.size + 1 + 1 < W0.heap.size by omega) hb05
                  have f0 := HFZ.out _ hb05 0
                  have f1 := HFZ.out _ hb05 1
                  have f2 := HFZ.out _ hb05 2
                  have f3 := HFZ.out _ hb05 3
                  have f4 := HFZ.out _ hb05 4
                  have f5 := HFZ.out _ hb05 5
                  have f6 := HFZ.out _ hb05 6
                  have hzu := put7_sev hzz (.int .i64 0) (.int .i64 0) (.int .i64 0) (.int .i64 0) (.int .i64 0) (.string ⟨#[]⟩) (.slice none 0 0)
                  unfold put7 at hzu
                  have HZU := hide hzu
                  obtain ⟨y0, y1, y2, y3, y4, y5, y6⟩ := hzz
                  clear hzu
                  go_wp2_with fail
                  obtain ⟨u0, u1, u2, u3, u4, u5, u6⟩ := HZU.out
                  exact bodyPost_ret (v := .tuple #[.agg #[.int .i64 0, .int .i64 0, .int .i64 0, .int .i64 0, .int .i64 0, .string ⟨#[]⟩, .slice none 0 0], .bool false]) (by simp [results, Tryd.results46, go_sem, u0, u1, u2, u3, u4, u5, u6]) rfl ⟨put7_below (th hb0 hb05) (by omega) _ _ _ _ _ _ _, noAnc, none, 0, 0, false, rfl, Sl.nil_ _, says_no⟩
              · have hSr : S = none := by
                  rw [HM.out]
                  split
                  · exact if_neg fun h => hq1 _ (by assumption) h.1
                  · rfl
                subst hSr
                clear hq1 HM
                go_upto_region 7 with fail
                rw [← hW5]
                clear hW5
                have hzz := HZV.out.onB (show w.heap.size + 1 + 1 < W0.heap.size by omega) hb05
                have f0 := HFZ.out _ hb05 0
                have f1 := HFZ.out _ hb05 1
                have f2 := HFZ.out _ hb05 2
                have f3 := HFZ.out _ hb05 3
                have f4 := HFZ.out _ hb05 4
                have f5 := HFZ.out _ hb05 5
                have f6 := HFZ.out _ hb05 6
                have hzu := put7_sev hzz (.int .i64 0) (.int .i64 0) (.int .i64 0) (.int .i64 0) (.int .i64 0) (.string ⟨#[]⟩) (.slice none 0 0)
                unfold put7 at hzu
                have HZU := hide hzu
                obtain ⟨y0, y1, y2, y3, y4, y5, y6⟩ := hzz
                clear hzu
                go_wp2_with fail
                obtain ⟨u0, u1, u2, u3, u4, u5, u6⟩ := HZU.out
                exact bodyPost_ret (v := .tuple #[.agg #[.int .i64 0, .int .i64 0, .int .i64 0, .int .i64 0, .int .i64 0, .string ⟨#[]⟩, .slice none 0 0], .bool false]) (by simp [results, Tryd.results46, go_sem, u0, u1, u2, u3, u4, u5, u6]) rfl ⟨put7_below (th hb0 hb05) (by omega) _ _ _ _ _ _ _, noAnc, none, 0, 0, false, rfl, Sl.nil_ _, says_no⟩
            · obtain rfl := HNO.out fun h => h4 h.2.2.2.2
              have t4 : (oa != addr) = true := by simpa using h4
              clear h4 HNO HYES
              go_enter Tryd.func46, Tryd.ntmps46
              go_wp2_with fail
              rw [← hW0]
              clear hW0 p0 p1 p2 p3 p4 x0 x1
              refine (HCK.out _).mono ?_
              rintro e w1 ⟨rfl, hb1⟩
              obtain ⟨x0, x1⟩ := HXB.out _ hb1
              go_wp2_with fail
              refine (HOP.out _ (hl0.on byteR_fine hb1)).mono ?_
              rintro e w2 ⟨VO, no, co, rfl, hs2, hb2⟩
              have hb23 := alloc_below w2 (.cells #[.int .i64 oa, .int .i64 os, .slice VO no co] 122)
              have hb03 := th hb1 (th hb2 hb23)
              have hzz := HZV.out.onB (show w.heap.size + 1 + 1 < W0.heap.size by omega) hb03
              have f0 := HFZ.out _ hb03 0
              have f1 := HFZ.out _ hb03 1
              have f2 := HFZ.out _ hb03 2
              have f3 := HFZ.out _ hb03 3
              have f4 := HFZ.out _ hb03 4
              have f5 := HFZ.out _ hb03 5
              have f6 := HFZ.out _ hb03 6
              have hzu := put7_sev hzz (.int .i64 0) (.int .i64 0) (.int .i64 0) (.int .i64 0) (.int .i64 0) (.string ⟨#[]⟩) (.slice none 0 0)
              unfold put7 at hzu
              have HZU := hide hzu
              obtain ⟨y0, y1, y2, y3, y4, y5, y6⟩ := hzz
              clear hzu
              go_wp2_with fail
              obtain ⟨u0, u1, u2, u3, u4, u5, u6⟩ := HZU.out
              exact bodyPost_ret (v := .tuple #[.agg #[.int .i64 0, .int .i64 0, .int .i64 0, .int .i64 0, .int .i64 0, .string ⟨#[]⟩, .slice none 0 0], .bool false]) (by simp [results, Tryd.results46, go_sem, u0, u1, u2, u3, u4, u5, u6]) rfl ⟨put7_below (th hb0 hb03) (by omega) _ _ _ _ _ _ _, noAnc, none, 0, 0, false, rfl, Sl.nil_ _, says_no⟩
          · obtain rfl := HNO.out fun h => h3 h.2.2.2.1
            have t3 : (oe != 0) = true := by simpa using h3
            clear h3 HNO HYES
            go_enter Tryd.func46, Tryd.ntmps46
            go_wp2_with fail
            rw [← hW0]
            clear hW0 p0 p1 p2 p3 p4 x0 x1
            refine (HCK.out _).mono ?_
            rintro e w1 ⟨rfl, hb1⟩
            obtain ⟨x0, x1⟩ := HXB.out _ hb1
            go_wp2_with fail
            refine (HOP.out _ (hl0.on byteR_fine hb1)).mono ?_
            rintro e w2 ⟨VO, no, co, rfl, hs2, hb2⟩
            have hb23 := alloc_below w2 (.cells #[.int .i64 oa, .int .i64 os, .slice VO no co] 122)
            have hb03 := th hb1 (th hb2 hb23)
            have hzz := HZV.out.onB (show w.heap.size + 1 + 1 < W0.heap.size by omega) hb03
            have f0 := HFZ.out _ hb03 0
            have f1 := HFZ.out _ hb03 1
            have f2 := HFZ.out _ hb03 2
            have f3 := HFZ.out _ hb03 3
            have f4 := HFZ.out _ hb03 4
            have f5 := HFZ.out _ hb03 5
            have f6 := HFZ.out _ hb03 6
            have hzu := put7_sev hzz (.int .i64 0) (.int .i64 0) (.int .i64 0) (.int .i64 0) (.int .i64 0) (.string ⟨#[]⟩) (.slice none 0 0)
            unfold put7 at hzu
            have HZU := hide hzu
            obtain ⟨y0, y1, y2, y3, y4, y5, y6⟩ := hzz
            clear hzu
            go_wp2_with fail
            obtain ⟨u0, u1, u2, u3, u4, u5, u6⟩ := HZU.out
            exact bodyPost_ret (v := .tuple #[.agg #[.int .i64 0, .int .i64 0, .int .i64 0, .int .i64 0, .int .i64 0, .string ⟨#[]⟩, .slice none 0 0], .bool false]) (by simp [results, Tryd.results46, go_sem, u0, u1, u2, u3, u4, u5, u6]) rfl ⟨put7_below (th hb0 hb03) (by omega) _ _ _ _ _ _ _, noAnc, none, 0, 0, false, rfl, Sl.nil_ _, says_no⟩
        · obtain rfl := HNO.out fun h => h2 h.2.2.1
          have t1 : ¬ addr < 0 := by omega
          have t2 : ¬ 65535 < addr := by omega
          have t3 : (err != 0) = true := by simpa using h2
          clear h2 HNO HYES
          go_enter Tryd.func46, Tryd.ntmps46
          go_wp2_with fail
          rw [← hW0]
          clear hW0 p0 p1 p2 p3 p4 x0 x1
          refine (HCK.out _).mono ?_
          rintro e w1 ⟨rfl, hb1⟩
          obtain ⟨x0, x1⟩ := HXB.out _ hb1
          have hzz := HZV.out.onB (show w.heap.size + 1 + 1 < W0.heap.size by omega) hb1
          have f0 := HFZ.out _ hb1 0
          have f1 := HFZ.out _ hb1 1
          have f2 := HFZ.out _ hb1 2
          have f3 := HFZ.out _ hb1 3
          have f4 := HFZ.out _ hb1 4
          have f5 := HFZ.out _ hb1 5
          have f6 := HFZ.out _ hb1 6
          have hzu := put7_sev hzz (.int .i64 0) (.int .i64 0) (.int .i64 0) (.int .i64 0) (.int .i64 0) (.string ⟨#[]⟩) (.slice none 0 0)
          unfold put7 at hzu
          have HZU := hide hzu
          obtain ⟨y0, y1, y2, y3, y4, y5, y6⟩ := hzz
          clear hzu
          go_wp2_with fail
          obtain ⟨u0, u1, u2, u3, u4, u5, u6⟩ := HZU.out
          exact bodyPost_ret (v := .tuple #[.agg #[.int .i64 0, .int .i64 0, .int .i64 0, .int .i64 0, .int .i64 0, .string ⟨#[]⟩, .slice none 0 0], .bool false]) (by simp [results, Tryd.results46, go_sem, u0, u1, u2, u3, u4, u5, u6]) rfl ⟨put7_below (th hb0 hb1) (by omega) _ _ _ _ _ _ _, noAnc, none, 0, 0, false, rfl, Sl.nil_ _, says_no⟩
      · obtain rfl := HNO.out fun h => h1 h.2.1.2
        have t1 : ¬ addr < 0 := by omega
        have t2 : 65535 < addr := by omega
        clear HNO HYES
        go_enter Tryd.func46, Tryd.ntmps46
        go_wp2_with fail
        rw [← hW0]
        clear hW0 p0 p1 p2 p3 p4 x0 x1
        refine (HCK.out _).mono ?_
        rintro e w1 ⟨rfl, hb1⟩
        have hzz := HZV.out.onB (show w.heap.size + 1 + 1 < W0.heap.size by omega) hb1
        have f0 := HFZ.out _ hb1 0
        have f1 := HFZ.out _ hb1 1
        have f2 := HFZ.out _ hb1 2
        have f3 := HFZ.out _ hb1 3
        have f4 := HFZ.out _ hb1 4
        have f5 := HFZ.out _ hb1 5
        have f6 := HFZ.out _ hb1 6
        have hzu := put7_sev hzz (.int .i64 0) (.int .i64 0) (.int .i64 0) (.int .i64 0) (.int .i64 0) (.string ⟨#[]⟩) (.slice none 0 0)
        unfold put7 at hzu
        have HZU := hide hzu
        obtain ⟨y0, y1, y2, y3, y4, y5, y6⟩ := hzz
        clear hzu
        go_wp2_with fail
        obtain ⟨u0, u1, u2, u3, u4, u5, u6⟩ := HZU.out
        exact bodyPost_ret (v := .tuple #[.agg #[.int .i64 0, .int .i64 0, .int .i64 0, .int .i64 0, .int .i64 0, .string ⟨#[]⟩, .slice none 0 0], .bool false]) (by simp [results, Tryd.results46, go_sem, u0, u1, u2, u3, u4, u5, u6]) rfl ⟨put7_below (th hb0 hb1) (by omega) _ _ _ _ _ _ _, noAnc, none, 0, 0, false, rfl, Sl.nil_ _, says_no⟩
    · obtain rfl := HNO.out fun h => h0 h.2.1.1
      have t1 : addr < 0 := by omega
      clear HNO HYES
      go_enter Tryd.func46, Tryd.ntmps46
      go_wp2_with fail
      rw [← hW0]
      clear hW0 p0 p1 p2 p3 p4 x0 x1
      refine (HCK.out _).mono ?_
      rintro e w1 ⟨rfl, hb1⟩
      have hzz := HZV.out.onB (show w.heap.size + 1 + 1 < W0.heap.size by omega) hb1
      have f0 := HFZ.out _ hb1 0
      have f1 := HFZ.out _ hb1 1
      have f2 := HFZ.out _ hb1 2
      have f3 := HFZ.out _ hb1 3
      have f4 := HFZ.out _ hb1 4
      have f5 := HFZ.out _ hb1 5
      have f6 := HFZ.out _ hb1 6
      have hzu := put7_sev hzz (.int .i64 0) (.int .i64 0) (.int .i64 0) (.int .i64 0) (.int .i64 0) (.string ⟨#[]⟩) (.slice none 0 0)
      unfold put7 at hzu
      have HZU := hide hzu
      obtain ⟨y0, y1, y2, y3, y4, y5, y6⟩ := hzz
      clear hzu
      go_wp2_with fail
      obtain ⟨u0, u1, u2, u3, u4, u5, u6⟩ := HZU.out
      exact bodyPost_ret (v := .tuple #[.agg #[.int .i64 0, .int .i64 0, .int .i64 0, .int .i64 0, .int .i64 0, .string ⟨#[]⟩, .slice none 0 0], .bool false]) (by simp [results, Tryd.results46, go_sem, u0, u1, u2, u3, u4, u5, u6]) rfl ⟨put7_below (th hb0 hb1) (by omega) _ _ _ _ _ _ _, noAnc, none, 0, 0, false, rfl, Sl.nil_ _, says_no⟩
  · obtain rfl := HNO.out fun h => hG h.1
    rw [show geoErr g = 1 from if_neg hG] at HCK
    clear HNO HYES
    go_enter Tryd.func46, Tryd.ntmps46
    go_wp2_with fail
    rw [← hW0]
    clear hW0 p0 p1 p2 p3 p4 x0 x1
    refine (HCK.out _).mono ?_
    rintro e w1 ⟨rfl, hb1⟩
    have hzz := HZV.out.onB (show w.heap.size + 1 + 1 < W0.heap.size by omega) hb1
    have f0 := HFZ.out _ hb1 0
    have f1 := HFZ.out _ hb1 1
    have f2 := HFZ.out _ hb1 2
    have f3 := HFZ.out _ hb1 3
    have f4 := HFZ.out _ hb1 4
    have f5 := HFZ.out _ hb1 5
    have f6 := HFZ.out _ hb1 6
    have hzu := put7_sev hzz (.int .i64 0) (.int .i64 0) (.int .i64 0) (.int .i64 0) (.int .i64 0) (.string ⟨#[]⟩) (.slice none 0 0)
    unfold put7 at hzu
    have HZU := hide hzu
    obtain ⟨y0, y1, y2, y3, y4, y5, y6⟩ := hzz
    clear hzu
    go_wp2_with fail
    obtain ⟨u0, u1, u2, u3, u4, u5, u6⟩ := HZU.out
    exact bodyPost_ret (v := .tuple #[.agg #[.int .i64 0, .int .i64 0, .int .i64 0, .int .i64 0, .int .i64 0, .string ⟨#[]⟩, .slice none 0 0], .bool false]) (by simp [results, Tryd.results46, go_sem, u0, u1, u2, u3, u4, u5, u6]) rfl ⟨put7_below (th hb0 hb1) (by omega) _ _ _ _ _ _ _, noAnc, none, 0, 0, false, rfl, Sl.nil_ _, says_no⟩

end Go.Proofs.YtamgpbkakmffiaaDoor
