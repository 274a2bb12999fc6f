/-
  The walk of the law TableBent.
-/
import Derived.Test.YtamgpbkakmffiaaLawT3
import Derived.Test.YtamgpbkakmffiaaZRef2
import Derived.Test.YtamgpbkakmffiaaSpot
namespace Go.Proofs.Ytamgpbkakmffiaa
open Go.RowKit
set_option linter.unusedVariables false
set_option maxRecDepth 100000

/-- Entries stay while a cell that holds a slice is stored into. -/
theorem ent_putT {w : World} {A A' : Option Addr} {n c N k n' c' : Nat} {L : List Ent} {v : Value} (h : Sl entR 3 w (Old w) A n c L) (hc : w.cell? ⟨N, k, none⟩ = some (.slice A' n' c')) : Sl entR 3 (w.setCell ⟨N, k, none⟩ v) (Old (w.setCell ⟨N, k, none⟩ v)) A n c L := by
  refine ⟨h.len, h.cap, fun hn => ?_⟩
  obtain ⟨ad, e, hb, hx⟩ := h.at0 hn
  refine ⟨ad, e, by show ad.block < (w.setCell _ _).heap.size; rw [set_size]; exact hb, fun i x hi => ?_⟩
  obtain ⟨cs, ⟨rfl, h1, h2⟩, hat⟩ := hx i x hi
  refine ⟨_, ⟨rfl, h1, h2⟩, fun j y hy => put_apart (hat j y hy) hc ?_⟩
  rintro rfl
  have hm := List.mem_of_getElem? hy
  simp at hm
/-- A field of an entry that is owned, stored into. -/
theorem spot_ent {w : World} {base lo : Nat} {e : TypeId} {A : Option Addr} {n c : Nat} {L : List Ent} (h : Ow entR 3 w base lo e (.slice A n c) n L) {k : Nat} (hk : k < n) :
    ∃ g x, A = some ⟨g, 0, none⟩ ∧ base ≤ g ∧ g < w.heap.size ∧ L[k]? = some x ∧
      (w.cell? ⟨g, k * 3, none⟩ = some (.int .i64 x.stamp) ∧ w.cell? ⟨g, k * 3 + 1, none⟩ = some (.int .i64 x.sum) ∧ w.cell? ⟨g, k * 3 + 2, none⟩ = some (.bool x.lost)) ∧ (∀ j, w.frozen? ⟨g, j, none⟩ = false) ∧
      (∀ z, InI z → Ow entR 3 (w.setCell ⟨g, k * 3, none⟩ (.int .i64 z)) base lo e (.slice A n c) n (L.set k ⟨z, x.sum, x.lost⟩)) ∧
      (∀ z, InI z → Ow entR 3 (w.setCell ⟨g, k * 3 + 1, none⟩ (.int .i64 z)) base lo e (.slice A n c) n (L.set k ⟨x.stamp, z, x.lost⟩)) ∧
      (∀ b, Ow entR 3 (w.setCell ⟨g, k * 3 + 2, none⟩ (.bool b)) base lo e (.slice A n c) n (L.set k ⟨x.stamp, x.sum, b⟩)) := by
  obtain ⟨g, x, cs, u, rfl, hg, hgl, hx, hr, hu, hcell, hfr, hst⟩ := h.spotN entR_fine hk (show 0 < 3 by omega)
  obtain ⟨g1, x1, cs1, u1, e1, _, _, hx1, hr1, hu1, hcell1, _, hst1⟩ := h.spotN entR_fine hk (show 1 < 3 by omega)
  obtain ⟨g2, x2, cs2, u2, e2, _, _, hx2, hr2, hu2, hcell2, _, hst2⟩ := h.spotN entR_fine hk (show 2 < 3 by omega)
  injection e1 with e1
  injection e1 with e1
  injection e2 with e2
  injection e2 with e2
  subst e1; subst e2
  rw [hx] at hx1 hx2
  injection hx1 with hx1
  injection hx2 with hx2
  subst hx1; subst hx2
  obtain ⟨rfl, i1, i2⟩ := hr
  obtain ⟨rfl, _, _⟩ := hr1
  obtain ⟨rfl, _, _⟩ := hr2
  simp at hu hu1 hu2
  subst hu; subst hu1; subst hu2
  refine ⟨g, x, rfl, hg, hgl, hx, ⟨hcell, hcell1, hcell2⟩, fun j => ?_, fun z hz => hst _ _ rfl ⟨rfl, hz, i2⟩, fun z hz => hst1 _ _ rfl ⟨rfl, i1, hz⟩, fun b => hst2 _ _ rfl ⟨rfl, i1, i2⟩⟩
  obtain ⟨_, xs, hxs, _⟩ := h
  exact hxs.frozenAt j

set_option maxHeartbeats 4000000 in
theorem tableBent_core {w : World} {A : Option Addr} {n c : Nat} {L : List Ent} (g : Geo) (hl : Sl entR 3 w (Old w) A n c L) (how : Int) :
    Calls Try.prog 4 #[g.v, .agg #[.slice A n c], .int .i64 how] w fun e w' => e = .returned (.bool true) ∧ Below w.heap.size w w' := by
  have hgc := fun w => rgeo_any g w
  have hrt := fun (hG : GeoOk g) w ha hn => rtab_any A n c L g hG w ha hn
  obtain ⟨z, q, s, l, a⟩ := g
  obtain ⟨W0, hW0⟩ : ∃ W0, W0 = (w.alloc (.cells #[.int .i64 z, .int .i64 q, .int .i64 s, .int .i64 l, .int .i64 a] 23)).alloc (.cells #[.slice A n c] 26) := ⟨_, rfl⟩
  have hb0 : Below w.heap.size w W0 := by rw [hW0]; exact (alloc_below w _).alloc (by simp) _
  have bx : ∀ W, Below W0.heap.size W0 W →
      (W.cell? ⟨w.heap.size, 0, none⟩ = some (.int .i64 z) ∧ W.cell? ⟨w.heap.size, 1, none⟩ = some (.int .i64 q) ∧ W.cell? ⟨w.heap.size, 2, none⟩ = some (.int .i64 s) ∧ W.cell? ⟨w.heap.size, 3, none⟩ = some (.int .i64 l) ∧ W.cell? ⟨w.heap.size, 4, none⟩ = some (.int .i64 a)) ∧ W.cell? ⟨w.heap.size + 1, 0, none⟩ = some (.slice A n c) ∧ Below w.heap.size w W := fun W hW => by
    subst hW0
    have h := th (alloc_below _ _) hW
    exact ⟨⟨box_cell h 0 _ rfl, box_cell h 1 _ rfl, box_cell h 2 _ rfl, box_cell h 3 _ rfl, box_cell h 4 _ rfl⟩, bx_at2 (by simp) hW 0 _ rfl, th (alloc_below _ _) h⟩
  have BX := hide bx
  have HW0 := hide hW0
  have hl0 := hl.on entR_fine hb0
  have HLEN := hide hl.len
  unfold Geo.v at hgc hrt ⊢
  dsimp only at hgc hrt ⊢
  clear bx hW0
  by_cases h20 : n ≤ 20
  · by_cases hG : GeoOk ⟨z, q, s, l, a⟩
    · have hgt := hgc W0
      rw [decide_eq_true hG] at hgt
      have HGT := hide hgt
      have HRT := hide (hrt hG)
      clear hgc hrt hgt
      by_cases hT : TabOk q L
      · have HHT := hide (And.intro hG hT)
        have hqd : ∃ d : Nat, q = (d : Int) ∧ n = d + 1 ∧ 1 ≤ d ∧ d ≤ 4 := by
          have h1 := hG.2.1
          have h2 := hT.1
          have h4 := HLEN.out
          dsimp only at h1
          exact ⟨q.toNat, by omega, by omega, by omega, by omega⟩
        obtain ⟨d, rfl, rfl, hd1, hd4⟩ := hqd
        obtain ⟨k, hke, hk5⟩ := um_is how 5 (by omega) (by omega)
        have hke5 := (um_raw hke (by omega) (by omega)).1
        have hke5' : (IntKind.u64.wrap how).tmod 5 = (k : Int) := hke5
        clear hT hG hke hke5
        have hk : k = 0 ∨ k = 1 ∨ k = 2 ∨ k = 3 ∨ k = 4 := by omega
        obtain ⟨e0, he0, ee0, ee1, ee2⟩ := info_parts ent_infoR
        have hstart : ∀ W1, Below W0.heap.size W0 W1 → Calls Try.prog 14 #[.agg #[.int .i64 z, .int .i64 d, .int .i64 s, .int .i64 l, .int .i64 a], .agg #[.slice A (d + 1) c]] W1 fun e w' => e = .returned (.bool true) ∧ Below W1.heap.size W1 w' := fun W1 h1 => by
          have hrt := HRT.out W1 (hl0.on entR_fine h1) (by omega)
          rwa [decide_eq_true HHT.out.2] at hrt
        have HST := hide hstart
        clear hstart hk5
        go_enter Try.func4, Try.ntmps4
        go_wp2_with fail
        rw [← HW0.out]
        refine HGT.out.mono ?_
        rintro e w1 ⟨rfl, hb1⟩
        obtain ⟨⟨p0, p1, p2, p3, p4⟩, pt, _⟩ := BX.out _ hb1
        go_wp2_with fail
        refine (HST.out _ hb1).mono ?_
        rintro e w2 ⟨rfl, hb2⟩
        obtain ⟨⟨q0, q1, q2, q3, q4⟩, qt, _⟩ := BX.out _ (th hb1 hb2)
        have htt := hide (twintable_any A (d + 1) c L w2 (hl0.on entR_fine (th hb1 hb2)) (by omega))
        go_wp2_with fail
        refine htt.out.mono ?_
        rintro e w3 ⟨A3, c3, rfl, ho3, hb3⟩
        have hb13 := th hb1 (th hb2 hb3)
        have hE4 := alloc_below w3 (.cells #[.slice A3 (d + 1) c3] 26)
        obtain ⟨⟨r0, r1, r2, r3, r4⟩, rt, _⟩ := BX.out _ (th hb13 hE4)
        have hcap3 := (ho3.read entR_fine).cap
        have h23 := hb3.size
        rcases hk with rfl | rfl | rfl | rfl | rfl
        · obtain ⟨gu, x, rfl, hgu, hgul, hx, ⟨uc0, uc1, uc2⟩, uf, us0, us1, us2⟩ := spot_ent ho3 (show d < d + 1 by omega)
          have ho5 := us2 true
          have ufd := uf (d * 3 + 2)
          obtain ⟨W5, hW5⟩ : ∃ W5, W5 = (w3.setCell ⟨gu, d * 3 + 2, none⟩ (.bool true)).alloc (.cells #[.slice (some ⟨gu, 0, none⟩) (d + 1) c3] 26) := ⟨_, rfl⟩
          have hS5 : (w3.setCell ⟨gu, d * 3 + 2, none⟩ (.bool true)).heap.size = w3.heap.size := set_size _ _ _
          have hb25 : Below W0.heap.size W0 W5 := by rw [hW5]; exact (hb13.setCell (Nat.le_trans (th hb1 hb2).size hgu) _).alloc (by rw [hS5]; exact hb13.size) _
          have hu5 : Sl entR 3 W5 (Old W5) (some ⟨gu, 0, none⟩) (d + 1) c3 (L.set d ⟨x.stamp, x.sum, true⟩) := by rw [hW5]; exact (ho5.read entR_fine).on entR_fine (alloc_below _ _)
          have kx : ∀ W, Below W5.heap.size W5 W → W.cell? ⟨w3.heap.size, 0, none⟩ = some (.slice (some ⟨gu, 0, none⟩) (d + 1) c3) := fun W hW => by
            subst hW5
            exact bx_at2 hS5 hW 0 _ rfl
          have hno : ¬ TabOk (d : Int) (L.set d ⟨x.stamp, x.sum, true⟩) := fun h => by
            have h1 := h.2.2 ⟨x.stamp, x.sum, true⟩ (by rw [Int.toNat_natCast]; exact List.getElem?_set_self (by have := HLEN.out; omega))
            cases h1
          have f5 := BX.out _ hb25
          rw [hW5] at f5
          obtain ⟨⟨f50, f51, f52, f53, f54⟩, f5t, _⟩ := f5
          have HW5 := hide hW5
          clear us0 us1 us2 hx hW5 hS5 uf
          have HNO := hide hno
          have HKX := hide kx
          have HB := hide (tbytes_no (z := z) (s := s) (l := l) (a := a) (fun h => HNO.out h.2) W5 hu5 (by omega))
          clear hno kx
          go_wp2_with fail
          rw [← HW5.out]
          refine HB.out.mono ?_
          rintro e w6 ⟨hb6, V6, c6, rfl⟩
          obtain ⟨⟨a0, a1, a2, a3, a4⟩, at_, _⟩ := BX.out _ (th hb25 hb6)
          have kx6 := HKX.out _ hb6
          have HC := hide (check_yes HHT.out w6 (hl0.on entR_fine (th hb25 hb6)) (by omega))
          go_wp2_with fail
          refine HC.out.mono ?_
          rintro e w7 ⟨rfl, hb7⟩
          obtain ⟨⟨b0, b1, b2, b3, b4⟩, bt, _⟩ := BX.out _ (th hb25 (th hb6 hb7))
          have kx7 := HKX.out _ (th hb6 hb7)
          have HD := hide (check_no (z := z) (s := s) (l := l) (a := a) (fun h => HNO.out h.2) w7 (hu5.on entR_fine (th hb6 hb7)) (by omega))
          go_wp2_with fail
          refine HD.out.mono ?_
          rintro e w8 ⟨rfl, hb8⟩
          go_wp2_with fail
          refine (wakes10 _).mono ?_
          rintro e w9 ⟨rfl, hb9⟩
          go_wp2_with fail
          go_ret
          exact ⟨rfl, th hb0 (th hb25 (th hb6 (th hb7 (th hb8 hb9))))⟩
        · have ho4 := (ho3.less entR_fine (Nat.le_refl _) (Nat.zero_le _)).below entR_fine (th hE4 (alloc_below _ (.cells #[.int .i64 0, .int .i64 0, .bool false] 43)))
          have hlit := lit_entryO (w := w3.alloc (.cells #[.slice A3 (d + 1) c3] 26)) (N := w3.heap.size + 1) (e := 43) (l := false) (by simp) (show InI (0 : Int) from ⟨by omega, by omega⟩) (show InI (0 : Int) from ⟨by omega, by omega⟩)
          have hs4 : w2.heap.size ≤ ((w3.alloc (.cells #[.slice A3 (d + 1) c3] 26)).alloc (.cells #[.int .i64 0, .int .i64 0, .bool false] 43)).heap.size := by simp; omega
          have hx4 := (Hl.new w3 (.slice A3 (d + 1) c3) 26).al (.cells #[.int .i64 0, .int .i64 0, .bool false] 43)
          have HX4 := hide hx4
          clear hx4
          go_wp2_with (at_builtin; refine wpList_append_ow _ rfl (.tmp 45) (.tmp 47) _ rfl entR_fine w2.heap.size 0 43 e0 _ 24 Try.underlying24 he0 ee0 ee1 ee2 rfl (by omega) (.slice A3 (d + 1) c3) (d + 1) _ rfl ho4 _ _ 1 1 _ rfl hlit (fun _ _ _ h => h) (by simp only [maxLen]; omega) (by omega) hs4 ?_; intro V8 w8 ho8 hg8 hat8; obtain ⟨A8, c8, rfl⟩ := ho8.form; have kx8 : Hl w8 w3.heap.size (.slice A3 (d + 1) c3) := Hl.grown HX4.out hg8 (fun e => by have := (ho3.lt _ e).2; omega); have kx81 := kx8.1; have kx82 := kx8.2; have hb8 : Below W0.heap.size W0 w8 := (th hb13 (th hE4 (alloc_below _ (.cells #[.int .i64 0, .int .i64 0, .bool false] 43)))).trans (below_grown hg8 (fun k e => ⟨Nat.le_trans (th hb1 hb2).size (ho4.lt k e).1, (ho4.lt k e).2⟩) (Nat.le_trans (th hb1 hb2).size hs4)); have hb25 : Below W0.heap.size W0 (w8.setCell ⟨w3.heap.size, 0, none⟩ (.slice A8 (d + 1 + 1) c8)) := hb8.setCell hb13.size _; obtain ⟨⟨f50, f51, f52, f53, f54⟩, f5t, _⟩ := BX.out _ hb25)
          obtain ⟨W5, hW5⟩ : ∃ W5, W5 = w8.setCell ⟨w3.heap.size, 0, none⟩ (.slice A8 (d + 1 + 1) c8) := ⟨_, rfl⟩
          rw [← hW5] at hb25
          have hu5 : Sl entR 3 W5 (Old W5) A8 (d + 1 + 1) c8 (L ++ [⟨0, 0, false⟩]) := by rw [hW5]; exact ent_putT (ho8.read entR_fine) kx81
          have kx : ∀ W, Below W5.heap.size W5 W → W.cell? ⟨w3.heap.size, 0, none⟩ = some (.slice A8 (d + 1 + 1) c8) := fun W hW => by
            refine (hW.cell ?_).trans (by rw [hW5]; exact put_same kx81)
            rw [hW5, set_size]
            exact World.block_lt_of_cell? w8 _ kx81
          have hno : ¬ TabOk (d : Int) (L ++ [⟨0, 0, false⟩]) := fun h => by
            have h1 := h.1
            rw [List.length_append, HLEN.out] at h1
            simp at h1
            omega
          have HW5 := hide hW5
          clear hW5
          have HNO := hide hno
          have HKX := hide kx
          have HB := hide (tbytes_no (z := z) (s := s) (l := l) (a := a) (fun h => HNO.out h.2) W5 hu5 (by omega))
          clear hno kx
          rw [← HW5.out]
          refine HB.out.mono ?_
          rintro e w6 ⟨hb6, V6, c6, rfl⟩
          obtain ⟨⟨a0, a1, a2, a3, a4⟩, at_, _⟩ := BX.out _ (th hb25 hb6)
          have kx6 := HKX.out _ hb6
          have HC := hide (check_yes HHT.out w6 (hl0.on entR_fine (th hb25 hb6)) (by omega))
          go_wp2_with fail
          refine HC.out.mono ?_
          rintro e w7 ⟨rfl, hb7⟩
          obtain ⟨⟨b0, b1, b2, b3, b4⟩, bt, _⟩ := BX.out _ (th hb25 (th hb6 hb7))
          have kx7 := HKX.out _ (th hb6 hb7)
          have HD := hide (check_no (z := z) (s := s) (l := l) (a := a) (fun h => HNO.out h.2) w7 (hu5.on entR_fine (th hb6 hb7)) (by omega))
          go_wp2_with fail
          refine HD.out.mono ?_
          rintro e w8 ⟨rfl, hb8⟩
          go_wp2_with fail
          refine (wakes10 _).mono ?_
          rintro e w9 ⟨rfl, hb9⟩
          go_wp2_with fail
          go_ret
          exact ⟨rfl, th hb0 (th hb25 (th hb6 (th hb7 (th hb8 hb9))))⟩
        · obtain ⟨gu, x, rfl, hgu, hgul, hx, ⟨uc0, uc1, uc2⟩, uf, us0, us1, us2⟩ := spot_ent ho3 (show 0 < d + 1 by omega)
          have ho5 := us0 (-1) ⟨by omega, by omega⟩
          have ufd := uf 0
          rw [Nat.zero_mul] at uc0 ho5
          obtain ⟨W5, hW5⟩ : ∃ W5, W5 = (w3.setCell ⟨gu, 0, none⟩ (.int .i64 (-1))).alloc (.cells #[.slice (some ⟨gu, 0, none⟩) (d + 1) c3] 26) := ⟨_, rfl⟩
          have hS5 : (w3.setCell ⟨gu, 0, none⟩ (.int .i64 (-1))).heap.size = w3.heap.size := set_size _ _ _
          have hb25 : Below W0.heap.size W0 W5 := by rw [hW5]; exact (hb13.setCell (Nat.le_trans (th hb1 hb2).size hgu) _).alloc (by rw [hS5]; exact hb13.size) _
          have hu5 : Sl entR 3 W5 (Old W5) (some ⟨gu, 0, none⟩) (d + 1) c3 (L.set 0 ⟨-1, x.sum, x.lost⟩) := by rw [hW5]; exact (ho5.read entR_fine).on entR_fine (alloc_below _ _)
          have kx : ∀ W, Below W5.heap.size W5 W → W.cell? ⟨w3.heap.size, 0, none⟩ = some (.slice (some ⟨gu, 0, none⟩) (d + 1) c3) := fun W hW => by
            subst hW5
            exact bx_at2 hS5 hW 0 _ rfl
          have hno : ¬ TabOk (d : Int) (L.set 0 ⟨-1, x.sum, x.lost⟩) := fun h => by
            have h1 := h.2.1 ⟨-1, x.sum, x.lost⟩ (List.mem_of_getElem? (List.getElem?_set_self (show 0 < L.length by have := HLEN.out; omega)))
            have h2 : (0 : Int) ≤ -1 := h1.1.1
            omega
          have f5 := BX.out _ hb25
          rw [hW5] at f5
          obtain ⟨⟨f50, f51, f52, f53, f54⟩, f5t, _⟩ := f5
          have HW5 := hide hW5
          clear us0 us1 us2 hx hW5 hS5 uf
          have HNO := hide hno
          have HKX := hide kx
          have HB := hide (tbytes_no (z := z) (s := s) (l := l) (a := a) (fun h => HNO.out h.2) W5 hu5 (by omega))
          clear hno kx
          go_wp2_with fail
          rw [← HW5.out]
          refine HB.out.mono ?_
          rintro e w6 ⟨hb6, V6, c6, rfl⟩
          obtain ⟨⟨a0, a1, a2, a3, a4⟩, at_, _⟩ := BX.out _ (th hb25 hb6)
          have kx6 := HKX.out _ hb6
          have HC := hide (check_yes HHT.out w6 (hl0.on entR_fine (th hb25 hb6)) (by omega))
          go_wp2_with fail
          refine HC.out.mono ?_
          rintro e w7 ⟨rfl, hb7⟩
          obtain ⟨⟨b0, b1, b2, b3, b4⟩, bt, _⟩ := BX.out _ (th hb25 (th hb6 hb7))
          have kx7 := HKX.out _ (th hb6 hb7)
          have HD := hide (check_no (z := z) (s := s) (l := l) (a := a) (fun h => HNO.out h.2) w7 (hu5.on entR_fine (th hb6 hb7)) (by omega))
          go_wp2_with fail
          refine HD.out.mono ?_
          rintro e w8 ⟨rfl, hb8⟩
          go_wp2_with fail
          refine (wakes10 _).mono ?_
          rintro e w9 ⟨rfl, hb9⟩
          go_wp2_with fail
          go_ret
          exact ⟨rfl, th hb0 (th hb25 (th hb6 (th hb7 (th hb8 hb9))))⟩
        · obtain ⟨gu, x, rfl, hgu, hgul, hx, ⟨uc0, uc1, uc2⟩, uf, us0, us1, us2⟩ := spot_ent ho3 (show 0 < d + 1 by omega)
          have ho5 := us1 4294967296 ⟨by omega, by omega⟩
          have ufd := uf 1
          rw [Nat.zero_mul, Nat.zero_add] at uc1 ho5
          obtain ⟨W5, hW5⟩ : ∃ W5, W5 = (w3.setCell ⟨gu, 1, none⟩ (.int .i64 4294967296)).alloc (.cells #[.slice (some ⟨gu, 0, none⟩) (d + 1) c3] 26) := ⟨_, rfl⟩
          have hS5 : (w3.setCell ⟨gu, 1, none⟩ (.int .i64 4294967296)).heap.size = w3.heap.size := set_size _ _ _
          have hb25 : Below W0.heap.size W0 W5 := by rw [hW5]; exact (hb13.setCell (Nat.le_trans (th hb1 hb2).size hgu) _).alloc (by rw [hS5]; exact hb13.size) _
          have hu5 : Sl entR 3 W5 (Old W5) (some ⟨gu, 0, none⟩) (d + 1) c3 (L.set 0 ⟨x.stamp, 4294967296, x.lost⟩) := by rw [hW5]; exact (ho5.read entR_fine).on entR_fine (alloc_below _ _)
          have kx : ∀ W, Below W5.heap.size W5 W → W.cell? ⟨w3.heap.size, 0, none⟩ = some (.slice (some ⟨gu, 0, none⟩) (d + 1) c3) := fun W hW => by
            subst hW5
            exact bx_at2 hS5 hW 0 _ rfl
          have hno : ¬ TabOk (d : Int) (L.set 0 ⟨x.stamp, 4294967296, x.lost⟩) := fun h => by
            have h1 := h.2.1 ⟨x.stamp, 4294967296, x.lost⟩ (List.mem_of_getElem? (List.getElem?_set_self (show 0 < L.length by have := HLEN.out; omega)))
            have h2 : (4294967296 : Int) ≤ 4294967295 := h1.2.2
            omega
          have f5 := BX.out _ hb25
          rw [hW5] at f5
          obtain ⟨⟨f50, f51, f52, f53, f54⟩, f5t, _⟩ := f5
          have HW5 := hide hW5
          clear us0 us1 us2 hx hW5 hS5 uf
          have HNO := hide hno
          have HKX := hide kx
          have HB := hide (tbytes_no (z := z) (s := s) (l := l) (a := a) (fun h => HNO.out h.2) W5 hu5 (by omega))
          clear hno kx
          go_wp2_with fail
          rw [← HW5.out]
          refine HB.out.mono ?_
          rintro e w6 ⟨hb6, V6, c6, rfl⟩
          obtain ⟨⟨a0, a1, a2, a3, a4⟩, at_, _⟩ := BX.out _ (th hb25 hb6)
          have kx6 := HKX.out _ hb6
          have HC := hide (check_yes HHT.out w6 (hl0.on entR_fine (th hb25 hb6)) (by omega))
          go_wp2_with fail
          refine HC.out.mono ?_
          rintro e w7 ⟨rfl, hb7⟩
          obtain ⟨⟨b0, b1, b2, b3, b4⟩, bt, _⟩ := BX.out _ (th hb25 (th hb6 hb7))
          have kx7 := HKX.out _ (th hb6 hb7)
          have HD := hide (check_no (z := z) (s := s) (l := l) (a := a) (fun h => HNO.out h.2) w7 (hu5.on entR_fine (th hb6 hb7)) (by omega))
          go_wp2_with fail
          refine HD.out.mono ?_
          rintro e w8 ⟨rfl, hb8⟩
          go_wp2_with fail
          refine (wakes10 _).mono ?_
          rintro e w9 ⟨rfl, hb9⟩
          go_wp2_with fail
          go_ret
          exact ⟨rfl, th hb0 (th hb25 (th hb6 (th hb7 (th hb8 hb9))))⟩
        · obtain ⟨gu, x, rfl, hgu, hgul, hx, ⟨uc0, uc1, uc2⟩, uf, us0, us1, us2⟩ := spot_ent ho3 (show 0 < d + 1 by omega)
          have f5 : ∀ o, _ := fun o => BX.out _ (th hb13 (alloc_below w3 o))
          have f50 := fun o => (f5 o).1.1
          have f51 := fun o => (f5 o).1.2.1
          have f52 := fun o => (f5 o).1.2.2.1
          have f53 := fun o => (f5 o).1.2.2.2.1
          have f54 := fun o => (f5 o).1.2.2.2.2
          have f5t := fun o => (f5 o).2.1
          clear f5
          have hc1 : ¬ c3 = 1 := by omega
          have hc2 : (1 : Int) ≤ (c3 : Int) := by omega
          clear us0 us1 us2 hx uf
          go_wp2_with fail
          obtain ⟨W5, hW5⟩ : ∃ W5, W5 = w3.alloc (.cells #[.slice (some ⟨gu, 3, none⟩) d (c3 - 1)] 26) := ⟨_, rfl⟩
          have hb25 : Below W0.heap.size W0 W5 := by rw [hW5]; exact th hb13 (alloc_below _ _)
          have hu5 : Sl entR 3 W5 (Old W5) (some ⟨gu, 3, none⟩) d (c3 - 1) (L.drop 1) := by
            rw [hW5]
            have h := ((ho3.read entR_fine).on entR_fine (alloc_below w3 (.cells #[.slice (some ⟨gu, 3, none⟩) d (c3 - 1)] 26))).rest (i := 1) (by omega)
            rw [if_neg hc1] at h
            exact h
          have kx : ∀ W, Below W5.heap.size W5 W → W.cell? ⟨w3.heap.size, 0, none⟩ = some (.slice (some ⟨gu, 3, none⟩) d (c3 - 1)) := fun W hW => by
            subst hW5
            exact box_cell hW 0 _ rfl
          have hno : ¬ TabOk (d : Int) (L.drop 1) := fun h => by
            have h1 := h.1
            rw [List.length_drop, HLEN.out] at h1
            omega
          have HW5 := hide hW5
          clear hW5
          have HNO := hide hno
          have HKX := hide kx
          have HB := hide (tbytes_no (z := z) (s := s) (l := l) (a := a) (fun h => HNO.out h.2) W5 hu5 (by omega))
          clear hno kx
          rw [← HW5.out]
          refine HB.out.mono ?_
          rintro e w6 ⟨hb6, V6, c6, rfl⟩
          obtain ⟨⟨a0, a1, a2, a3, a4⟩, at_, _⟩ := BX.out _ (th hb25 hb6)
          have kx6 := HKX.out _ hb6
          have HC := hide (check_yes HHT.out w6 (hl0.on entR_fine (th hb25 hb6)) (by omega))
          go_wp2_with fail
          refine HC.out.mono ?_
          rintro e w7 ⟨rfl, hb7⟩
          obtain ⟨⟨b0, b1, b2, b3, b4⟩, bt, _⟩ := BX.out _ (th hb25 (th hb6 hb7))
          have kx7 := HKX.out _ (th hb6 hb7)
          have HD := hide (check_no (z := z) (s := s) (l := l) (a := a) (fun h => HNO.out h.2) w7 (hu5.on entR_fine (th hb6 hb7)) (by omega))
          go_wp2_with fail
          refine HD.out.mono ?_
          rintro e w8 ⟨rfl, hb8⟩
          go_wp2_with fail
          refine (wakes10 _).mono ?_
          rintro e w9 ⟨rfl, hb9⟩
          go_wp2_with fail
          go_ret
          exact ⟨rfl, th hb0 (th hb25 (th hb6 (th hb7 (th hb8 hb9))))⟩
      · go_enter Try.func4, Try.ntmps4
        go_wp2_with fail
        rw [← HW0.out]
        refine HGT.out.mono ?_
        rintro e w1 ⟨rfl, hb1⟩
        obtain ⟨⟨p0, p1, p2, p3, p4⟩, pt, _⟩ := BX.out _ hb1
        have hrt := HRT.out w1 (hl0.on entR_fine hb1) (by omega)
        rw [decide_eq_false hT] at hrt
        have HR := hide hrt
        clear hrt hT hG
        go_wp2_with fail
        refine HR.out.mono ?_
        rintro e w2 ⟨rfl, hb2⟩
        go_wp2_with fail
        go_ret
        exact ⟨rfl, th hb0 (th hb1 hb2)⟩
    · have hgt := hgc W0
      rw [decide_eq_false hG] at hgt
      have HGT := hide hgt
      clear hgc hrt hgt hG
      go_enter Try.func4, Try.ntmps4
      go_wp2_with fail
      rw [← HW0.out]
      refine HGT.out.mono ?_
      rintro e w1 ⟨rfl, hb1⟩
      go_wp2_with fail
      go_ret
      exact ⟨rfl, th hb0 hb1⟩
  · have e20 : decide (20 < (n : Int)) = true := by simp; omega
    clear h20 hgc hrt
    go_enter Try.func4, Try.ntmps4
    go_wp2_with fail
    go_ret
    exact ⟨rfl, by rw [← HW0.out]; exact hb0⟩

theorem law_tableBent {w : World} {V0 V1 : Value} {g : Geo} {L : List Ent} (hg : ArgR geoR w V0 g) (hl : ArgR tabR w V1 L) (how : Int) (hhow : InI how) :
    Calls Try.prog 4 #[V0, V1, .int .i64 how] w fun e w' => e = .returned (.bool true) ∧ Below w.heap.size w w' := by
  obtain ⟨rfl, _⟩ := geo_form hg
  obtain ⟨A, n, c, rfl, hl2⟩ := tab_form hl
  exact tableBent_core g hl2 how

end Go.Proofs.Ytamgpbkakmffiaa
