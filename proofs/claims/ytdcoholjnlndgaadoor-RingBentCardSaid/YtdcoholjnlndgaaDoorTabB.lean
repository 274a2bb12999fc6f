/-
  Contracts: table.Bytes, Lost; casemateref08.TableBytes.
-/
import Derived.Test.YtdcoholjnlndgaaDoorTabC
import Derived.Test.YtdcoholjnlndgaaDoorPackU
import Derived.Test.YtdcoholjnlndgaaDoorRefP
namespace Go.Proofs.YtdcoholjnlndgaaDoor
open Go.RowKit
set_option linter.unusedVariables false
set_option maxRecDepth 100000

/-- A literal of ints just made. -/
theorem lit_ints_at {w : World} {N n : Nat} {l : List Int} {cs : Array Value} {e : TypeId} (hN : w.heap.size = N) (hl : l.length = n) (hn : n ≤ 65536) (hi : ∀ x ∈ l, InI x) (h : cs = (l.map fun x => Value.int .i64 x).toArray) :
    Is (w.alloc (.cells cs e)) (some ⟨N, 0, none⟩) n n l := by
  subst hN
  subst hl
  subst h
  refine (Ow.made (R := intR) (s := 1) (lo := 0) (e := e) (n := l.length) (L := l) w _ (by simp only [maxLen]; omega) (by simp) rfl ?_ ?_ intR_fine).read intR_fine
  · intro u hu
    simp only [List.mem_map] at hu
    obtain ⟨_, _, rfl⟩ := hu
    rfl
  · intro i x hx
    obtain ⟨h1, e1⟩ := List.getElem?_eq_some_iff.1 hx
    refine ⟨?_, hi x (List.mem_of_getElem? hx)⟩
    rw [Nat.mul_one, List.drop_eq_getElem_cons (by simpa using h1)]
    simp [e1]

theorem entL_row {e : Ent} : rowL [e.stamp, e.sum, (lostN e.lost : Int)] [4, 4, 1] = entL e := by
  simp [rowL, entL, List.append_assoc]
theorem fit_row {e : Ent} (h : EntOk e) : FitAll [e.stamp, e.sum, (lostN e.lost : Int)] [4, 4, 1] := by
  obtain ⟨⟨a1, a2⟩, b1, b2⟩ := h
  intro i n z hn hz
  match i, hn, hz with
  | 0, hn, hz =>
    simp at hn hz
    subst hn; subst hz
    exact ⟨.inr (.inr rfl), a1, by show e.stamp < 256 ^ 4; omega⟩
  | 1, hn, hz =>
    simp at hn hz
    subst hn; subst hz
    exact ⟨.inr (.inr rfl), b1, by show e.sum < 256 ^ 4; omega⟩
  | 2, hn, hz =>
    simp at hn hz
    subst hn; subst hz
    have : lostN e.lost ≤ 1 := by cases e.lost <;> simp [lostN]
    exact ⟨.inl rfl, by omega, by show (lostN e.lost : Int) < 256 ^ 1; omega⟩
  | i + 3, hn, hz => simp at hn
theorem row3 {A B : Option Addr} {w : World} {e : Ent} (h : EntOk e) (ha : Is w A 3 3 [e.stamp, e.sum, (lostN e.lost : Int)]) (hb : Is w B 3 3 [4, 4, 1]) :
    Calls Tryd.prog 63 #[.slice A 3 3, .slice B 3 3] w fun z w' => ∃ V cv, z = .returned (.tuple #[.slice V 9 cv, .int .i64 0]) ∧ Bs w' V 9 cv (entL e) ∧ Below w.heap.size w w' := by
  refine (row_any ha hb (by omega)).mono ?_
  rintro z w' ⟨hb', ⟨_, V, cv, rfl, hs⟩ | ⟨hn, _⟩⟩
  · rw [entL_row] at hs
    exact ⟨V, cv, rfl, hs, hb'⟩
  · exact absurd (fit_row h) hn
theorem tabL_take {L : List Ent} {k : Nat} {e : Ent} (h : L[k]? = some e) : tabL (L.take (k + 1)) = tabL (L.take k) ++ entL e := by
  obtain ⟨h1, h2⟩ := List.getElem?_eq_some_iff.1 h
  rw [List.take_succ_eq_append_getElem h1, h2]
  simp [tabL]

def TBytes (g : Geo) (L : List Ent) (l : List UInt8) (err : Int) : Prop := (¬ (GeoOk g ∧ TabOk g.data L) ∧ err = 1 ∧ l = []) ∨ ((GeoOk g ∧ TabOk g.data L) ∧ err = 0 ∧ l = tabL L)
def TBytesPost (w : World) (g : Geo) (L : List Ent) (e : Ending) (w' : World) : Prop := Below w.heap.size w w' ∧ ∃ V n c l err, e = .returned (.tuple #[.slice V n c, .int .i64 err]) ∧ Bs w' V n c l ∧ TBytes g L l err

set_option maxHeartbeats 2000000 in
theorem tbytes_any (A : Option Addr) (n c : Nat) (L : List Ent) (g : Geo) (w : World) (ha : Sl entR 3 w (Old w) A n c L) (hn : n ≤ 6000) :
    Calls Tryd.prog 55 #[g.v, .agg #[.slice A n c]] w (TBytesPost w g L) := by
  obtain ⟨j0, hj0, hy0, hy1, hy2⟩ := info_parts u8_info
  have hb0 : Below w.heap.size w ((w.alloc (.cells #[.int .i64 g.zones, .int .i64 g.data, .int .i64 g.spares, .int .i64 g.slots, .int .i64 g.anchors] 23)).alloc (.cells #[.slice A n c] 65)) := (alloc_below w _).alloc (by simp) _
  have bx : ∀ W, Below ((w.alloc (.cells #[.int .i64 g.zones, .int .i64 g.data, .int .i64 g.spares, .int .i64 g.slots, .int .i64 g.anchors] 23)).alloc (.cells #[.slice A n c] 65)).heap.size ((w.alloc (.cells #[.int .i64 g.zones, .int .i64 g.data, .int .i64 g.spares, .int .i64 g.slots, .int .i64 g.anchors] 23)).alloc (.cells #[.slice A n c] 65)) W → W.cell? ⟨w.heap.size + 1, 0, none⟩ = some (.slice A n c) := fun W hW => by
    have h := box_cell hW 0 _ rfl
    simpa using h
  have BX := hide bx
  have ha0 := ha.on entR_fine hb0
  have hck := check_any A n c L g _ ha0 (by omega)
  unfold TBytesPost TBytes
  by_cases hok : GeoOk g ∧ TabOk g.data L
  · rw [if_pos hok] at hck
    unfold Geo.v at hck ⊢
    have HCK := hide hck
    have HOK := hide hok
    have hent : ∀ x ∈ L, EntOk x := hok.2.2.1
    have HENT := hide hent
    clear bx hck hok hent
    go_enter Tryd.func55, Tryd.ntmps55
    go_wp2_with fail
    refine HCK.out.mono ?_
    rintro e w1 ⟨rfl, hb1⟩
    have k1 := BX.out w1 hb1
    have ha1 := ha0.on entR_fine hb1
    go_wp2_with fail
    go_loopw [7, 22] (fun v i wr => ∃ k : Nat, k ≤ n ∧ i = .int .i64 k ∧ Ow byteR 1 wr w1.heap.size 0 5 v (9 * k) (tabL (L.take k)) ∧ Below w1.heap.size w1 wr) (fun _ i _ => n - (intOf i).toNat)
    case atStart => exact ⟨0, Nat.zero_le _, rfl, Ow.nil_ _ _ _ _, Below.refl _ _⟩
    case round =>
      obtain ⟨k, hk, rfl, ho, hb⟩ := hrel
      obtain ⟨V0, c0, rfl⟩ := ho.form
      by_cases hlt : k < n
      · have har := ha1.on entR_fine hb
        obtain ⟨ad, x, rfl, hadl, hx, i1, i2, d0, d1, d2⟩ := at_ent har hlt
        have hxo := HENT.out x (List.mem_of_getElem? hx)
        have HNX := hide (tabL_take hx)
        obtain ⟨lo, hlo⟩ : ∃ lo : Nat, lo = lostN x.lost := ⟨_, rfl⟩
        have hlo1 : lo ≤ 1 := by rw [hlo]; cases x.lost <;> simp [lostN]
        obtain ⟨W3, hW3⟩ : ∃ W3, W3 = ((wr.alloc (.cells #[.int .i64 x.stamp, .int .i64 x.sum, .bool x.lost] 80)).alloc (.cells #[.int .i64 x.stamp, .int .i64 x.sum, .int .i64 lo] 3)).alloc (.cells #[.int .i64 4, .int .i64 4, .int .i64 1] 3) := ⟨_, rfl⟩
        have hb3 : Below wr.heap.size wr W3 := by rw [hW3]; exact ((alloc_below _ _).alloc (by simp) _).alloc (by simp; omega) _
        have hi3 : Is W3 (some ⟨wr.heap.size + 1, 0, none⟩) 3 3 [x.stamp, x.sum, (lo : Int)] := by
          rw [hW3]
          exact (lit_ints_at (n := 3) (l := [x.stamp, x.sum, (lo : Int)]) (by simp) rfl (by omega) (fun z hz => by simp at hz; rcases hz with rfl | rfl | rfl; exact i1; exact i2; exact ⟨by omega, by omega⟩) rfl).on intR_fine (alloc_below _ _)
        have hj3 : Is W3 (some ⟨wr.heap.size + 1 + 1, 0, none⟩) 3 3 [4, 4, 1] := by
          rw [hW3]
          exact lit_ints_at (n := 3) (l := [4, 4, 1]) (by simp) rfl (by omega) (fun z hz => by simp at hz; rcases hz with rfl | rfl <;> exact ⟨by omega, by omega⟩) rfl
        rw [hlo] at hi3
        have HRO := hide (row3 hxo hi3 hj3)
        have HW3 := hide hW3
        have hlo2 : lo = if x.lost then 1 else 0 := hlo
        have ho3 := ho.below byteR_fine hb3
        have hbs3 := hb.trans (hb3.mono hb.size)
        have HLO := hide hlo2
        clear hW3 hi3 hj3 hlo hlo2 hx hxo
        cases hxl : x.lost with
        | false =>
          rw [hxl] at d2
          obtain rfl : lo = 0 := by have HL := HLO.out; rw [hxl] at HL; exact HL
          have HW := HW3.out
          rw [hxl] at HW
          have HW3' := hide HW
          clear hxl HW
          go_wp2_with fail
          rw [show W3 = _ from HW3'.out] at HRO
          refine HRO.out.mono ?_
          rintro e w4 ⟨V4, c4, rfl, hs4, hb4⟩
          rw [← HW3'.out] at hb4
          have hb34 := th hb3 hb4
          have ho4 := ho.below byteR_fine hb34
          have hb4' := hb.trans (hb34.mono hb.size)
          have hbs4 : w1.heap.size ≤ w4.heap.size := hb4'.size
          go_wp2_with (at_builtin; refine wpList_append_ow _ rfl (.tmp 39) (.tmp 40) _ rfl byteR_fine w1.heap.size 0 5 j0 _ 1 Tryd.underlying54 hj0 hy0 hy1 hy2 rfl (by omega) (.slice V0 (9 * k) c0) (9 * k) _ rfl ho4 _ V4 9 c4 _ rfl hs4 (fun _ _ _ h => h) (by simp only [maxLen]; omega) (by omega) hbs4 ?_; intro V5 w5 ho5 hg5 hat5; have hb5 := hb4'.trans (below_grown hg5 ho4.lt hbs4))
          rw [← HNX.out] at ho5
          go_roundw
          case rel => exact ⟨k + 1, by omega, by go_num, ho5, hb5⟩
          case measure => simp [intOf]; omega
        | true =>
          rw [hxl] at d2
          obtain rfl : lo = 1 := by have HL := HLO.out; rw [hxl] at HL; exact HL
          have HW := HW3.out
          rw [hxl] at HW
          have HW3' := hide HW
          clear hxl HW
          go_wp2_with fail
          rw [show W3 = _ from HW3'.out] at HRO
          refine HRO.out.mono ?_
          rintro e w4 ⟨V4, c4, rfl, hs4, hb4⟩
          rw [← HW3'.out] at hb4
          have hb34 := th hb3 hb4
          have ho4 := ho.below byteR_fine hb34
          have hb4' := hb.trans (hb34.mono hb.size)
          have hbs4 : w1.heap.size ≤ w4.heap.size := hb4'.size
          go_wp2_with (at_builtin; refine wpList_append_ow _ rfl (.tmp 39) (.tmp 40) _ rfl byteR_fine w1.heap.size 0 5 j0 _ 1 Tryd.underlying54 hj0 hy0 hy1 hy2 rfl (by omega) (.slice V0 (9 * k) c0) (9 * k) _ rfl ho4 _ V4 9 c4 _ rfl hs4 (fun _ _ _ h => h) (by simp only [maxLen]; omega) (by omega) hbs4 ?_; intro V5 w5 ho5 hg5 hat5; have hb5 := hb4'.trans (below_grown hg5 ho4.lt hbs4))
          rw [← HNX.out] at ho5
          go_roundw
          case rel => exact ⟨k + 1, by omega, by go_num, ho5, hb5⟩
          case measure => simp [intOf]; omega
      · obtain rfl : k = n := by omega
        have hfin : L.take k = L := List.take_of_length_le (by rw [ha.len]; exact Nat.le_refl _)
        rw [hfin] at ho
        have HF := hide hfin
        clear hfin
        go_wp2_with fail
        go_ret2
        exact ⟨th hb0 (th hb1 hb), V0, 9 * k, c0, _, 0, rfl, ho.read byteR_fine, .inr ⟨HOK.out, rfl, rfl⟩⟩
  · rw [if_neg hok] at hck
    unfold Geo.v at hck ⊢
    have HCK := hide hck
    have HOK := hide hok
    clear bx hck hok
    go_enter Tryd.func55, Tryd.ntmps55
    go_wp2_with fail
    refine HCK.out.mono ?_
    rintro e w1 ⟨rfl, hb1⟩
    go_wp2_with fail
    go_ret2
    exact ⟨th hb0 hb1, none, 0, 0, [], 1, rfl, Sl.nil_ _, .inl ⟨HOK.out, rfl, rfl⟩⟩

/-- The blocks that are lost. -/
def lostL (L : List Ent) (k : Nat) : List Int := ((List.range k).filter fun i => (L[i]?.map (·.lost)).getD false).map fun (i : Nat) => (i : Int)
theorem lostL_succ {L : List Ent} {k : Nat} {e : Ent} (h : L[k]? = some e) : lostL L (k + 1) = lostL L k ++ if e.lost then [(k : Int)] else [] := by
  unfold lostL
  rw [List.range_succ, List.filter_append, List.map_append]
  congr 1
  cases hl : e.lost <;> simp [h, hl]
theorem lostL_le (L : List Ent) (k : Nat) : (lostL L k).length ≤ k := by
  unfold lostL
  rw [List.length_map]
  have := List.length_filter_le (fun i => (L[i]?.map (·.lost)).getD false) (List.range k)
  rwa [List.length_range] at this
def TLost (g : Geo) (L : List Ent) (l : List Int) (err : Int) : Prop := (¬ (GeoOk g ∧ TabOk g.data L) ∧ err = 1 ∧ l = []) ∨ ((GeoOk g ∧ TabOk g.data L) ∧ err = 0 ∧ l = lostL L L.length)
def TLostPost (w : World) (g : Geo) (L : List Ent) (e : Ending) (w' : World) : Prop := Below w.heap.size w w' ∧ ∃ V n c l err, e = .returned (.tuple #[.slice V n c, .int .i64 err]) ∧ Is w' V n c l ∧ TLost g L l err

end Go.Proofs.YtdcoholjnlndgaaDoor
