/-
  Contract: table.First.
-/
import Derived.Test.YtamgpbkakmffiaaTabF
import Derived.Test.YtamgpbkakmffiaaRepE
import Derived.Test.YtamgpbkakmffiaaZRef
import Derived.Test.YtamgpbkakmffiaaZoneL
import Derived.Test.YtamgpbkakmffiaaMadeZ
namespace Go.Proofs.Ytamgpbkakmffiaa
open Go.RowKit
set_option linter.unusedVariables false
set_option maxRecDepth 100000

/-- A new zone's table. -/
def newEnt : Ent := ⟨0, crc zero8, false⟩
def newT (d : Nat) : List Ent := List.replicate (d + 1) newEnt
/-- What First tells. -/
def FstQ (g : Geo) (T : List Ent) (err : Int) : Prop := (¬ GeoOk g ∧ err = 1 ∧ T = []) ∨ (GeoOk g ∧ err = 0 ∧ T = newT g.data.toNat)
def FstPost (w : World) (g : Geo) (e : Ending) (w' : World) : Prop := Below w.heap.size w w' ∧ ∃ A n c T err, e = .returned (.tuple #[.agg #[.slice A n c], .int .i64 err]) ∧ Sl entR 3 w' (New w.heap.size w') A n c T ∧ FstQ g T err

/-- A literal of one entry, among all blocks. -/
theorem lit_entryO {w : World} {N : Nat} {e : TypeId} {a s : Int} {l : Bool} (hN : w.heap.size = N) (ha : InI a) (hs : InI s) : Sl entR 3 (w.alloc (.cells #[.int .i64 a, .int .i64 s, .bool l] e)) (Old (w.alloc (.cells #[.int .i64 a, .int .i64 s, .bool l] e))) (some ⟨N, 0, none⟩) 1 1 [⟨a, s, l⟩] := by
  have h := lit_entry (e := e) (l := l) hN ha hs
  refine ⟨rfl, Nat.le_refl _, fun _ => ⟨_, rfl, by subst hN; show w.heap.size < _; simp, fun i x hx => ?_⟩⟩
  obtain ⟨ad, e1, _, hc⟩ := h.at0 (by omega)
  injection e1 with e1
  subst e1
  obtain ⟨cs, hr, hat⟩ := hc i x hx
  exact ⟨cs, hr, hat⟩

set_option maxHeartbeats 4000000 in
theorem first_any (g : Geo) (w : World) : Calls Try.prog 17 #[g.v] w (FstPost w g) := by
  obtain ⟨j0, hj0, hy0, hy1, hy2⟩ := info_parts u8_info
  have hmk : ∀ W, (Instr.makeSlice 27 (.int .i64 8) (.int .i64 8)).run Try.prog W = .ok (.slice (some ⟨W.heap.size, 0, none⟩) 8 8) (W.alloc (.cells (madeCells #[.int .u8 0] 8) 5)) := fun W => run_make_all (P := Try.prog) 27 5 j0 _ 1 1 Try.underlying27 hj0 hy0 hy1 hy2 .i64 .i64 8 (by omega) (by omega) W
  have hS0 : (w.alloc (.cells #[.int .i64 g.zones, .int .i64 g.data, .int .i64 g.spares, .int .i64 g.slots, .int .i64 g.anchors] 23)).heap.size = w.heap.size + 1 := by simp
  have hb0 : Below w.heap.size w ((w.alloc (.cells #[.int .i64 g.zones, .int .i64 g.data, .int .i64 g.spares, .int .i64 g.slots, .int .i64 g.anchors] 23)).alloc (.cells #[.slice none 0 0] 26)) := (alloc_below w _).alloc (by simp) _
  have bx : ∀ W, Below ((w.alloc (.cells #[.int .i64 g.zones, .int .i64 g.data, .int .i64 g.spares, .int .i64 g.slots, .int .i64 g.anchors] 23)).alloc (.cells #[.slice none 0 0] 26)).heap.size ((w.alloc (.cells #[.int .i64 g.zones, .int .i64 g.data, .int .i64 g.spares, .int .i64 g.slots, .int .i64 g.anchors] 23)).alloc (.cells #[.slice none 0 0] 26)) W →
      W.cell? ⟨w.heap.size, 1, none⟩ = some (.int .i64 g.data) ∧ W.cell? ⟨w.heap.size + 1, 0, none⟩ = some (.slice none 0 0) ∧ W.frozen? ⟨w.heap.size + 1, 0, none⟩ = false ∧ Below w.heap.size w W := fun W hW =>
    have h := th (alloc_below _ _) hW
    ⟨box_cell h 1 _ rfl, bx_at2 hS0 hW 0 _ rfl, bx_free2 hS0 hW 0, th (alloc_below _ _) h⟩
  have BX := hide bx
  have hck := fun w => gcheck_any g w
  clear bx hS0
  unfold FstPost FstQ
  by_cases hG : GeoOk g
  · have he : geoErr g = 0 := if_pos hG
    rw [he] at hck
    unfold Geo.v at hck ⊢
    have HCK := hide hck
    obtain ⟨d, hd⟩ : ∃ d : Nat, g.data = (d : Int) := ⟨g.data.toNat, by have := hG.2.1; omega⟩
    have hd4 : 1 ≤ d ∧ d ≤ 4 := by have := hG.2.1; omega
    rw [hd] at BX HCK hb0 ⊢
    have HG := hide hG
    obtain ⟨Q, hQ⟩ : ∃ Q, Q = crc zero8 := ⟨_, rfl⟩
    have hq : Q < 4294967296 := by rw [hQ]; exact crc_lt _
    have HQ := hide hQ
    obtain ⟨hd1, hd4⟩ := hd4
    clear hck he hG hd hQ
    go_enter Try.func17, Try.ntmps17
    go_wp2_with fail
    refine (HCK.out _).mono ?_
    rintro e w1 ⟨rfl, hb1⟩
    have hE2 := alloc_below w1 (.cells (madeCells #[.int .u8 0] 8) 5)
    have hz := (made_zero w1 5 8 (by omega)).read byteR_fine
    have hsm := sum_of hz (by omega)
    rw [show List.replicate 8 (0 : UInt8) = zero8 from rfl, ← HQ.out] at hsm
    have HSM := hide hsm
    clear hsm hz
    go_wp2_with fail
    refine HSM.out.mono ?_
    rintro e w2 ⟨rfl, rfl⟩
    have hE3 := th hE2 (alloc_below _ (.cells #[.int .i64 0, .int .i64 Q, .bool false] 43))
    have hE4 := th hE3 (alloc_below _ (.cells #[.int .i64 0, .int .i64 Q, .bool false] 43))
    have hlit := lit_entryO (w := (w1.alloc (.cells (madeCells #[.int .u8 0] 8) 5)).alloc (.cells #[.int .i64 0, .int .i64 Q, .bool false] 43)) (N := w1.heap.size + 1 + 1) (e := 43) (l := false) (by simp) (show InI 0 from ⟨by omega, by omega⟩) (show InI (Q : Int) from ⟨by omega, by omega⟩)
    have hrep := repeat_any (k := d + 1) hlit (by omega)
    rw [show ((d + 1 : Nat) : Int) = (d : Int) + 1 by omega] at hrep
    have HREP := hide hrep
    obtain ⟨p1, pr, pf, _⟩ := BX.out _ (th hb1 hE4)
    obtain ⟨p1', _, _, _⟩ := BX.out _ (th hb1 hE3)
    have hsz := (th hb1 hE4).size
    clear hrep hlit
    go_wp2_with fail
    refine HREP.out.mono ?_
    rintro e w5 ⟨V5, c5, rfl, ho5, hb5⟩
    obtain ⟨_, rr, rf, hbr⟩ := BX.out _ (th hb1 (th hE4 hb5))
    simp at hsz
    go_wp2_with fail
    exact bodyPost_ret (v := .tuple #[.agg #[.slice V5 (d + 1) c5], .int .i64 0]) (by simp [results, Try.results17, go_sem, put_same rr]) rfl ⟨hbr.setCell (by simp) _, V5, d + 1, c5, _, 0, rfl, entNew (entPut ho5 _ _ (by simp; omega)) (by simp; omega), .inr ⟨HG.out, rfl, by unfold newT newEnt; rw [← HQ.out]; rfl⟩⟩
  · have he : geoErr g = 1 := if_neg hG
    rw [he] at hck
    unfold Geo.v at hck ⊢
    have HCK := hide hck
    have HG := hide hG
    clear hck he hG
    go_enter Try.func17, Try.ntmps17
    go_wp2_with fail
    refine (HCK.out _).mono ?_
    rintro e w1 ⟨rfl, hb1⟩
    obtain ⟨p1, pr, pf, hbw⟩ := BX.out w1 hb1
    go_wp2_with fail
    exact bodyPost_ret (v := .tuple #[.agg #[.slice none 0 0], .int .i64 1]) (by simp [results, Try.results17, go_sem, put_same pr]) rfl ⟨hbw.setCell (by simp) _, none, 0, 0, [], 1, rfl, Sl.nil_ _, .inl ⟨HG.out, rfl, rfl⟩⟩

end Go.Proofs.Ytamgpbkakmffiaa
