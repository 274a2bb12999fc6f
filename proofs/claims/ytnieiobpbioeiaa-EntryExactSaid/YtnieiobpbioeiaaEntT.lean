/-
  Contract: entry.Table.
-/
import Derived.Test.YtnieiobpbioeiaaTabF
import Derived.Test.YtnieiobpbioeiaaEnt
namespace Go.Proofs.Ytnieiobpbioeiaa
open Go.RowKit
set_option linter.unusedVariables false
set_option maxRecDepth 100000

/-- What entry.Table tells of a payload. -/
def EtQ (g : Geo) (P : List UInt8 × Bool) (T : List Ent) (b : Bool) : Prop :=
  (P.2 = true ∧ GeoOk g ∧ ReadOk g.data P.1 ∧ b = true ∧ T = tabOf (g.data + 1).toNat P.1) ∨
  (¬ (P.2 = true ∧ GeoOk g ∧ ReadOk g.data P.1) ∧ b = false ∧ T = [])
def EtPost (w : World) (g : Geo) (P : List UInt8 × Bool) (e : Ending) (w' : World) : Prop :=
  Below w.heap.size w w' ∧ ∃ A n c T b, e = .returned (.tuple #[.agg #[.slice A n c], .bool b]) ∧ Sl entR 3 w' (Old w') A n c T ∧ EtQ g P T b

set_option maxHeartbeats 4000000 in
theorem etable_any {A : Option Addr} {n c : Nat} {l : List UInt8} {w : World} (g : Geo) (err a s : Int) (hl : Bs w A n c l) (hn : n ≤ 65536) :
    Calls Try.prog 70 #[g.v, .agg #[.int .i64 err, .slice A n c], .int .i64 a, .int .i64 s] w (EtPost w g (payL err l a s)) := by
  have hb0 : Below w.heap.size w (((w.alloc (.cells #[.int .i64 g.zones, .int .i64 g.data, .int .i64 g.spares, .int .i64 g.slots, .int .i64 g.anchors] 23)).alloc (.cells #[.int .i64 err, .slice A n c] 85)).alloc (.cells #[.slice none 0 0] 26)) := ((alloc_below w _).alloc (by simp) _).alloc (by simp; omega) _
  have bx : ∀ W, Below (((w.alloc (.cells #[.int .i64 g.zones, .int .i64 g.data, .int .i64 g.spares, .int .i64 g.slots, .int .i64 g.anchors] 23)).alloc (.cells #[.int .i64 err, .slice A n c] 85)).alloc (.cells #[.slice none 0 0] 26)).heap.size (((w.alloc (.cells #[.int .i64 g.zones, .int .i64 g.data, .int .i64 g.spares, .int .i64 g.slots, .int .i64 g.anchors] 23)).alloc (.cells #[.int .i64 err, .slice A n c] 85)).alloc (.cells #[.slice none 0 0] 26)) W →
      W.cell? ⟨w.heap.size, 0, none⟩ = some (.int .i64 g.zones) ∧ W.cell? ⟨w.heap.size, 1, none⟩ = some (.int .i64 g.data) ∧ W.cell? ⟨w.heap.size, 2, none⟩ = some (.int .i64 g.spares) ∧ W.cell? ⟨w.heap.size, 3, none⟩ = some (.int .i64 g.slots) ∧ W.cell? ⟨w.heap.size, 4, none⟩ = some (.int .i64 g.anchors) ∧ W.cell? ⟨w.heap.size + 1 + 1, 0, none⟩ = some (.slice none 0 0) ∧ W.frozen? ⟨w.heap.size + 1 + 1, 0, none⟩ = false ∧ Below w.heap.size w W := fun W hW =>
    have h := th (alloc_below _ _) (th (alloc_below _ _) hW)
    ⟨box_cell h 0 _ rfl, box_cell h 1 _ rfl, box_cell h 2 _ rfl, box_cell h 3 _ rfl, box_cell h 4 _ rfl, bx_at2 (by simp) hW 0 _ rfl, bx_free2 (by simp) hW 0, th (alloc_below _ _) h⟩
  have BX := hide bx
  have HPY := hide (payload_any err a s (hl.on byteR_fine hb0) hn)
  have hp96 := payL_len (err := err) (b := l) (a := a) (s := s)
  unfold EtPost
  obtain ⟨⟨pl, pb⟩, hP⟩ : ∃ P, P = payL err l a s := ⟨_, rfl⟩
  rw [← hP] at HPY hp96 ⊢
  unfold PayPost at HPY
  dsimp only at HPY hp96 ⊢
  have hck := fun w => gcheck_any g w
  unfold Geo.v at hck ⊢
  have HP96 := hide hp96
  clear bx hP hp96
  cases pb with
  | false =>
    clear hck
    go_enter Try.func70, Try.ntmps70
    go_wp2_with fail
    refine HPY.out.mono ?_
    rintro e w1 ⟨hb1, V, nv, cv, rfl, hs1⟩
    obtain ⟨p0, p1, p2, p3, p4, pr, pf, hbw⟩ := BX.out w1 hb1
    go_wp2_with fail
    exact bodyPost_ret (v := .tuple #[.agg #[.slice none 0 0], .bool false]) (by simp [results, Try.results70, go_sem, put_same pr]) rfl ⟨hbw.setCell (by simp; omega) _, none, 0, 0, [], false, rfl, Sl.nil_ _, by unfold EtQ; exact .inr ⟨fun h => (by cases h.1), rfl, rfl⟩⟩
  | true =>
    by_cases hG : GeoOk g
    · have he : geoErr g = 0 := if_pos hG
      rw [he] at hck
      have HCK := hide hck
      have HG := hide hG
      clear hck he hG
      go_enter Try.func70, Try.ntmps70
      go_wp2_with fail
      refine HPY.out.mono ?_
      rintro e w1 ⟨hb1, V, nv, cv, rfl, hs1⟩
      obtain ⟨p0, p1, p2, p3, p4, pr, pf, _⟩ := BX.out w1 hb1
      go_wp2_with fail
      refine (HCK.out _).mono ?_
      rintro e w2 ⟨rfl, hb2⟩
      obtain ⟨q0, q1, q2, q3, q4, qr, qf, _⟩ := BX.out w2 (th hb1 hb2)
      have hs2 := hs1.on byteR_fine hb2
      have hrd := read_any V nv cv pl g w2 hs2 (by have := hs1.len; have := HP96.out; omega)
      unfold Geo.v RdPost at hrd
      have HRD := hide hrd
      clear hrd
      go_wp2_with fail
      refine HRD.out.mono ?_
      rintro e w3 ⟨hb3, V3, n3, c3, T, er3, rfl, hs3, hq⟩
      obtain ⟨r0, r1, r2, r3, r4, rr, rf, hbr⟩ := BX.out w3 (th hb1 (th hb2 hb3))
      have hE4 := alloc_below w3 (.cells #[.slice V3 n3 c3] 26)
      obtain ⟨s0, s1, s2, s3, s4, sr, sf, hbs⟩ := BX.out _ (th hb1 (th hb2 (th hb3 hE4)))
      have hlt : w.heap.size + 1 + 1 < w3.heap.size := by have h1 := (th hb1 (th hb2 hb3)).size; simp at h1; omega
      unfold RdQ at hq
      rcases hq with ⟨h, _⟩ | ⟨_, hR, rfl, rfl⟩ | ⟨_, hR, rfl, rfl⟩
      · exact absurd HG.out h
      · have HR := hide hR
        have HS3 := hide hs3
        clear hR hs3
        go_wp2_with fail
        have hcf : ((w3.setCell ⟨w.heap.size + 1 + 1, 0, none⟩ (.slice V3 n3 c3)).alloc (.cells #[.slice V3 n3 c3] 26)).cell? ⟨w.heap.size + 1 + 1, 0, none⟩ = some (.slice V3 n3 c3) := ((alloc_below (w3.setCell ⟨w.heap.size + 1 + 1, 0, none⟩ (.slice V3 n3 c3)) (.cells #[.slice V3 n3 c3] 26)).cell (by rw [set_size]; exact hlt)).trans (put_same rr)
        exact bodyPost_ret (v := .tuple #[.agg #[.slice V3 n3 c3], .bool true]) (by simp [results, Try.results70, go_sem, hcf]) rfl ⟨(hbr.setCell (by simp; omega) _).alloc (by rw [set_size]; exact hbr.size) _, V3, n3, c3, _, true, rfl, (HS3.out.move entR_fine (S' := Old _) (fun b hb => put_blk _ _ _ _ (by have h1 := hb.1; have h2 := (th hb1 hb2).size; simp at h2; show b ≠ w.heap.size + 1 + 1; omega)) (fun b hb => by show b < (w3.setCell _ _).heap.size; rw [set_size]; exact hb.2)).on entR_fine (alloc_below _ _), by unfold EtQ; exact .inl ⟨rfl, HG.out, HR.out, rfl, rfl⟩⟩
      · have HR := hide hR
        have HS3 := hide hs3
        clear hR hs3
        go_wp2_with fail
        have hcf : ((w3.setCell ⟨w.heap.size + 1 + 1, 0, none⟩ (.slice V3 n3 c3)).alloc (.cells #[.slice V3 n3 c3] 26)).cell? ⟨w.heap.size + 1 + 1, 0, none⟩ = some (.slice V3 n3 c3) := ((alloc_below (w3.setCell ⟨w.heap.size + 1 + 1, 0, none⟩ (.slice V3 n3 c3)) (.cells #[.slice V3 n3 c3] 26)).cell (by rw [set_size]; exact hlt)).trans (put_same rr)
        exact bodyPost_ret (v := .tuple #[.agg #[.slice V3 n3 c3], .bool false]) (by simp [results, Try.results70, go_sem, hcf]) rfl ⟨(hbr.setCell (by simp; omega) _).alloc (by rw [set_size]; exact hbr.size) _, V3, n3, c3, _, false, rfl, (HS3.out.move entR_fine (S' := Old _) (fun b hb => put_blk _ _ _ _ (by have h1 := hb.1; have h2 := (th hb1 hb2).size; simp at h2; show b ≠ w.heap.size + 1 + 1; omega)) (fun b hb => by show b < (w3.setCell _ _).heap.size; rw [set_size]; exact hb.2)).on entR_fine (alloc_below _ _), by unfold EtQ; exact .inr ⟨fun h => HR.out h.2.2, rfl, rfl⟩⟩
    · have he : geoErr g = 1 := if_neg hG
      rw [he] at hck
      have HCK := hide hck
      have HG := hide hG
      clear hck he hG
      go_enter Try.func70, Try.ntmps70
      go_wp2_with fail
      refine HPY.out.mono ?_
      rintro e w1 ⟨hb1, V, nv, cv, rfl, hs1⟩
      obtain ⟨p0, p1, p2, p3, p4, pr, pf, _⟩ := BX.out w1 hb1
      go_wp2_with fail
      refine (HCK.out _).mono ?_
      rintro e w2 ⟨rfl, hb2⟩
      obtain ⟨q0, q1, q2, q3, q4, qr, qf, hbw⟩ := BX.out w2 (th hb1 hb2)
      go_wp2_with fail
      exact bodyPost_ret (v := .tuple #[.agg #[.slice none 0 0], .bool false]) (by simp [results, Try.results70, go_sem, put_same qr]) rfl ⟨hbw.setCell (by simp; omega) _, none, 0, 0, [], false, rfl, Sl.nil_ _, by unfold EtQ; exact .inr ⟨fun h => HG.out h.2.1, rfl, rfl⟩⟩

end Go.Proofs.Ytnieiobpbioeiaa
