/-
  Contracts: casemateref08.TableOf; casematelaw09.Heavy of one reading.
-/
import Derived.Test.YtnieiobpbioeiaaEntS
namespace Go.Proofs.Ytnieiobpbioeiaa
open Go.RowKit
set_option linter.unusedVariables false
set_option maxRecDepth 100000

set_option maxHeartbeats 4000000 in
theorem rtableof_any {A : Option Addr} {n c d : Nat} {l : List UInt8} {w : World} (g : Geo) (hG : GeoOk g) (hd : g.data = (d : Int)) (err a s : Int) (hl : Bs w A n c l) (hn : n ≤ 65536) :
    Calls Try.prog 71 #[g.v, .agg #[.int .i64 err, .slice A n c], .int .i64 a, .int .i64 s] w (EtPost w g (payL err l a s)) := by
  rw [pay_sct]
  have hb0 : Below w.heap.size w (((w.alloc (.cells #[.int .i64 g.zones, .int .i64 g.data, .int .i64 g.spares, .int .i64 g.slots, .int .i64 g.anchors] 23)).alloc (.cells #[.int .i64 err, .slice A n c] 85)).alloc (.cells #[.slice none 0 0] 26)) := ((alloc_below w _).alloc (by simp) _).alloc (by simp; omega) _
  have bx : ∀ W, Below (((w.alloc (.cells #[.int .i64 g.zones, .int .i64 g.data, .int .i64 g.spares, .int .i64 g.slots, .int .i64 g.anchors] 23)).alloc (.cells #[.int .i64 err, .slice A n c] 85)).alloc (.cells #[.slice none 0 0] 26)).heap.size (((w.alloc (.cells #[.int .i64 g.zones, .int .i64 g.data, .int .i64 g.spares, .int .i64 g.slots, .int .i64 g.anchors] 23)).alloc (.cells #[.int .i64 err, .slice A n c] 85)).alloc (.cells #[.slice none 0 0] 26)) W →
      W.cell? ⟨w.heap.size, 0, none⟩ = some (.int .i64 g.zones) ∧ W.cell? ⟨w.heap.size, 1, none⟩ = some (.int .i64 g.data) ∧ W.cell? ⟨w.heap.size, 2, none⟩ = some (.int .i64 g.spares) ∧ W.cell? ⟨w.heap.size, 3, none⟩ = some (.int .i64 g.slots) ∧ W.cell? ⟨w.heap.size, 4, none⟩ = some (.int .i64 g.anchors) ∧ W.cell? ⟨w.heap.size + 1 + 1, 0, none⟩ = some (.slice none 0 0) ∧ W.frozen? ⟨w.heap.size + 1 + 1, 0, none⟩ = false ∧ Below w.heap.size w W := fun W hW =>
    have h := th (alloc_below _ _) (th (alloc_below _ _) hW)
    ⟨box_cell h 0 _ rfl, box_cell h 1 _ rfl, box_cell h 2 _ rfl, box_cell h 3 _ rfl, box_cell h 4 _ rfl, bx_at2 (by simp) hW 0 _ rfl, bx_free2 (by simp) hW 0, th (alloc_below _ _) h⟩
  have BX := hide bx
  have hsc := sector_any err a (hl.on byteR_fine hb0) hn
  have hp96 := sct_len (err := err) (l := l) (a := a)
  unfold SctPost at hsc
  unfold EtPost
  obtain ⟨⟨⟨sa, ss, pl⟩, pb⟩, hP⟩ : ∃ P, P = sctL err l a := ⟨_, rfl⟩
  rw [← hP] at hsc hp96 ⊢
  dsimp only at hsc hp96 ⊢
  have HSC := hide hsc
  have HP96 := hide hp96
  have HG := hide hG
  have HD := hide hd
  have hrt : ∀ (W : World) (V : Option Addr) (nv cv : Nat), Bs W V nv cv pl → nv ≤ 60000 → Calls Try.prog 65 #[g.v, .slice V nv cv] W (RTabPost W d pl) := fun W V nv cv h1 h2 => rreadt_any V nv cv d pl g hG hd W h1 h2
  unfold Geo.v RTabPost at hrt
  unfold Geo.v
  have HRT := hide hrt
  have hbox : ∀ (w1 : World) (V : Option Addr) (nv cv : Nat) (W : World), Below (w1.alloc (.cells #[.int .i64 sa, .int .i64 ss, .slice V nv cv] 62)).heap.size (w1.alloc (.cells #[.int .i64 sa, .int .i64 ss, .slice V nv cv] 62)) W → W.cell? ⟨w1.heap.size, 1, none⟩ = some (.int .i64 ss) ∧ W.cell? ⟨w1.heap.size, 2, none⟩ = some (.slice V nv cv) := fun w1 V nv cv W hW => ⟨box_cell hW 1 _ rfl, box_cell hW 2 _ rfl⟩
  have HBOX := hide hbox
  clear bx hsc hP hp96 hrt hG hd hbox
  by_cases hok : pb = true ∧ ss = s
  · obtain ⟨rfl, rfl⟩ := hok
    rw [if_pos ⟨rfl, rfl⟩]
    go_enter Try.func71, Try.ntmps71
    go_wp2_with fail
    refine HSC.out.mono ?_
    rintro e w1 ⟨hb1, V, nv, cv, rfl, hs1⟩
    have hb2 := alloc_below w1 (.cells #[.int .i64 sa, .int .i64 ss, .slice V nv cv] 62)
    obtain ⟨p0, p1, p2, p3, p4, pr, pf, _⟩ := BX.out _ (th hb1 hb2)
    obtain ⟨j1, j2⟩ := HBOX.out w1 V nv cv _ (Below.refl _ _)
    have hs2 := hs1.on byteR_fine hb2
    go_wp2_with fail
    refine (HRT.out _ _ _ _ hs2 (by have := hs1.len; have := HP96.out; omega)).mono ?_
    rintro e w3 ⟨hb3, V3, n3, c3, T, b3, rfl, hs3, hq⟩
    obtain ⟨r0, r1, r2, r3, r4, rr, rf, hbr⟩ := BX.out w3 (th hb1 (th hb2 hb3))
    have HQ := hide hq
    have HS3 := hide hs3
    clear hq hs3
    go_wp2_with fail
    refine bodyPost_ret (v := .tuple #[.agg #[.slice V3 n3 c3], .bool b3]) (by simp [results, Try.results71, go_sem, put_same rr]) rfl ⟨hbr.setCell (by simp; omega) _, V3, n3, c3, T, b3, rfl, HS3.out.move entR_fine (fun b hb => put_blk _ _ _ _ (by have h1 := hb.1; have h2 := (th hb1 hb2).size; simp at h2; show b ≠ w.heap.size + 1 + 1; simp at h1; omega)) (fun b hb => by show b < (w3.setCell _ _).heap.size; rw [set_size]; exact hb.2), ?_⟩
    have q := HQ.out
    unfold RTabQ at q
    unfold EtQ
    dsimp only
    rw [HD.out, show ((d : Int) + 1).toNat = d + 1 by omega]
    rcases q with ⟨q1, q2, q3⟩ | ⟨q1, q2, q3⟩
    · exact .inl ⟨rfl, HG.out, q1, q2, q3⟩
    · exact .inr ⟨fun h => q1 h.2.2, q2, q3⟩
  · rw [if_neg hok]
    have hno : EtQ g ([], false) [] false := by unfold EtQ; exact .inr ⟨fun h => (by cases h.1), rfl, rfl⟩
    have HNO := hide hno
    cases pb with
    | false =>
      clear hok hno
      go_enter Try.func71, Try.ntmps71
      go_wp2_with fail
      refine HSC.out.mono ?_
      rintro e w1 ⟨hb1, V, nv, cv, rfl, hs1⟩
      have hb2 := alloc_below w1 (.cells #[.int .i64 sa, .int .i64 ss, .slice V nv cv] 62)
      obtain ⟨p0, p1, p2, p3, p4, pr, pf, hbw⟩ := BX.out w1 hb1
      have hlt : w.heap.size + 1 + 1 < w1.heap.size := by have := hb1.size; simp at this; omega
      go_wp2_with fail
      have hcf : ((w1.setCell ⟨w.heap.size + 1 + 1, 0, none⟩ (.slice none 0 0)).alloc (.cells #[.int .i64 sa, .int .i64 ss, .slice V nv cv] 62)).cell? ⟨w.heap.size + 1 + 1, 0, none⟩ = some (.slice none 0 0) := ((alloc_below (w1.setCell ⟨w.heap.size + 1 + 1, 0, none⟩ (.slice none 0 0)) _).cell (by rw [set_size]; exact hlt)).trans (put_same pr)
      exact bodyPost_ret (v := .tuple #[.agg #[.slice none 0 0], .bool false]) (by simp [results, Try.results71, go_sem, hcf]) rfl ⟨(hbw.setCell (by simp; omega) _).alloc (by rw [set_size]; exact hbw.size) _, none, 0, 0, [], false, rfl, Sl.nil_ _, HNO.out⟩
    | true =>
      have e3 : (ss != s) = true := by simpa using fun h => hok ⟨rfl, h⟩
      clear hok hno
      go_enter Try.func71, Try.ntmps71
      go_wp2_with fail
      refine HSC.out.mono ?_
      rintro e w1 ⟨hb1, V, nv, cv, rfl, hs1⟩
      have hb2 := alloc_below w1 (.cells #[.int .i64 sa, .int .i64 ss, .slice V nv cv] 62)
      obtain ⟨p0, p1, p2, p3, p4, pr, pf, hbw⟩ := BX.out w1 hb1
      have hlt : w.heap.size + 1 + 1 < w1.heap.size := by have := hb1.size; simp at this; omega
      go_wp2_with fail
      have hcf : ((w1.setCell ⟨w.heap.size + 1 + 1, 0, none⟩ (.slice none 0 0)).alloc (.cells #[.int .i64 sa, .int .i64 ss, .slice V nv cv] 62)).cell? ⟨w.heap.size + 1 + 1, 0, none⟩ = some (.slice none 0 0) := ((alloc_below (w1.setCell ⟨w.heap.size + 1 + 1, 0, none⟩ (.slice none 0 0)) _).cell (by rw [set_size]; exact hlt)).trans (put_same pr)
      exact bodyPost_ret (v := .tuple #[.agg #[.slice none 0 0], .bool false]) (by simp [results, Try.results71, go_sem, hcf]) rfl ⟨(hbw.setCell (by simp; omega) _).alloc (by rw [set_size]; exact hbw.size) _, none, 0, 0, [], false, rfl, Sl.nil_ _, HNO.out⟩

set_option maxHeartbeats 400000 in
theorem heavy9_one {A : Option Addr} {n c M : Nat} {w : World} (hc : w.cell? ⟨M, 1, none⟩ = some (.slice A n c)) :
    Calls Try.prog 68 #[.slice (some ⟨M, 0, none⟩) 1 1] w fun e w' => e = .returned (.bool (decide (300 < n))) ∧ w = w' := by
  by_cases h : 300 < n
  · rw [decide_eq_true h]
    go_enter Try.func68, Try.ntmps68
    go_wp2_with fail
    go_loopw [3] (fun i wr => ∃ k : Nat, k ≤ 0 ∧ i = .int .i64 k ∧ wr = w) (fun i _ => 1 - (intOf i).toNat)
    case atStart => exact ⟨0, by omega, rfl, rfl⟩
    case round =>
      obtain ⟨k, hk, rfl, rfl⟩ := hrel
      obtain rfl : k = 0 := by omega
      go_wp2_with fail
      go_ret
      exact ⟨rfl, rfl⟩
  · rw [decide_eq_false h]
    go_enter Try.func68, Try.ntmps68
    go_wp2_with fail
    go_loopw [3] (fun i wr => ∃ k : Nat, k ≤ 1 ∧ i = .int .i64 k ∧ wr = w) (fun i _ => 1 - (intOf i).toNat)
    case atStart => exact ⟨0, by omega, rfl, rfl⟩
    case round =>
      obtain ⟨k, hk, rfl, rfl⟩ := hrel
      by_cases hlt : k < 1
      · obtain rfl : k = 0 := by omega
        go_wp2_with fail
        go_roundw
        case rel => exact ⟨1, by omega, by simp, by simp⟩
        case measure => simp [intOf]
      · obtain rfl : k = 1 := by omega
        go_wp2_with fail
        go_ret
        exact ⟨rfl, rfl⟩

end Go.Proofs.Ytnieiobpbioeiaa
