/-
  Contract: table.First.
  Contract: casemateref08.FirstTable.
-/
import Derived.Test.YtdcoholjnlndgaaDoorTabF
import Derived.Test.YtdcoholjnlndgaaDoorRepE
import Derived.Test.YtdcoholjnlndgaaDoorZRef
import Derived.Test.YtdcoholjnlndgaaDoorZoneL
import Derived.Test.YtdcoholjnlndgaaDoorMadeZ
import Derived.Test.YtdcoholjnlndgaaDoorZKeep
import Derived.Deep.RegionHeld3
namespace Go.Proofs.YtdcoholjnlndgaaDoor
open Go.RowKit
set_option linter.unusedVariables false
set_option maxRecDepth 100000

/-- A new zone's table. -/
def newEnt : Ent := ⟨0, crc zero8, false⟩
def newT (d : Nat) : List Ent := List.replicate (d + 1) newEnt
/-- What First tells. -/
def FstQ (g : Geo) (T : List Ent) (err : Int) : Prop := (¬ GeoOk g ∧ err = 1 ∧ T = []) ∨ (GeoOk g ∧ err = 0 ∧ T = newT g.data.toNat)
def FstPost (w : World) (g : Geo) (e : Ending) (w' : World) : Prop := Below w.heap.size w w' ∧ ∃ A n c T err, e = .returned (.tuple #[.agg #[.slice A n c], .int .i64 err]) ∧ Sl entR 3 w' (New w.heap.size w') A n c T ∧ FstQ g T err

/-- A literal of one entry, among all blocks. -/
theorem lit_entryO {w : World} {N : Nat} {e : TypeId} {a s : Int} {l : Bool} (hN : w.heap.size = N) (ha : InI a) (hs : InI s) : Sl entR 3 (w.alloc (.cells #[.int .i64 a, .int .i64 s, .bool l] e)) (Old (w.alloc (.cells #[.int .i64 a, .int .i64 s, .bool l] e))) (some ⟨N, 0, none⟩) 1 1 [⟨a, s, l⟩] := by
  have h := lit_entry (e := e) (l := l) hN ha hs
  refine ⟨rfl, Nat.le_refl _, fun _ => ⟨_, rfl, by subst hN; show w.heap.size < _; simp, fun i x hx => ?_⟩⟩
  obtain ⟨ad, e1, _, hc⟩ := h.at0 (by omega)
  injection e1 with e1
  subst e1
  obtain ⟨cs, hr, hat⟩ := hc i x hx
  exact ⟨cs, hr, hat⟩

end Go.Proofs.YtdcoholjnlndgaaDoor

namespace Go.Proofs.YtdcoholjnlndgaaDoor
open Go.RowKit
set_option linter.unusedVariables false
set_option maxRecDepth 100000

def RFstPost (w : World) (d : Nat) (e : Ending) (w' : World) : Prop := Below w.heap.size w w' ∧ ∃ A c, e = .returned (.agg #[.slice A (d + 1) c]) ∧ Sl entR 3 w' (New w.heap.size w') A (d + 1) c (newT d)
theorem undrewF {a b : World} (h : Below a.drew.heap.size a.drew b) : Below a.heap.size a b := (Below.refl _ _).drew.trans h

set_option maxHeartbeats 4000000 in
theorem rfirst_any (g : Geo) (d : Nat) (hd : g.data = (d : Int)) (hd4 : d ≤ 4) (w : World) : Calls Tryd.prog 22 #[g.v] w (RFstPost w d) := by
  obtain ⟨z, q, s', l, a⟩ := g
  dsimp only at hd
  subst hd
  obtain ⟨e0, he0, ee0, ee1, ee2⟩ := info_parts ent_infoR
  obtain ⟨j0, hj0, hy0, hy1, hy2⟩ := info_parts u8_info
  have hmk : ∀ W, (Instr.makeSlice 54 (.int .i64 8) (.int .i64 8)).run Tryd.prog W = .ok (.slice (some ⟨W.heap.size, 0, none⟩) 8 8) (W.alloc (.cells (madeCells #[.int .u8 0] 8) 5)) := fun W => run_make_all (P := Tryd.prog) 54 5 j0 _ 1 1 Tryd.underlying54 hj0 hy0 hy1 hy2 .i64 .i64 8 (by omega) (by omega) W
  unfold Geo.v RFstPost
  dsimp only
  obtain ⟨WB, hWB⟩ : ∃ WB, WB = ((w.alloc (.cells #[.int .i64 z, .int .i64 d, .int .i64 s', .int .i64 l, .int .i64 a] 23)).alloc (.cells #[.slice none 0 0] 65)).alloc (.cells #[.slice none 0 0] 65) := ⟨_, rfl⟩
  have hS : WB.heap.size = w.heap.size + 1 + 1 + 1 := by rw [hWB]; simp
  have hS0 : (w.alloc (.cells #[.int .i64 z, .int .i64 d, .int .i64 s', .int .i64 l, .int .i64 a] 23)).heap.size = w.heap.size + 1 := by simp
  have hb1 : Below w.heap.size w WB := by rw [hWB]; exact ((alloc_below w _).alloc (by simp) _).alloc (by simp; omega) _
  have bx : ∀ W, Below (w.heap.size + 1 + 1) WB W → Below w.heap.size w W ∧ W.cell? ⟨w.heap.size, 1, none⟩ = some (.int .i64 d) ∧ W.cell? ⟨w.heap.size + 1, 0, none⟩ = some (.slice none 0 0) ∧ W.frozen? ⟨w.heap.size + 1, 0, none⟩ = false := fun W hW => by
    refine ⟨hb1.trans (hW.mono (by omega)), ?_⟩
    subst hWB
    have h2 : Below ((w.alloc (.cells #[.int .i64 z, .int .i64 d, .int .i64 s', .int .i64 l, .int .i64 a] 23)).alloc (.cells #[.slice none 0 0] 65)).heap.size ((w.alloc (.cells #[.int .i64 z, .int .i64 d, .int .i64 s', .int .i64 l, .int .i64 a] 23)).alloc (.cells #[.slice none 0 0] 65)) W := (alloc_below _ _).trans (by rw [show ((w.alloc (.cells #[.int .i64 z, .int .i64 d, .int .i64 s', .int .i64 l, .int .i64 a] 23)).alloc (.cells #[.slice none 0 0] 65)).heap.size = w.heap.size + 1 + 1 from by simp]; exact hW)
    exact ⟨box_cell (th (alloc_below _ _) h2) 1 _ rfl, bx_at2 hS0 h2 0 _ rfl, bx_free2 hS0 h2 0⟩
  have BX := hide bx
  have hct : WB.cell? ⟨w.heap.size + 1 + 1, 0, none⟩ = some (.slice none 0 0) := by
    rw [hWB]
    exact bx_at2 (by simp) (Below.refl _ _) 0 _ rfl
  have hft : WB.frozen? ⟨w.heap.size + 1 + 1, 0, none⟩ = false := by
    rw [hWB]
    exact bx_free2 (by simp) (Below.refl _ _) 0
  obtain ⟨Q, hQ⟩ : ∃ Q, Q = crc zero8 := ⟨_, rfl⟩
  have hq : Q < 4294967296 := by rw [hQ]; exact crc_lt _
  have hNE : newEnt = ⟨0, (Q : Int), false⟩ := by rw [newEnt, hQ]
  have HS := hide hS
  have HWB := hide hWB
  have HCT := hide hct
  have HFT := hide hft
  have HQ := hide hQ
  have HNE := hide hNE
  clear hWB bx hS0 hS hct hft hb1 hQ hNE
  go_enter Tryd.func22, Tryd.ntmps22
  go_wp2_with fail
  go_loopw [4] (fun i wr => ∃ k : Nat, ∃ A c, k ≤ d + 1 ∧ i = .int .i64 k ∧ Ow entR 3 wr (w.heap.size + 1 + 1 + 1) 0 80 (.slice A k c) k (List.replicate k newEnt) ∧ wr.cell? ⟨w.heap.size + 1 + 1, 0, none⟩ = some (.slice A k c) ∧ wr.frozen? ⟨w.heap.size + 1 + 1, 0, none⟩ = false ∧ Below (w.heap.size + 1 + 1) WB wr ∧ w.heap.size + 1 + 1 + 1 ≤ wr.heap.size) (fun i _ => d + 1 - (intOf i).toNat)
  case atStart =>
    rw [← HWB.out]
    exact ⟨0, none, 0, Nat.zero_le _, rfl, Ow.nil_ _ _ _ _, HCT.out, HFT.out, Below.refl _ _, Nat.le_of_eq HS.out.symm⟩
  case round =>
    obtain ⟨k, A, c, hkd, rfl, ho, ct, ft, hbw, hsz⟩ := hrel
    obtain ⟨hb, kd, kr, fr⟩ := BX.out wr hbw
    by_cases hlt : k < d + 1
    · have hz := Sl.drew byteR_fine ((made_zero wr 5 8 (by omega)).read byteR_fine)
      have hen := entry8_any (w := (wr.alloc (.cells (madeCells #[.int .u8 0] 8) 5)).drew) 0 hz (by omega)
      rw [show List.replicate 8 (0 : UInt8) = zero8 from rfl] at hen
      unfold Ent.v at hen
      dsimp only at hen
      rw [← HQ.out] at hen
      have HEN := hide hen
      have HFTk := hide ft
      have hct : ∀ W, Below wr.heap.size wr W → W.cell? ⟨w.heap.size + 1 + 1, 0, none⟩ = some (.slice A k c) := fun W hW => (hW.cell (by exact hsz)).trans ct
      have HCTk := hide hct
      have ctz : (wr.alloc (.cells (madeCells #[.int .u8 0] 8) 5)).cell? ⟨w.heap.size + 1 + 1, 0, none⟩ = some (.slice A k c) := hct _ (alloc_below _ _)
      have hbz : Below wr.heap.size wr (wr.alloc (.cells (madeCells #[.int .u8 0] 8) 5)).drew := (alloc_below wr _).drew
      have HO := hide ho
      clear hen hct hz ho ft
      go_upto_region 5 with fail
      go_region_law (first
          | (refine step_append_ow _ (by rfl) _ _ _ (by rfl) entR_fine (w.heap.size + 1 + 1 + 1) 0 80 e0 _ 24 Tryd.underlying63 he0 ee0 ee1 ee2 rfl (by omega) (.slice A k c) k _ (by rfl) ho6 _ _ 1 1 _ (by rfl) hlit (fun _ _ _ h => h) (by simp only [maxLen]; omega) (by omega) hs6 ?_; intro V8 w8 ho8 hg8 hat8; obtain ⟨A8, c8, rfl⟩ := ho8.form; have hb8 := below_grown (base := w.heap.size + 1 + 1 + 1) hg8 ho6.lt hs6; have ct8 : w8.cell? ⟨w.heap.size + 1 + 1, 0, none⟩ = some (.slice A k c) := (hb8.cell (by simp)).trans (HCTk.out _ hb6); have ft8 : w8.frozen? ⟨w.heap.size + 1 + 1, 0, none⟩ = false := (hb8.frozen (by simp)).trans ((hb6.frozen (by exact hsz)).trans HFTk.out))
          | (go_simp; go_at_call 34; refine HEN.out.mono ?_; rintro e w5 ⟨rfl, hb5⟩; go_loud (have hb5' : Below wr.heap.size wr w5 := th hbz hb5; have hE6 := alloc_below w5 (.cells #[.int .i64 0, .int .i64 Q, .bool false] 80); have hb6 := th hb5' hE6; have ho6 := HO.out.below entR_fine hb6; have hb6m := hb6.mono hsz; have hs6 : w.heap.size + 1 + 1 + 1 ≤ (w5.alloc (.cells #[.int .i64 0, .int .i64 Q, .bool false] 80)).heap.size := Nat.le_trans hsz hb6.size; have hlit := lit_entryO (w := w5) (e := 80) (l := false) rfl (show InI (0 : Int) from ⟨by omega, by omega⟩) (show InI (Q : Int) from ⟨by omega, by omega⟩); have ct5 := HCTk.out w5 hb5'; have ct6 := HCTk.out _ hb6)))
      all_goals go_wp2_with fail
      all_goals
        go_roundw
        case rel => exact ⟨k + 1, A8, c8, by omega, by go_num, by rw [List.replicate_succ', HNE.out]; rw [HNE.out] at ho8; exact entPut ho8 _ _ (by simp), put_same ct8, (put_free _ _ _ _).trans ft8, (hbw.trans ((hb6m.mono (by omega)).trans (hb8.mono (by omega)))).setCell (by simp) _, by rw [set_size]; exact Nat.le_trans hs6 hg8.size⟩
        case measure => simp [intOf]; omega
    · obtain rfl : k = d + 1 := by omega
      go_wp2_with fail
      exact bodyPost_ret (v := .agg #[.slice A (d + 1) c]) (by simp [results, Tryd.results22, go_sem, put_same kr]) rfl ⟨hb.setCell (by simp) _, A, c, rfl, entNew (entPut ho _ _ (by simp)) (by omega)⟩

end Go.Proofs.YtdcoholjnlndgaaDoor
