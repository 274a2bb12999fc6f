/-
  Contract: slices.Repeat of one entry.
-/
import Derived.Test.YtamgpbkakmffiaaMulS
import Derived.Test.YtamgpbkakmffiaaCopyN
import Derived.Test.YtamgpbkakmffiaaStruct
import Derived.Deep.RegionLaw
import Derived.Deep.CutRange
import Derived.IntWalk
import Derived.Deep.DeepCutAuto
namespace Go.Proofs.Ytamgpbkakmffiaa
open Go.RowKit
set_option linter.unusedVariables false
set_option maxRecDepth 100000

theorem ent_infoR : (Try.prog.info? 43).map (fun i => (i.zero, i.size, i.bytes)) = some (some (.agg #[.int .i64 0, .int .i64 0, .bool false]), 3, 24) := by kernel_rfl
theorem ent_sizeR : (Try.prog.info? 43).map (·.size) = some 3 := by kernel_rfl
def zEnt : List Value := [.int .i64 0, .int .i64 0, .bool false]
theorem made_ent {k : Nat} (h : k = 2 ∨ k = 3 ∨ k = 4 ∨ k = 5) : madeCells (Value.agg #[.int .i64 0, .int .i64 0, .bool false]).cells (k * 3) = (flat k zEnt).toArray := by
  rcases h with rfl | rfl | rfl | rfl <;> kernel_rfl
theorem cells_ent : (Value.agg #[.int .i64 0, .int .i64 0, .bool false]).cells = #[.int .i64 0, .int .i64 0, .bool false] := by kernel_rfl

set_option maxHeartbeats 2000000 in
theorem repeat_any {A : Option Addr} {c k : Nat} {x : Ent} {w : World} (ha : Sl entR 3 w (Old w) A 1 c [x]) (hk : k = 2 ∨ k = 3 ∨ k = 4 ∨ k = 5) :
    Calls Try.prog 35 #[.slice A 1 c, .int .i64 k] w fun e w' => ∃ V cv, e = .returned (.slice V k cv) ∧ Ow entR 3 w' w.heap.size 0 43 (.slice V k cv) k (List.replicate k x) ∧ Below w.heap.size w w' := by
  obtain ⟨e0, he0, ee0, ee1, ee2⟩ := info_parts ent_infoR
  have hk2 : 2 ≤ k ∧ k ≤ 5 := by omega
  obtain ⟨hk2, hk5⟩ := hk2
  obtain ⟨T, hT⟩ : ∃ T, T = (flat k zEnt).toArray := ⟨_, rfl⟩
  have hmk : ∀ W, (Instr.makeSlice 24 (.int .i64 k) (.int .i64 k)).run Try.prog W = .ok (.slice (some ⟨W.heap.size, 0, none⟩) k k) (W.alloc (.cells T 43)) := fun W => by
    rw [hT, ← made_ent hk]
    exact run_make_all (P := Try.prog) 24 43 e0 _ 3 24 Try.underlying24 he0 ee0 ee1 ee2 .i64 .i64 k (by omega) (by omega) W
  have HM := hide (mul_small (k : Int) (by omega))
  have hg1 : (w.alloc (.cells T 43)).heap[w.heap.size]? = some (.cells (flat k zEnt).toArray 43 (0, 0)) := by rw [← hT]; exact heap_alloc_new w _
  have hb1 := alloc_below w (.cells T 43)
  have ha1 := ha.on entR_fine hb1
  obtain ⟨cs, hcs, hcl, hc1, hrun⟩ := run_copy_first (P := Try.prog) entR_fine _ 24 24 3 43 ha1 Try.underlying24 ent_sizeR hg1 (show zEnt.length = 3 from rfl) (show 1 ≤ k by omega)
  have hgr := setRow_heap (w.alloc (.cells T 43)) w.heap.size _ (rowR cs zEnt 1 k).toArray _ _ hg1
  have hbr : Below w.heap.size w ((w.alloc (.cells T 43)).setRow w.heap.size (rowR cs zEnt 1 k).toArray) := below_setRow hb1 (Nat.le_refl _) _
  have HRUN := hide hrun
  have HGR := hide hgr
  have HCL := hide hcl
  have hz3 : zEnt.length = 3 := rfl
  clear hk hrun hgr hg1 hcl hT
  go_enter Try.func35, Try.ntmps35
  go_wp2_with fail
  refine (HM.out _).mono ?_
  rintro e w1 ⟨rfl, rfl⟩
  go_wp2_with (refine wp_copy_run rfl (.tmp 31) (.tmp 32) _ _ rfl _ _ _ rfl rfl HRUN.out ?_)
  go_loopw [8] (fun v wr => ∃ j : Nat, 1 ≤ j ∧ j ≤ k ∧ v = .int .i64 j ∧ Hid (wr.heap[w.heap.size]? = some (.cells (rowR cs zEnt j k).toArray 43 (0, 0))) ∧ Below w.heap.size w wr) (fun v _ => k - (intOf v).toNat)
  case atStart => exact ⟨1, Nat.le_refl _, by omega, rfl, HGR, hbr⟩
  case round =>
    obtain ⟨j, hj1, hjk, rfl, hg, hb⟩ := hrel
    by_cases hlt : j < k
    · have hrn := run_copy_more (P := Try.prog) wr.drew 24 24 3 43 HCL.out hz3 hc1 Try.underlying24 ent_sizeR hg.out hjk (k - j) k
      obtain ⟨q, hq⟩ : ∃ q, q = Nat.min j (k - j) := ⟨_, rfl⟩
      have hq1 : 1 ≤ q ∧ q ≤ k - j := by rw [hq]; exact ⟨Nat.le_min.2 ⟨by omega, by omega⟩, Nat.min_le_right _ _⟩
      rw [← hq] at hrn
      have hgn := setRow_heap wr.drew w.heap.size _ (rowR cs zEnt (j + q) k).toArray _ _ hg.out
      have hbn : Below w.heap.size w (wr.drew.setRow w.heap.size (rowR cs zEnt (j + q) k).toArray) := below_setRow hb.drew (Nat.le_refl _) _
      obtain ⟨h1, h2⟩ := hq1
      rw [Nat.mul_comm 3 j] at hrn
      have hsum : IntKind.i64.wrap ((j : Int) + (q : Int)) = ((j + q : Nat) : Int) := by rw [IntWalk.i64_in _ (by omega)]; omega
      have HGN := hide hgn
      have hne : k ≠ j := by omega
      clear hgn hq
      go_upto_region 9 with fail
      go_region
      all_goals go_wp2_with fail
      go_roundw
      case rel => exact ⟨j + q, by omega, by omega, by go_num, HGN, hbn⟩
      case measure => simp [intOf]; omega
    · obtain rfl : j = k := by omega
      go_wp2_with fail
      go_ret
      exact ⟨_, _, rfl, own_rep (fun w S => hcs) entR_fine hc1 hg.out (Nat.le_refl _) (by simp only [maxLen]; omega), hb⟩

end Go.Proofs.Ytamgpbkakmffiaa
