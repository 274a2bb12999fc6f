/-
  The walk of the law casematelaw05.SealEdges.
-/
import Derived.Test.YtnieiobpbioeiaaLaw5
import Derived.Test.YtnieiobpbioeiaaMadeZ
namespace Go.Proofs.Ytnieiobpbioeiaa
open Go.RowKit
set_option linter.unusedVariables false
set_option maxRecDepth 100000

theorem u4_cases (i : Int) : (IntKind.u64.wrap i).tmod 4 = 0 ∨ (IntKind.u64.wrap i).tmod 4 = 1 ∨ (IntKind.u64.wrap i).tmod 4 = 2 ∨ (IntKind.u64.wrap i).tmod 4 = 3 := by
  have h0 : 0 ≤ IntKind.u64.wrap i := by rw [IntKind.wrap_u64]; exact Int.emod_nonneg _ (by omega)
  rw [Int.tmod_eq_emod_of_nonneg h0]
  omega
theorem byte_of_wf {x : Int} (h : (Lit.int .u8 x).wf = true) : ∃ b : UInt8, x = (b.toNat : Int) := by
  have hr : 0 ≤ x ∧ x ≤ 255 := bounds_u8 h
  exact ⟨UInt8.ofNat x.toNat, by rw [UInt8.toNat_ofNat']; omega⟩
theorem fill_step (x : UInt8) (k : Nat) (h : k < 96) : (List.replicate k x ++ List.replicate (96 - k) 0).set k x = List.replicate (k + 1) x ++ List.replicate (96 - (k + 1)) 0 := by
  rw [List.set_append_right _ _ (by simp), List.length_replicate, Nat.sub_self, show 96 - k = (96 - (k + 1)) + 1 by omega, List.replicate_succ, List.set_cons_zero, List.replicate_succ', List.append_assoc]
  rfl

theorem box_at' {w w' : World} {cs : Array Value} {e : TypeId} {N : Nat} (hN : w.heap.size = N) (hb : Below (w.alloc (.cells cs e)).heap.size (w.alloc (.cells cs e)) w') (k : Nat) (u : Value) (h : cs[k]? = some u) : w'.cell? ⟨N, k, none⟩ = some u := by
  subst hN
  exact box_cell hb k u h
theorem box_free' {w w' : World} {cs : Array Value} {e : TypeId} {N : Nat} (hN : w.heap.size = N) (hb : Below (w.alloc (.cells cs e)).heap.size (w.alloc (.cells cs e)) w') (k : Nat) : w'.frozen? ⟨N, k, none⟩ = false := by
  subst hN
  exact box_free hb k

set_option maxHeartbeats 1000000 in
theorem law_sealEdges {w : World} (fill : Int) (hfill : (Lit.int .u8 fill).wf = true) (how : Int) (hhow : InI how) :
    Calls Try.prog 14 #[.int .u8 fill, .int .i64 how] w fun e w' => e = .returned (.bool true) ∧ Below w.heap.size w w' := by
  obtain ⟨x, rfl⟩ := byte_of_wf hfill
  obtain ⟨i0, hi0, hz0, hz1, hz2⟩ := info_parts u8_info
  have hx256 := x.toNat_lt
  have hmk : ∀ W, (Instr.makeSlice 31 (.int .i64 96) (.int .i64 96)).run Try.prog W = .ok (.slice (some ⟨W.heap.size, 0, none⟩) 96 96) (W.alloc (.cells (madeCells #[.int .u8 0] 96) 5)) := fun W => run_make_all (P := Try.prog) 31 5 i0 _ 1 1 Try.underlying31 hi0 hz0 hz1 hz2 .i64 .i64 96 (by omega) (by omega) W
  have h4 := u4_cases how
  have ho0 := made_zero w 5 96 (by omega)
  have H4 := hide h4
  clear h4 hfill hhow
  go_enter Try.func14, Try.ntmps14
  go_wp2_with fail
  go_loopw [6] (fun i wr => ∃ k : Nat, k ≤ 96 ∧ i = .int .i64 k ∧ Ow byteR 1 wr w.heap.size w.heap.size 5 (.slice (some ⟨w.heap.size, 0, none⟩) 96 96) 96 (List.replicate k x ++ List.replicate (96 - k) 0) ∧ Below w.heap.size w wr) (fun i _ => 96 - (intOf i).toNat)
  case atStart => exact ⟨0, by omega, rfl, ho0, alloc_below _ _⟩
  case round =>
    obtain ⟨k, hk, rfl, ho, hb⟩ := hrel
    by_cases hlt : k < 96
    · obtain ⟨g, y, u, hg0, hg, hgl, hx, hu, hcell, hfr, hst⟩ := ho.spot byteR_fine hlt
      cases hg0
      have hu' : u = .int .u8 (y.toNat : Int) := by have h : [u] = _ := hu; simpa using h
      subst hu'
      have ho2 := hst (.int .u8 (x.toNat : Int)) x rfl rfl
      rw [fill_step x k hlt] at ho2
      have hb2 : Below w.heap.size w (wr.setCell ⟨w.heap.size, k, none⟩ (.int .u8 (x.toNat : Int))) := hb.setCell hg _
      clear hst hx hu
      go_wp2_with fail
      go_roundw
      case rel => exact ⟨k + 1, by omega, by go_num, ho2, hb2⟩
      case measure => simp [intOf]; omega
    · obtain rfl : k = 96 := by omega
      rw [Nat.sub_self, List.replicate_zero, List.append_nil] at ho
      have hr := ho.read byteR_fine
      have hbl : (List.replicate 96 x).length = 96 := List.length_replicate
      go_wp2_with fail
      refine (make_ok hr 65535 4294967295 (by omega) (by omega) (by omega)).mono ?_
      rintro e w1 ⟨V1, c1, rfl, ho1, hb1⟩
      go_wp2_with fail
      refine (open_good (ho1.read byteR_fine) (by rw [hbl]; omega) (by omega) (by omega)).mono ?_
      rintro e w2 ⟨A2, c2, rfl, hs2, hb2⟩
      rw [hbl]
      have hb3 := alloc_below w2 (.cells #[.int .i64 65535, .int .i64 4294967295, .slice A2 96 c2] 62)
      rcases H4.out with h4 | h4 | h4 | h4
      · have hb4 := alloc_below (w2.alloc (.cells #[.int .i64 65535, .int .i64 4294967295, .slice A2 96 c2] 62)) (.cells #[.int .i64 65536, .int .i64 0, .slice (some ⟨w.heap.size, 0, none⟩) 96 96] 62)
        go_wp2_with fail
        refine (make_arg (65536) (0) (by omega)).mono ?_
        rintro e w5 ⟨rfl, hb5⟩
        have q0 := box_cell (th hb4 hb5) 0 _ rfl
        have q2 := box_cell (th hb4 hb5) 2 _ rfl
        go_wp2_with fail
        refine (wakes5 _).mono ?_
        rintro e w6 ⟨rfl, hb6⟩
        go_wp2_with fail
        go_ret
        exact ⟨rfl, hb.trans ((th hb1 (th hb2 (th hb3 (th hb4 (th hb5 hb6))))).mono hb.size)⟩
      · have hb4 := alloc_below (w2.alloc (.cells #[.int .i64 65535, .int .i64 4294967295, .slice A2 96 c2] 62)) (.cells #[.int .i64 0, .int .i64 4294967296, .slice (some ⟨w.heap.size, 0, none⟩) 96 96] 62)
        go_wp2_with fail
        refine (make_arg (0) (4294967296) (by omega)).mono ?_
        rintro e w5 ⟨rfl, hb5⟩
        have q0 := box_cell (th hb4 hb5) 0 _ rfl
        have q2 := box_cell (th hb4 hb5) 2 _ rfl
        go_wp2_with fail
        refine (wakes5 _).mono ?_
        rintro e w6 ⟨rfl, hb6⟩
        go_wp2_with fail
        go_ret
        exact ⟨rfl, hb.trans ((th hb1 (th hb2 (th hb3 (th hb4 (th hb5 hb6))))).mono hb.size)⟩
      · have hb4 := alloc_below (w2.alloc (.cells #[.int .i64 65535, .int .i64 4294967295, .slice A2 96 c2] 62)) (.cells #[.int .i64 (-1), .int .i64 0, .slice (some ⟨w.heap.size, 0, none⟩) 96 96] 62)
        go_wp2_with fail
        refine (make_arg (-1) 0 (by omega)).mono ?_
        rintro e w5 ⟨rfl, hb5⟩
        have q0 := box_cell (th hb4 hb5) 0 _ rfl
        have q2 := box_cell (th hb4 hb5) 2 _ rfl
        go_wp2_with fail
        refine (wakes5 _).mono ?_
        rintro e w6 ⟨rfl, hb6⟩
        go_wp2_with fail
        go_ret
        exact ⟨rfl, hb.trans ((th hb1 (th hb2 (th hb3 (th hb4 (th hb5 hb6))))).mono hb.size)⟩
      · have hb4 : Below w2.heap.size w2 (((w2.alloc (.cells #[.int .i64 65535, .int .i64 4294967295, .slice A2 96 c2] 62)).alloc (.cells #[.int .i64 0, .int .i64 0, .slice (some ⟨w.heap.size, 0, none⟩) 96 96] 62)).alloc (.cells #[.int .u8 1] 5)) := th hb3 (th (alloc_below _ _) (alloc_below _ _))
        have hbw4 := th hb1 (th hb2 hb4)
        have ho4 := ho.below byteR_fine hbw4
        have hs4 : Sl byteR 1 (((w2.alloc (.cells #[.int .i64 65535, .int .i64 4294967295, .slice A2 96 c2] 62)).alloc (.cells #[.int .i64 0, .int .i64 0, .slice (some ⟨w.heap.size, 0, none⟩) 96 96] 62)).alloc (.cells #[.int .u8 1] 5)) (fun _ => True) (some ⟨w2.heap.size + 1 + 1, 0, none⟩) 1 1 [1] := by
          have h := lit_plain (R := byteR) (w := ((w2.alloc (.cells #[.int .i64 65535, .int .i64 4294967295, .slice A2 96 c2] 62)).alloc (.cells #[.int .i64 0, .int .i64 0, .slice (some ⟨w.heap.size, 0, none⟩) 96 96] 62))) (S := fun _ => True) (u := Value.int IntKind.u8 1) (x := (1 : UInt8)) (e := 5) rfl trivial
          simpa using h
        have hwl : w.heap.size < w2.heap.size := by have := hb2.size; have := hb1.size; have := (ho.lt w.heap.size rfl).2; omega
        have hbs : w.heap.size ≤ (((w2.alloc (.cells #[.int .i64 65535, .int .i64 4294967295, .slice A2 96 c2] 62)).alloc (.cells #[.int .i64 0, .int .i64 0, .slice (some ⟨w.heap.size, 0, none⟩) 96 96] 62)).alloc (.cells #[.int .u8 1] 5)).heap.size := by simp; omega
        go_wp2_with (at_builtin; go_loud (refine wpList_append_ow _ rfl (.tmp 42) (.tmp 43) _ rfl byteR_fine w.heap.size w.heap.size 5 i0 _ 1 Try.underlying31 hi0 hz0 hz1 hz2 rfl (by omega) (.slice (some ⟨w.heap.size, 0, none⟩) 96 96) 96 _ rfl ho4 _ _ 1 1 [1] rfl hs4 (fun _ _ _ h => h) (by simp only [maxLen]; omega) (by omega) hbs ?_; intro V5 w5 ho5 hg5 hat5; obtain ⟨A5, c5, rfl⟩ := ho5.form; have hblk : ∀ b, b < (((w2.alloc (.cells #[.int .i64 65535, .int .i64 4294967295, .slice A2 96 c2] 62)).alloc (.cells #[.int .i64 0, .int .i64 0, .slice (some ⟨w.heap.size, 0, none⟩) 96 96] 62)).alloc (.cells #[.int .u8 1] 5)).heap.size → b ≠ w.heap.size → w5.heap[b]? = (((w2.alloc (.cells #[.int .i64 65535, .int .i64 4294967295, .slice A2 96 c2] 62)).alloc (.cells #[.int .i64 0, .int .i64 0, .slice (some ⟨w.heap.size, 0, none⟩) 96 96] 62)).alloc (.cells #[.int .u8 1] 5)).heap[b]? := (fun b h1 h2 => hg5.block b h1 (by simp [Value.ownBlock] <;> omega)); have hn1 : w2.heap.size + 1 < (((w2.alloc (.cells #[.int .i64 65535, .int .i64 4294967295, .slice A2 96 c2] 62)).alloc (.cells #[.int .i64 0, .int .i64 0, .slice (some ⟨w.heap.size, 0, none⟩) 96 96] 62)).alloc (.cells #[.int .u8 1] 5)).heap.size := (by simp <;> omega); have hn2 : w2.heap.size < (((w2.alloc (.cells #[.int .i64 65535, .int .i64 4294967295, .slice A2 96 c2] 62)).alloc (.cells #[.int .i64 0, .int .i64 0, .slice (some ⟨w.heap.size, 0, none⟩) 96 96] 62)).alloc (.cells #[.int .u8 1] 5)).heap.size := (by simp <;> omega); have k0 := (World.cell?_of_block (a := ⟨w2.heap.size + 1, 0, none⟩) (hblk (w2.heap.size + 1) hn1 (by omega))).trans (box_at' (w := (w2.alloc (.cells #[.int .i64 65535, .int .i64 4294967295, .slice A2 96 c2] 62))) (by simp) (alloc_below _ _) 0 _ rfl); have k1 := (World.cell?_of_block (a := ⟨w2.heap.size + 1, 1, none⟩) (hblk (w2.heap.size + 1) hn1 (by omega))).trans (box_at' (w := (w2.alloc (.cells #[.int .i64 65535, .int .i64 4294967295, .slice A2 96 c2] 62))) (by simp) (alloc_below _ _) 1 _ rfl); have k2 := (World.cell?_of_block (a := ⟨w2.heap.size + 1, 2, none⟩) (hblk (w2.heap.size + 1) hn1 (by omega))).trans (box_at' (w := (w2.alloc (.cells #[.int .i64 65535, .int .i64 4294967295, .slice A2 96 c2] 62))) (by simp) (alloc_below _ _) 2 _ rfl); have f2 := (World.frozen?_of_block (a := ⟨w2.heap.size + 1, 2, none⟩) (hblk (w2.heap.size + 1) hn1 (by omega))).trans (box_free' (w := (w2.alloc (.cells #[.int .i64 65535, .int .i64 4294967295, .slice A2 96 c2] 62))) (by simp) (alloc_below _ _) 2); have r0 := (World.cell?_of_block (a := ⟨w2.heap.size, 0, none⟩) (hblk w2.heap.size hn2 (by omega))).trans (box_at' (w := w2) rfl (th (alloc_below _ _) (alloc_below _ _)) 0 _ rfl); have r2 := (World.cell?_of_block (a := ⟨w2.heap.size, 2, none⟩) (hblk w2.heap.size hn2 (by omega))).trans (box_at' (w := w2) rfl (th (alloc_below _ _) (alloc_below _ _)) 2 _ rfl); have hbz := below_grown2 hg5 (base := w.heap.size) (by simp [Value.ownBlock]) hbs))
        have p0 : (w5.setCell ⟨w2.heap.size + 1, 2, none⟩ (.slice A5 97 c5)).cell? ⟨w2.heap.size, 0, none⟩ = some (.int .i64 65535) := (World.cell?_setCell_other _ _ _ _ (by simp)).trans r0
        have p2 : (w5.setCell ⟨w2.heap.size + 1, 2, none⟩ (.slice A5 97 c5)).cell? ⟨w2.heap.size, 2, none⟩ = some (.slice A2 96 c2) := (World.cell?_setCell_other _ _ _ _ (by simp)).trans r2
        refine (make_len 0 0 (by omega) (by omega) (by omega)).mono ?_
        rintro e w7 ⟨rfl, hb7⟩
        have hz6 : w2.heap.size < w5.heap.size := by have := hg5.size; simp at this; omega
        have q0 := (hb7.cell (p := ⟨w2.heap.size, 0, none⟩) (by simp; omega)).trans p0
        have q2 := (hb7.cell (p := ⟨w2.heap.size, 2, none⟩) (by simp; omega)).trans p2
        go_wp2_with fail
        refine (wakes5 _).mono ?_
        rintro e w6 ⟨rfl, hb6⟩
        go_wp2_with fail
        go_ret
        refine ⟨rfl, ?_⟩
        have hall := (hb.trans (hbw4.mono hb.size)).trans hbz
        have hset := hall.setCell (p := ⟨w2.heap.size + 1, 2, none⟩) (by simp; omega) (.slice A5 97 c5)
        exact hset.trans ((th hb7 hb6).mono hset.size)

end Go.Proofs.Ytnieiobpbioeiaa
