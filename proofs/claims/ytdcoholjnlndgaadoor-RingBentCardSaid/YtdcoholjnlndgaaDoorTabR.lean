/-
  Contract: casemateref08.TableBytes.
  Contract: casemateref08.TableBytes, in new memory.
-/
import Derived.Test.YtdcoholjnlndgaaDoorTabB
import Derived.Deep.RegionHeld3
import Derived.Deep.RegionLaw
import Derived.Deep.DeepCutAuto
import Derived.Test.YtdcoholjnlndgaaDoorTabF
namespace Go.Proofs.YtdcoholjnlndgaaDoor
open Go.RowKit
set_option linter.unusedVariables false
set_option maxRecDepth 100000

set_option maxHeartbeats 8000000 in
theorem rtbytes_any (A : Option Addr) (n c : Nat) (L : List Ent) (w : World) (ha : Sl entR 3 w (Old w) A n c L) (hn : n ≤ 6000) (hok : ∀ e ∈ L, EntOk e) :
    Calls Tryd.prog 21 #[.agg #[.slice A n c]] w fun e w' => ∃ V q cv, e = .returned (.slice V q cv) ∧ Bs w' V q cv (tabL L) ∧ Below w.heap.size w w' := by
  have hb0 := alloc_below w (.cells #[.slice A n c] 65)
  have bx : ∀ W, Below (w.alloc (.cells #[.slice A n c] 65)).heap.size (w.alloc (.cells #[.slice A n c] 65)) W → W.cell? ⟨w.heap.size, 0, none⟩ = some (.slice A n c) := fun W hW => box_cell hW 0 _ rfl
  have BX := hide bx
  have ha0 := ha.on entR_fine hb0
  have HOK := hide hok
  have HLEN := hide ha.len
  clear bx hok
  go_enter Tryd.func21, Tryd.ntmps21
  go_wp2_with fail
  go_loopw [3, 4] (fun v i wr => ∃ k q : Nat, ∃ V cv, k ≤ n ∧ q ≤ 9 * k ∧ i = .int .i64 k ∧ v = .slice V q cv ∧ Bs wr V q cv (tabL (L.take k)) ∧ Below (w.alloc (.cells #[.slice A n c] 65)).heap.size (w.alloc (.cells #[.slice A n c] 65)) wr) (fun _ i _ => n - (intOf i).toNat)
  case atStart => exact ⟨0, 0, none, 0, Nat.zero_le _, by omega, rfl, rfl, Sl.nil_ _, Below.refl _ _⟩
  case round =>
    obtain ⟨k, q, V, cv, hk, hqk, rfl, rfl, ho, hb⟩ := hrel
    have k1 := BX.out wr hb
    by_cases hlt : k < n
    · have har := ha0.on entR_fine hb
      obtain ⟨ad, x, rfl, hadl, hx, i1, i2, d0, d1, d2⟩ := at_ent har hlt
      obtain ⟨⟨e1, e2⟩, e3, e4⟩ := HOK.out x (List.mem_of_getElem? hx)
      obtain ⟨s, hs⟩ : ∃ s : Nat, x.stamp = (s : Int) := ⟨x.stamp.toNat, by omega⟩
      obtain ⟨u, hu⟩ : ∃ u : Nat, x.sum = (u : Int) := ⟨x.sum.toNat, by omega⟩
      have hent : entL x = le 4 s ++ le 4 u ++ le 1 (lostN x.lost) := by simp [entL, hs, hu]
      have hnx := tabL_take hx
      rw [hent] at hnx
      rw [hs] at d0 e2
      rw [hu] at d1 e4
      have HNX := hide hnx
      obtain ⟨lo, hlo⟩ : ∃ lo, lo = x.lost := ⟨_, rfl⟩
      rw [← hlo] at d2 HNX
      clear hent hnx hs hu hx i1 i2 e1 e3 hlo
      obtain ⟨W1, hW1⟩ : ∃ W1, W1 = wr.alloc (.cells #[.int .i64 s, .int .i64 u, .bool lo] 80) := ⟨_, rfl⟩
      have hE : Below wr.heap.size wr W1 := by rw [hW1]; exact alloc_below _ _
      have hk2 : ∀ W, Below W1.heap.size W1 W → W.cell? ⟨wr.heap.size, 0, none⟩ = some (.int .i64 s) ∧ W.cell? ⟨wr.heap.size, 1, none⟩ = some (.int .i64 u) ∧ W.cell? ⟨wr.heap.size, 2, none⟩ = some (.bool lo) := fun W hW => by
        subst hW1
        exact ⟨box_cell hW 0 _ rfl, box_cell hW 1 _ rfl, box_cell hW 2 _ rfl⟩
      have HK2 := hide hk2
      have hd0 : Below W1.heap.size W1 W1.drew := (Below.refl _ _).drew
      obtain ⟨T, hT⟩ : ∃ T, T = tabL (L.take k) := ⟨_, rfl⟩
      rw [← hT] at ho HNX
      have ho1 := ho.on byteR_fine (th hE hd0)
      have HP : Hid (∀ (W : World) (V' : Option Addr) (q' c' N : Nat) (T' : List UInt8), Bs W V' q' c' T' → q' ≤ 60000 → N < 9223372036854775807 → Calls Tryd.prog 33 #[.slice V' q' c', .int .i64 N, .int .i64 4] W fun e w' => ∃ V cv, e = .returned (.slice V (q' + 4) cv) ∧ Ow byteR 1 w' W.heap.size W.heap.size 5 (.slice V (q' + 4) cv) (q' + 4) (T' ++ le 4 N) ∧ Below W.heap.size W w') := fun W V' q' c' N T' h1 h2 h3 => rput_any h1 h2 N 4 (by omega) h3
      have HW1 := hide hW1
      clear hk2 hT hW1
      go_upto_region 6 with fail
      rw [← HW1.out]
      go_cut [3] (fun v wx => ∃ V3 c3, v = .slice V3 (q + 4 + 4) c3 ∧ Bs wx V3 (q + 4 + 4) c3 (T ++ le 4 s ++ le 4 u) ∧ Below W1.heap.size W1 wx)
      case first =>
        obtain ⟨g0, g1, _⟩ := HK2.out _ hd0
        go_region_law ((go_simp; go_at_call 33; go_loud (refine Calls.mono (HP.out _ _ _ _ _ _ (by first | exact hr2 | exact ho1) (by omega) (by omega)) ?_); rintro e w2 ⟨V2, c2, rfl, ho2, hb2⟩; have hz2 := th (by first | exact hz2 | exact hd0) hb2; obtain ⟨j0, j1, _⟩ := HK2.out _ hz2; have hr2 := ho2.read byteR_fine))
        all_goals (go_wp2_with fail; go_meet; exact ⟨V2, c2, rfl, hr2, hz2⟩)
      case rest =>
        obtain ⟨V3, c3, rfl, ho3, hz3⟩ := hcut
        have kk := BX.out _ (hb.trans ((th hE hz3).mono hb.size))
        obtain ⟨_, _, k3⟩ := HK2.out _ hz3
        cases lo with
        | false =>
          go_wp2_with fail
          refine (rput_any ho3 (by omega) 0 1 (by omega) (by omega)).mono ?_
          rintro e w4 ⟨V4, c4, rfl, ho4, hb4⟩
          go_wp2_with fail
          go_roundw
          case rel => exact ⟨k + 1, q + 4 + 4 + 1, V4, c4, by omega, by omega, by go_num, rfl, by rw [HNX.out]; simpa [List.append_assoc, lostN] using ho4.read byteR_fine, hb.trans ((th hE (th hz3 hb4)).mono hb.size)⟩
          case measure => simp [intOf]; omega
        | true =>
          go_wp2_with fail
          refine (rput_any ho3 (by omega) 1 1 (by omega) (by omega)).mono ?_
          rintro e w4 ⟨V4, c4, rfl, ho4, hb4⟩
          go_wp2_with fail
          go_roundw
          case rel => exact ⟨k + 1, q + 4 + 4 + 1, V4, c4, by omega, by omega, by go_num, rfl, by rw [HNX.out]; simpa [List.append_assoc, lostN] using ho4.read byteR_fine, hb.trans ((th hE (th hz3 hb4)).mono hb.size)⟩
          case measure => simp [intOf]; omega
    · obtain rfl : k = n := by omega
      have hfin : L.take k = L := List.take_of_length_le (by rw [HLEN.out]; exact Nat.le_refl _)
      rw [hfin] at ho
      clear hfin
      go_wp2_with fail
      go_ret
      exact ⟨V, q, cv, rfl, ho, th hb0 hb⟩

end Go.Proofs.YtdcoholjnlndgaaDoor

namespace Go.Proofs.YtdcoholjnlndgaaDoor
open Go.RowKit Go.Lib
set_option linter.unusedVariables false
set_option maxRecDepth 100000

set_option maxHeartbeats 8000000 in
theorem rtbytes_own (A : Option Addr) (n c : Nat) (L : List Ent) (w : World) (ha : Sl entR 3 w (Old w) A n c L) (hn : n ≤ 6000) (hok : ∀ e ∈ L, EntOk e) :
    Calls Tryd.prog 21 #[.agg #[.slice A n c]] w fun e w' => ∃ V q cv, e = .returned (.slice V q cv) ∧ Sl byteR 1 w' (New w.heap.size w') V q cv (tabL L) ∧ Below w.heap.size w w' := by
  have hb0 := alloc_below w (.cells #[.slice A n c] 65)
  have bx : ∀ W, Below (w.alloc (.cells #[.slice A n c] 65)).heap.size (w.alloc (.cells #[.slice A n c] 65)) W → W.cell? ⟨w.heap.size, 0, none⟩ = some (.slice A n c) := fun W hW => box_cell hW 0 _ rfl
  have BX := hide bx
  have ha0 := ha.on entR_fine hb0
  have HOK := hide hok
  have HLEN := hide ha.len
  clear bx hok
  go_enter Tryd.func21, Tryd.ntmps21
  go_wp2_with fail
  go_loopw [3, 4] (fun v i wr => ∃ k q : Nat, ∃ V cv, k ≤ n ∧ q ≤ 9 * k ∧ i = .int .i64 k ∧ v = .slice V q cv ∧ Sl byteR 1 wr (New w.heap.size wr) V q cv (tabL (L.take k)) ∧ Below (w.alloc (.cells #[.slice A n c] 65)).heap.size (w.alloc (.cells #[.slice A n c] 65)) wr) (fun _ i _ => n - (RowKit.intOf i).toNat)
  case atStart => exact ⟨0, 0, none, 0, Nat.zero_le _, by omega, rfl, rfl, Sl.nil_ _, Below.refl _ _⟩
  case round =>
    obtain ⟨k, q, V, cv, hk, hqk, rfl, rfl, hoN, hb⟩ := hrel
    have ho := hoN.old_ byteR_fine
    have k1 := BX.out wr hb
    by_cases hlt : k < n
    · have har := ha0.on entR_fine hb
      obtain ⟨ad, x, rfl, hadl, hx, i1, i2, d0, d1, d2⟩ := at_ent har hlt
      obtain ⟨⟨e1, e2⟩, e3, e4⟩ := HOK.out x (List.mem_of_getElem? hx)
      obtain ⟨s, hs⟩ : ∃ s : Nat, x.stamp = (s : Int) := ⟨x.stamp.toNat, by omega⟩
      obtain ⟨u, hu⟩ : ∃ u : Nat, x.sum = (u : Int) := ⟨x.sum.toNat, by omega⟩
      have hent : entL x = le 4 s ++ le 4 u ++ le 1 (lostN x.lost) := by simp [entL, hs, hu]
      have hnx := tabL_take hx
      rw [hent] at hnx
      rw [hs] at d0 e2
      rw [hu] at d1 e4
      have HNX := hide hnx
      obtain ⟨lo, hlo⟩ : ∃ lo, lo = x.lost := ⟨_, rfl⟩
      rw [← hlo] at d2 HNX
      clear hent hnx hs hu hx i1 i2 e1 e3 hlo
      obtain ⟨W1, hW1⟩ : ∃ W1, W1 = wr.alloc (.cells #[.int .i64 s, .int .i64 u, .bool lo] 80) := ⟨_, rfl⟩
      have hE : Below wr.heap.size wr W1 := by rw [hW1]; exact alloc_below _ _
      have hk2 : ∀ W, Below W1.heap.size W1 W → W.cell? ⟨wr.heap.size, 0, none⟩ = some (.int .i64 s) ∧ W.cell? ⟨wr.heap.size, 1, none⟩ = some (.int .i64 u) ∧ W.cell? ⟨wr.heap.size, 2, none⟩ = some (.bool lo) := fun W hW => by
        subst hW1
        exact ⟨box_cell hW 0 _ rfl, box_cell hW 1 _ rfl, box_cell hW 2 _ rfl⟩
      have HK2 := hide hk2
      have hd0 : Below W1.heap.size W1 W1.drew := (Below.refl _ _).drew
      obtain ⟨T, hT⟩ : ∃ T, T = tabL (L.take k) := ⟨_, rfl⟩
      rw [← hT] at ho HNX
      have ho1 := ho.on byteR_fine (th hE hd0)
      have HP : Hid (∀ (W : World) (V' : Option Addr) (q' c' N : Nat) (T' : List UInt8), Bs W V' q' c' T' → q' ≤ 60000 → N < 9223372036854775807 → Calls Tryd.prog 33 #[.slice V' q' c', .int .i64 N, .int .i64 4] W fun e w' => ∃ V cv, e = .returned (.slice V (q' + 4) cv) ∧ Ow byteR 1 w' W.heap.size W.heap.size 5 (.slice V (q' + 4) cv) (q' + 4) (T' ++ le 4 N) ∧ Below W.heap.size W w') := fun W V' q' c' N T' h1 h2 h3 => rput_any h1 h2 N 4 (by omega) h3
      have HW1 := hide hW1
      clear hk2 hT hW1
      go_upto_region 6 with fail
      rw [← HW1.out]
      go_cut [3] (fun v wx => ∃ V3 c3, v = .slice V3 (q + 4 + 4) c3 ∧ Bs wx V3 (q + 4 + 4) c3 (T ++ le 4 s ++ le 4 u) ∧ Below W1.heap.size W1 wx)
      case first =>
        obtain ⟨g0, g1, _⟩ := HK2.out _ hd0
        go_region_law ((go_simp; go_at_call 33; go_loud (refine Calls.mono (HP.out _ _ _ _ _ _ (by first | exact hr2 | exact ho1) (by omega) (by omega)) ?_); rintro e w2 ⟨V2, c2, rfl, ho2, hb2⟩; have hz2 := th (by first | exact hz2 | exact hd0) hb2; obtain ⟨j0, j1, _⟩ := HK2.out _ hz2; have hr2 := ho2.read byteR_fine))
        all_goals (go_wp2_with fail; go_meet; exact ⟨V2, c2, rfl, hr2, hz2⟩)
      case rest =>
        obtain ⟨V3, c3, rfl, ho3, hz3⟩ := hcut
        have kk := BX.out _ (hb.trans ((th hE hz3).mono hb.size))
        obtain ⟨_, _, k3⟩ := HK2.out _ hz3
        cases lo with
        | false =>
          go_wp2_with fail
          refine (rput_any ho3 (by omega) 0 1 (by omega) (by omega)).mono ?_
          rintro e w4 ⟨V4, c4, rfl, ho4, hb4⟩
          go_wp2_with fail
          go_roundw
          case rel => exact ⟨k + 1, q + 4 + 4 + 1, V4, c4, by omega, by omega, by go_num, rfl, by rw [HNX.out]; simpa [List.append_assoc, lostN] using ho4.new_ byteR_fine (B := w.heap.size) (by have h1 := hb0.size; have h2 := hb.size; have h3 := hE.size; have h4 := hz3.size; omega) (by have h1 := hb0.size; have h2 := hb.size; have h3 := hE.size; have h4 := hz3.size; omega), hb.trans ((th hE (th hz3 hb4)).mono hb.size)⟩
          case measure => simp [RowKit.intOf]; omega
        | true =>
          go_wp2_with fail
          refine (rput_any ho3 (by omega) 1 1 (by omega) (by omega)).mono ?_
          rintro e w4 ⟨V4, c4, rfl, ho4, hb4⟩
          go_wp2_with fail
          go_roundw
          case rel => exact ⟨k + 1, q + 4 + 4 + 1, V4, c4, by omega, by omega, by go_num, rfl, by rw [HNX.out]; simpa [List.append_assoc, lostN] using ho4.new_ byteR_fine (B := w.heap.size) (by have h1 := hb0.size; have h2 := hb.size; have h3 := hE.size; have h4 := hz3.size; omega) (by have h1 := hb0.size; have h2 := hb.size; have h3 := hE.size; have h4 := hz3.size; omega), hb.trans ((th hE (th hz3 hb4)).mono hb.size)⟩
          case measure => simp [RowKit.intOf]; omega
    · obtain rfl : k = n := by omega
      have hfin : L.take k = L := List.take_of_length_le (by rw [HLEN.out]; exact Nat.le_refl _)
      rw [hfin] at hoN
      clear hfin
      go_wp2_with fail
      go_ret
      exact ⟨V, q, cv, rfl, hoN, th hb0 hb⟩

end Go.Proofs.YtdcoholjnlndgaaDoor
