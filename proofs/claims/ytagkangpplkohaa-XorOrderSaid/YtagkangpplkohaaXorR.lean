/-
  Contract: xor.Rest.
-/
import Derived.Test.YtagkangpplkohaaXor
namespace Go.Proofs.Ytagkangpplkohaa
open Go.RowKit
set_option linter.unusedVariables false

/-- The rows of a list but one. -/
theorem but_step {α : Type} {L : List α} {k miss : Nat} {x : α} (h : L[k]? = some x) (hne : k ≠ miss) : (L.take (k + 1)).eraseIdx miss = (L.take k).eraseIdx miss ++ [x] := by
  obtain ⟨h1, e1⟩ := List.getElem?_eq_some_iff.1 h
  have hl : (L.take k).length = k := by rw [List.length_take]; omega
  rw [List.take_succ_eq_append_getElem h1, e1]
  by_cases hlt : miss < k
  · rw [List.eraseIdx_append_of_lt_length (by omega)]
  · rw [List.eraseIdx_of_length_le (by simp; omega), List.eraseIdx_of_length_le (by omega)]
theorem but_miss {α : Type} {L : List α} {k : Nat} {x : α} (h : L[k]? = some x) : (L.take (k + 1)).eraseIdx k = (L.take k).eraseIdx k := by
  obtain ⟨h1, e1⟩ := List.getElem?_eq_some_iff.1 h
  have hl : (L.take k).length = k := by rw [List.length_take]; omega
  rw [List.take_succ_eq_append_getElem h1, e1, List.eraseIdx_append_of_length_le (by omega), show (L.take k).eraseIdx k = L.take k from List.eraseIdx_of_length_le (by omega), hl]
  simp
theorem zxs_snoc (o : List UInt8) (L : List (List UInt8)) (x : List UInt8) : zxs o (L ++ [x]) = zx (zxs o L) x := by simp [zxs]

def AllBut (L : List (List UInt8)) (miss n : Nat) : Prop := ∀ (i : Nat) (l : List UInt8), L[i]? = some l → i ≠ miss → l.length = n
def RestPost (w : World) (L : List (List UInt8)) (miss n : Nat) (p : List UInt8) (e : Ending) (w' : World) : Prop :=
  Below w.heap.size w w' ∧
  ((AllBut L miss n ∧ ∃ V cv, e = .returned (.tuple #[.slice V n cv, .int .i64 0]) ∧ Ow byteR 1 w' w.heap.size w.heap.size 5 (.slice V n cv) n (zxs p (L.eraseIdx miss))) ∨
   (¬ AllBut L miss n ∧ e = .returned (.tuple #[.slice none 0 0, .int .i64 2])))

set_option maxHeartbeats 400000 in
theorem rest_any (A B : Option Addr) (n c m d miss : Nat) (L : List (List UInt8)) (p : List UInt8) (w : World) (ha : Rs w A m d L) (hp : Bs w B n c p) (hm : m ≤ 65536) (hn : n ≤ 65536) (hmiss : miss < m) :
    Calls Try.prog 20 #[.slice A m d, .int .i64 miss, .slice B n c] w (RestPost w L miss n p) := by
  go_enter Try.func20, Try.ntmps20
  go_wp2_with (go_at_call 41; refine (clone_any _ _ _ p _ hp hn).mono ?_; rintro e w1 ⟨V, cv, rfl, ho1, hb1⟩)
  go_loopw [23] (fun i wr => ∃ k : Nat, k ≤ m ∧ i = .int .i64 k ∧ Ow byteR 1 wr w.heap.size w.heap.size 5 (.slice V n cv) n (zxs p ((L.take k).eraseIdx miss)) ∧ Below w.heap.size w wr ∧ Hid (∀ (i : Nat) (l : List UInt8), i < k → L[i]? = some l → i ≠ miss → l.length = n)) (fun i _ => m - (intOf i).toNat)
  case atStart => exact ⟨0, Nat.zero_le _, rfl, by simpa [zxs] using ho1, hb1, fun i l hi => absurd hi (by omega)⟩
  case round =>
    obtain ⟨k, hk, rfl, ho, hb, hg⟩ := hrel
    by_cases hlt : k < m
    · have har : Sl (slR byteR 1) 1 wr (Old w) A m d L := ha.move bytesR_fine (fun b hb' => hb.block b hb') (fun _ h => h)
      obtain ⟨ad, l, A1, n1, c1, rfl, _, hx, hs, hcell⟩ := at_row har hlt
      have hl := hs.len
      by_cases hkm : k = miss
      · subst hkm
        have hb1 : (((k : Int)) == (k : Int)) = true := by simp
        have hnext := but_miss hx
        rw [← hnext] at ho
        have hg' : Hid (∀ (i : Nat) (l : List UInt8), i < k + 1 → L[i]? = some l → i ≠ k → l.length = n) := fun i l hi hx hne => hg i l (by omega) hx hne
        clear hx hl hnext
        go_wp2
        go_roundw
        case rel => exact ⟨k + 1, by omega, by go_num, ho, hb, hg'⟩
        case measure => simp [intOf]; omega
      · have hb1 : ((k : Int) == (miss : Int)) = false := by simp; omega
        by_cases hln : n1 = n
        · subst hln
          have hnext := but_step (miss := miss) hx hkm
          have hg' : Hid (∀ (i : Nat) (l : List UInt8), i < k + 1 → L[i]? = some l → i ≠ miss → l.length = n1) := by
            intro i l' hi hx' hne
            by_cases hik : i = k
            · subst hik
              rw [hx] at hx'
              injection hx' with hx'
              rw [← hx']
              exact hl
            · exact hg i l' (by omega) hx' hne
          have HN := hide hnext
          clear hx hnext hl
          go_wp2_with (go_at_call 42; refine (into_any _ _ _ _ _ _ _ _ _ l _ (Old w) rfl ho hs (fun _ h => h) (by omega)).mono ?_; rintro e w2 ⟨rfl, ho2, hb2⟩)
          rw [← zxs_snoc, ← HN.out] at ho2
          go_roundw
          case rel => exact ⟨k + 1, by omega, by go_num, ho2, hb.trans hb2, hg'⟩
          case measure => simp [intOf]; omega
        · have hb2 : ((n1 : Int) != (n : Int)) = true := by simp; omega
          have hbad : ¬ AllBut L miss n := fun hall => hln (by rw [← hl]; exact hall k l hx hkm)
          have HB := hide hbad
          clear hbad hx hl
          go_wp2
          go_ret2
          exact ⟨hb, .inr ⟨HB.out, rfl⟩⟩
    · go_wp2
      go_ret2
      rw [List.take_of_length_le (by rw [ha.len]; omega)] at ho
      refine ⟨hb, .inl ⟨fun i l hx hne => hg.out i l ?_ hx hne, _, _, rfl, ho⟩⟩
      have := (List.getElem?_eq_some_iff.1 hx).1
      rw [ha.len] at this
      omega

set_option maxHeartbeats 400000 in
theorem rest_place (A B : Option Addr) (n c m d : Nat) (miss : Int) (w : World) (h : miss < 0 ∨ (m : Int) ≤ miss) :
    Calls Try.prog 20 #[.slice A m d, .int .i64 miss, .slice B n c] w fun e w' => e = .returned (.tuple #[.slice none 0 0, .int .i64 9]) ∧ w = w' := by
  rcases h with h | h
  · go_enter Try.func20, Try.ntmps20
    go_wp2
    go_ret2
    exact ⟨rfl, rfl⟩
  · have h0 : ¬ miss < 0 := by omega
    go_enter Try.func20, Try.ntmps20
    go_wp2
    go_ret2
    exact ⟨rfl, rfl⟩

end Go.Proofs.Ytagkangpplkohaa
