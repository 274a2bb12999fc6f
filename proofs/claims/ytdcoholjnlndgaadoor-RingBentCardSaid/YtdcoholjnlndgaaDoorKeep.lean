/-
  Contracts: casematekeep.Twin, bytes.Clone, casematekeep.Bytes, TwinRows, Rows.
-/
import Derived.Test.YtdcoholjnlndgaaDoorProg
import Derived.Test.YtdcoholjnlndgaaDoorWords
import Derived.WalkSpells
import Derived.WalkLawsBesides
import Derived.Deep.QuietTactic
import Derived.BigQuiet
namespace Go.Proofs.YtdcoholjnlndgaaDoor
open Go.RowKit

theorem u8_info : (Tryd.prog.info? 5).map (fun i => (i.zero, i.size, i.bytes)) = some (some (.int .u8 0), 1, 1) := by kernel_rfl
theorem row_info : (Tryd.prog.info? 54).map (fun i => (i.zero, i.size, i.bytes)) = some (some (.slice none 0 0), 1, 24) := by kernel_rfl

set_option maxHeartbeats 400000 in
theorem twin_any (A : Option Addr) (n c : Nat) (l : List UInt8) (w : World) (ha : Bs w A n c l) (hn : n ≤ 65536) :
    Calls Tryd.prog 46 #[.slice A n c] w fun e w' => ∃ A' c', e = .returned (.slice A' n c') ∧ Ow byteR 1 w' w.heap.size w.heap.size 5 (.slice A' n c') n l ∧ Below w.heap.size w w' := by
  obtain ⟨i0, hi0, hz0, hz1, hz2⟩ := info_parts u8_info
  go_enter Tryd.func46, Tryd.ntmps46
  go_wp2_with (at_builtin; refine wpList_append_ow _ rfl (.tmp 4) (.tmp 5) _ rfl byteR_fine w.heap.size w.heap.size 5 i0 _ 1 Tryd.underlying54 hi0 hz0 hz1 hz2 rfl (by omega) (.slice none 0 0) 0 [] rfl (Ow.nil_ _ _ _ _) (Old w) A n c l rfl ha (fun _ _ _ h => h) (by simp only [maxLen]; omega) (by omega) (Nat.le_refl _) ?_; intro v1 w1 hown1 hg1 hat1)
  go_ret
  rw [Nat.zero_add, List.nil_append] at hown1
  obtain ⟨A', c', rfl⟩ := hown1.form
  exact ⟨A', c', rfl, hown1, below_grown hg1 (by simp [Value.ownBlock]) (Nat.le_refl _)⟩

theorem sl_none {α : Type} {R : Rp α} {s : Nat} {w : World} {S : Nat → Prop} {n c : Nat} {L : List α} (h : Sl R s w S none n c L) : n = 0 ∧ L = [] := by
  have h0 : n = 0 := by
    rcases Nat.eq_zero_or_pos n with h0 | h0
    · exact h0
    · obtain ⟨_, h, _⟩ := h.at0 h0
      cases h
  subst h0
  exact ⟨rfl, List.eq_nil_of_length_eq_zero h.len⟩

set_option maxHeartbeats 400000 in
theorem clone_any (A : Option Addr) (n c : Nat) (l : List UInt8) (w : World) (ha : Bs w A n c l) (hn : n ≤ 65536) :
    Calls Tryd.prog 60 #[.slice A n c] w fun e w' => ∃ A' c', e = .returned (.slice A' n c') ∧ Ow byteR 1 w' w.heap.size w.heap.size 5 (.slice A' n c') n l ∧ Below w.heap.size w w' := by
  obtain ⟨i0, hi0, hz0, hz1, hz2⟩ := info_parts u8_info
  have heq := fun W => Lib.run_eql_slice_nil (P := Tryd.prog) W 54 5 A n c 0 0 Tryd.underlying54
  cases A with
  | none =>
    obtain ⟨rfl, rfl⟩ := sl_none ha
    go_enter Tryd.func60, Tryd.ntmps60
    go_wp2
    go_ret
    exact ⟨none, 0, rfl, Ow.nil_ _ _ _ _, Below.refl _ _⟩
  | some ad =>
    have hb0 : Below w.heap.size w (w.alloc (.cells #[] 5)) := (Below.refl _ _).alloc (Nat.le_refl _) _
    have ho0 : Ow byteR 1 (w.alloc (.cells #[] 5)) w.heap.size w.heap.size 5 (.slice (some ⟨w.heap.size, 0, none⟩) 0 0) 0 [] := Ow.made w #[] (by simp) (by simp) rfl (by simp) (fun i x hx => by simp at hx) byteR_fine
    have ha0 := ha.on byteR_fine hb0
    go_enter Tryd.func60, Tryd.ntmps60
    go_wp2_with (at_builtin; go_loud (refine wpList_append_ow _ rfl (.tmp 5) (.tmp 6) _ rfl byteR_fine w.heap.size w.heap.size 5 i0 _ 1 Tryd.underlying54 hi0 hz0 hz1 hz2 rfl (by omega) (.slice (some ⟨w.heap.size, 0, none⟩) 0 0) 0 [] rfl ho0 _ (some ad) n c l rfl ha0 (fun _ _ _ h => h) (by simp only [maxLen]; omega) (by omega) hb0.size ?_); intro v1 w1 hown1 hg1 hat1)
    go_ret
    rw [Nat.zero_add, List.nil_append] at hown1
    obtain ⟨A', c', rfl⟩ := hown1.form
    exact ⟨A', c', rfl, hown1, hb0.trans (below_grown hg1 ho0.lt hb0.size)⟩

theorem u8_ne_true {a b : UInt8} (h : a ≠ b) : ((a.toNat : Int) != (b.toNat : Int)) = true := by
  have : a.toNat ≠ b.toNat := fun e => h (UInt8.toNat_inj.1 e)
  simp; omega
theorem u8_ne_false {a b : UInt8} (h : a = b) : ((a.toNat : Int) != (b.toNat : Int)) = false := by subst h; simp

theorem take_eq_step {α : Type} {xs ys : List α} {k : Nat} (hx : k < xs.length) (hy : k < ys.length) (h : xs.take k = ys.take k) (e : xs[k] = ys[k]) : xs.take (k + 1) = ys.take (k + 1) := by
  rw [List.take_succ_eq_append_getElem hx, List.take_succ_eq_append_getElem hy, h, e]

end Go.Proofs.YtdcoholjnlndgaaDoor
