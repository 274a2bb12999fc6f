/-
  Contracts: casematekeep.Twin, bytes.Clone, casematekeep.Bytes, TwinRows, Rows.
-/
import Derived.Test.YtamgpbkakmffiaaDoorProg
import Derived.Test.YtamgpbkakmffiaaDoorWords
import Derived.WalkSpells
import Derived.WalkLawsBesides
import Derived.Deep.QuietTactic
import Derived.BigQuiet
namespace Go.Proofs.YtamgpbkakmffiaaDoor
open Go.RowKit

theorem u8_info : (Tryd.prog.info? 5).map (fun i => (i.zero, i.size, i.bytes)) = some (some (.int .u8 0), 1, 1) := by kernel_rfl
theorem row_info : (Tryd.prog.info? 58).map (fun i => (i.zero, i.size, i.bytes)) = some (some (.slice none 0 0), 1, 24) := by kernel_rfl

set_option maxHeartbeats 400000 in
theorem twin_any (A : Option Addr) (n c : Nat) (l : List UInt8) (w : World) (ha : Bs w A n c l) (hn : n ≤ 65536) :
    Calls Tryd.prog 42 #[.slice A n c] w fun e w' => ∃ A' c', e = .returned (.slice A' n c') ∧ Ow byteR 1 w' w.heap.size w.heap.size 5 (.slice A' n c') n l ∧ Below w.heap.size w w' := by
  obtain ⟨i0, hi0, hz0, hz1, hz2⟩ := info_parts u8_info
  go_enter Tryd.func42, Tryd.ntmps42
  go_wp2_with (at_builtin; refine wpList_append_ow _ rfl (.tmp 4) (.tmp 5) _ rfl byteR_fine w.heap.size w.heap.size 5 i0 _ 1 Tryd.underlying58 hi0 hz0 hz1 hz2 rfl (by omega) (.slice none 0 0) 0 [] rfl (Ow.nil_ _ _ _ _) (Old w) A n c l rfl ha (fun _ _ _ h => h) (by simp only [maxLen]; omega) (by omega) (Nat.le_refl _) ?_; intro v1 w1 hown1 hg1 hat1)
  go_ret
  rw [Nat.zero_add, List.nil_append] at hown1
  obtain ⟨A', c', rfl⟩ := hown1.form
  exact ⟨A', c', rfl, hown1, below_grown hg1 (by simp [Value.ownBlock]) (Nat.le_refl _)⟩

theorem sl_none {α : Type} {R : Rp α} {s : Nat} {w : World} {S : Nat → Prop} {n c : Nat} {L : List α} (h : Sl R s w S none n c L) : n = 0 ∧ L = [] := by
  have h0 : n = 0 := by
    rcases Nat.eq_zero_or_pos n with h0 | h0
    · exact h0
    · obtain ⟨_, h, _⟩ := h.at0 h0
      cases h
  subst h0
  exact ⟨rfl, List.eq_nil_of_length_eq_zero h.len⟩

set_option maxHeartbeats 400000 in
theorem clone_any (A : Option Addr) (n c : Nat) (l : List UInt8) (w : World) (ha : Bs w A n c l) (hn : n ≤ 65536) :
    Calls Tryd.prog 103 #[.slice A n c] w fun e w' => ∃ A' c', e = .returned (.slice A' n c') ∧ Ow byteR 1 w' w.heap.size w.heap.size 5 (.slice A' n c') n l ∧ Below w.heap.size w w' := by
  obtain ⟨i0, hi0, hz0, hz1, hz2⟩ := info_parts u8_info
  have heq := fun W => Lib.run_eql_slice_nil (P := Tryd.prog) W 58 5 A n c 0 0 Tryd.underlying58
  cases A with
  | none =>
    obtain ⟨rfl, rfl⟩ := sl_none ha
    go_enter Tryd.func103, Tryd.ntmps103
    go_wp2
    go_ret
    exact ⟨none, 0, rfl, Ow.nil_ _ _ _ _, Below.refl _ _⟩
  | some ad =>
    have hb0 : Below w.heap.size w (w.alloc (.cells #[] 5)) := (Below.refl _ _).alloc (Nat.le_refl _) _
    have ho0 : Ow byteR 1 (w.alloc (.cells #[] 5)) w.heap.size w.heap.size 5 (.slice (some ⟨w.heap.size, 0, none⟩) 0 0) 0 [] := Ow.made w #[] (by simp) (by simp) rfl (by simp) (fun i x hx => by simp at hx) byteR_fine
    have ha0 := ha.on byteR_fine hb0
    go_enter Tryd.func103, Tryd.ntmps103
    go_wp2_with (at_builtin; go_loud (refine wpList_append_ow _ rfl (.tmp 5) (.tmp 6) _ rfl byteR_fine w.heap.size w.heap.size 5 i0 _ 1 Tryd.underlying58 hi0 hz0 hz1 hz2 rfl (by omega) (.slice (some ⟨w.heap.size, 0, none⟩) 0 0) 0 [] rfl ho0 _ (some ad) n c l rfl ha0 (fun _ _ _ h => h) (by simp only [maxLen]; omega) (by omega) hb0.size ?_); intro v1 w1 hown1 hg1 hat1)
    go_ret
    rw [Nat.zero_add, List.nil_append] at hown1
    obtain ⟨A', c', rfl⟩ := hown1.form
    exact ⟨A', c', rfl, hown1, hb0.trans (below_grown hg1 ho0.lt hb0.size)⟩

theorem u8_ne_true {a b : UInt8} (h : a ≠ b) : ((a.toNat : Int) != (b.toNat : Int)) = true := by
  have : a.toNat ≠ b.toNat := fun e => h (UInt8.toNat_inj.1 e)
  simp; omega
theorem u8_ne_false {a b : UInt8} (h : a = b) : ((a.toNat : Int) != (b.toNat : Int)) = false := by subst h; simp

theorem take_eq_step {α : Type} {xs ys : List α} {k : Nat} (hx : k < xs.length) (hy : k < ys.length) (h : xs.take k = ys.take k) (e : xs[k] = ys[k]) : xs.take (k + 1) = ys.take (k + 1) := by
  rw [List.take_succ_eq_append_getElem hx, List.take_succ_eq_append_getElem hy, h, e]

set_option maxHeartbeats 400000 in
theorem bytes_any (A B : Option Addr) (n c m d : Nat) (xs ys : List UInt8) (w : World) (ha : Bs w A n c xs) (hb : Bs w B m d ys) (hn : n ≤ 65536) :
    Calls Tryd.prog 40 #[.slice A n c, .slice B m d] w fun e w' => e = .returned (.bool (decide (xs = ys))) ∧ ∃ q, w' = w.drewN q := by
  have hla := ha.len
  have hlb := hb.len
  by_cases hnm : n = m
  · subst hnm
    have HA := hide hla
    have HB := hide hlb
    clear hla hlb
    go_enter Tryd.func40, Tryd.ntmps40
    go_wp2
    go_loopw [5] (fun i wr => ∃ k q : Nat, k ≤ n ∧ i = .int .i64 k ∧ xs.take k = ys.take k ∧ wr = w.drewN q) (fun i _ => n - (intOf i).toNat)
    case atStart => exact ⟨0, 0, Nat.zero_le _, rfl, rfl, rfl⟩
    case round =>
      obtain ⟨k, q, hk, rfl, ht, rfl⟩ := hrel
      have HT := hide ht
      clear ht
      by_cases hlt : k < n
      · obtain ⟨ad, x, rfl, _, hx, hxc⟩ := at_byte ha hlt
        obtain ⟨bd, y, rfl, _, hy, hyc⟩ := at_byte hb hlt
        have HX := hide hx
        have HY := hide hy
        clear hx hy
        by_cases hxy : x = y
        · have h1 := u8_ne_false hxy
          have HXY := hide hxy
          clear hxy
          go_wp2
          go_quiet (fail)
          go_wp2
          have hnext : xs.take (k + 1) = ys.take (k + 1) := by
            obtain ⟨h1, e1⟩ := List.getElem?_eq_some_iff.1 HX.out
            obtain ⟨h2, e2⟩ := List.getElem?_eq_some_iff.1 HY.out
            exact take_eq_step h1 h2 HT.out (by rw [e1, e2]; exact HXY.out)
          go_roundw
          case rel => exact ⟨k + 1, _, by omega, by go_num, hnext, rfl⟩
          case measure => simp [intOf]; omega
        · have h1 := u8_ne_true hxy
          have HXY := hide hxy
          clear hxy
          go_wp2
          go_quiet (fail)
          go_wp2
          go_ret
          refine ⟨?_, _, World.drewN_drewN _ _ _⟩
          have hne : xs ≠ ys := by
            rintro rfl
            have h := HX.out.symm.trans HY.out
            injection h with h
            exact HXY.out h
          simp [hne]
      · go_wp2
        go_ret
        refine ⟨?_, _, rfl⟩
        have h := HT.out
        rw [List.take_of_length_le (by rw [HA.out]; omega), List.take_of_length_le (by rw [HB.out]; omega)] at h
        simp [h]
  · go_enter Tryd.func40, Tryd.ntmps40
    go_wp2
    go_ret
    refine ⟨?_, 0, rfl⟩
    have : xs ≠ ys := by rintro rfl; exact hnm (hla.symm.trans hlb)
    simp [this]

/-- Two that are alike. -/
theorem bytes_same {A B : Option Addr} {n c m d : Nat} (xs : List UInt8) {w : World} (ha : Bs w A n c xs) (hb : Bs w B m d xs) (hn : n ≤ 65536) :
    Calls Tryd.prog 40 #[.slice A n c, .slice B m d] w fun e w' => e = .returned (.bool true) ∧ Below w.heap.size w w' :=
  (bytes_any A B n c m d xs xs w ha hb hn).mono fun e w' ⟨he, q, hq⟩ => ⟨by simpa using he, by rw [hq]; exact drewN_below w q⟩

end Go.Proofs.YtamgpbkakmffiaaDoor
