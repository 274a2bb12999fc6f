/-
  Contracts: casematekeep.Twin, bytes.Clone, casematekeep.Bytes, TwinRows, Rows.
-/
import Derived.Test.YtikjhcfalofgaaaProg
import Derived.Test.YtikjhcfalofgaaaWords
import Derived.WalkSpells
import Derived.WalkLawsBesides
import Derived.Deep.QuietTactic
import Derived.BigQuiet
namespace Go.Proofs.Ytikjhcfalofgaaa
open Go.RowKit

theorem u8_info : (Try.prog.info? 5).map (fun i => (i.zero, i.size, i.bytes)) = some (some (.int .u8 0), 1, 1) := by kernel_rfl
theorem row_info : (Try.prog.info? 29).map (fun i => (i.zero, i.size, i.bytes)) = some (some (.slice none 0 0), 1, 24) := by kernel_rfl

set_option maxHeartbeats 400000 in
theorem twin_any (A : Option Addr) (n c : Nat) (l : List UInt8) (w : World) (ha : Bs w A n c l) (hn : n ≤ 65536) :
    Calls Try.prog 30 #[.slice A n c] w fun e w' => ∃ A' c', e = .returned (.slice A' n c') ∧ Ow byteR 1 w' w.heap.size w.heap.size 5 (.slice A' n c') n l ∧ Below w.heap.size w w' := by
  obtain ⟨i0, hi0, hz0, hz1, hz2⟩ := info_parts u8_info
  go_enter Try.func30, Try.ntmps30
  go_wp2_with (at_builtin; refine wpList_append_ow _ rfl (.tmp 4) (.tmp 5) _ rfl byteR_fine w.heap.size w.heap.size 5 i0 _ 1 Try.underlying29 hi0 hz0 hz1 hz2 rfl (by omega) (.slice none 0 0) 0 [] rfl (Ow.nil_ _ _ _ _) (Old w) A n c l rfl ha (fun _ _ _ h => h) (by simp only [maxLen]; omega) (by omega) (Nat.le_refl _) ?_; intro v1 w1 hown1 hg1 hat1)
  go_ret
  rw [Nat.zero_add, List.nil_append] at hown1
  obtain ⟨A', c', rfl⟩ := hown1.form
  exact ⟨A', c', rfl, hown1, below_grown hg1 (by simp [Value.ownBlock]) (Nat.le_refl _)⟩

theorem sl_none {α : Type} {R : Rp α} {s : Nat} {w : World} {S : Nat → Prop} {n c : Nat} {L : List α} (h : Sl R s w S none n c L) : n = 0 ∧ L = [] := by
  have h0 : n = 0 := by
    rcases Nat.eq_zero_or_pos n with h0 | h0
    · exact h0
    · obtain ⟨_, h, _⟩ := h.at0 h0
      cases h
  subst h0
  exact ⟨rfl, List.eq_nil_of_length_eq_zero h.len⟩

set_option maxHeartbeats 400000 in
theorem clone_any (A : Option Addr) (n c : Nat) (l : List UInt8) (w : World) (ha : Bs w A n c l) (hn : n ≤ 65536) :
    Calls Try.prog 38 #[.slice A n c] w fun e w' => ∃ A' c', e = .returned (.slice A' n c') ∧ Ow byteR 1 w' w.heap.size w.heap.size 5 (.slice A' n c') n l ∧ Below w.heap.size w w' := by
  obtain ⟨i0, hi0, hz0, hz1, hz2⟩ := info_parts u8_info
  have heq := fun W => Lib.run_eql_slice_nil (P := Try.prog) W 29 5 A n c 0 0 Try.underlying29
  cases A with
  | none =>
    obtain ⟨rfl, rfl⟩ := sl_none ha
    go_enter Try.func38, Try.ntmps38
    go_wp2
    go_ret
    exact ⟨none, 0, rfl, Ow.nil_ _ _ _ _, Below.refl _ _⟩
  | some ad =>
    have hb0 : Below w.heap.size w (w.alloc (.cells #[] 5)) := (Below.refl _ _).alloc (Nat.le_refl _) _
    have ho0 : Ow byteR 1 (w.alloc (.cells #[] 5)) w.heap.size w.heap.size 5 (.slice (some ⟨w.heap.size, 0, none⟩) 0 0) 0 [] := Ow.made w #[] (by simp) (by simp) rfl (by simp) (fun i x hx => by simp at hx) byteR_fine
    have ha0 := ha.on byteR_fine hb0
    go_enter Try.func38, Try.ntmps38
    go_wp2_with (at_builtin; go_loud (refine wpList_append_ow _ rfl (.tmp 5) (.tmp 6) _ rfl byteR_fine w.heap.size w.heap.size 5 i0 _ 1 Try.underlying29 hi0 hz0 hz1 hz2 rfl (by omega) (.slice (some ⟨w.heap.size, 0, none⟩) 0 0) 0 [] rfl ho0 _ (some ad) n c l rfl ha0 (fun _ _ _ h => h) (by simp only [maxLen]; omega) (by omega) hb0.size ?_); intro v1 w1 hown1 hg1 hat1)
    go_ret
    rw [Nat.zero_add, List.nil_append] at hown1
    obtain ⟨A', c', rfl⟩ := hown1.form
    exact ⟨A', c', rfl, hown1, hb0.trans (below_grown hg1 ho0.lt hb0.size)⟩

theorem u8_ne_true {a b : UInt8} (h : a ≠ b) : ((a.toNat : Int) != (b.toNat : Int)) = true := by
  have : a.toNat ≠ b.toNat := fun e => h (UInt8.toNat_inj.1 e)
  simp; omega
theorem u8_ne_false {a b : UInt8} (h : a = b) : ((a.toNat : Int) != (b.toNat : Int)) = false := by subst h; simp

theorem take_eq_step {α : Type} {xs ys : List α} {k : Nat} (hx : k < xs.length) (hy : k < ys.length) (h : xs.take k = ys.take k) (e : xs[k] = ys[k]) : xs.take (k + 1) = ys.take (k + 1) := by
  rw [List.take_succ_eq_append_getElem hx, List.take_succ_eq_append_getElem hy, h, e]

set_option maxHeartbeats 400000 in
theorem bytes_any (A B : Option Addr) (n c m d : Nat) (xs ys : List UInt8) (w : World) (ha : Bs w A n c xs) (hb : Bs w B m d ys) (hn : n ≤ 65536) :
    Calls Try.prog 24 #[.slice A n c, .slice B m d] w fun e w' => e = .returned (.bool (decide (xs = ys))) ∧ ∃ q, w' = w.drewN q := by
  have hla := ha.len
  have hlb := hb.len
  by_cases hnm : n = m
  · subst hnm
    have HA := hide hla
    have HB := hide hlb
    clear hla hlb
    go_enter Try.func24, Try.ntmps24
    go_wp2
    go_loopw [5] (fun i wr => ∃ k q : Nat, k ≤ n ∧ i = .int .i64 k ∧ xs.take k = ys.take k ∧ wr = w.drewN q) (fun i _ => n - (intOf i).toNat)
    case atStart => exact ⟨0, 0, Nat.zero_le _, rfl, rfl, rfl⟩
    case round =>
      obtain ⟨k, q, hk, rfl, ht, rfl⟩ := hrel
      have HT := hide ht
      clear ht
      by_cases hlt : k < n
      · obtain ⟨ad, x, rfl, _, hx, hxc⟩ := at_byte ha hlt
        obtain ⟨bd, y, rfl, _, hy, hyc⟩ := at_byte hb hlt
        have HX := hide hx
        have HY := hide hy
        clear hx hy
        by_cases hxy : x = y
        · have h1 := u8_ne_false hxy
          have HXY := hide hxy
          clear hxy
          go_wp2
          go_quiet (fail)
          go_wp2
          have hnext : xs.take (k + 1) = ys.take (k + 1) := by
            obtain ⟨h1, e1⟩ := List.getElem?_eq_some_iff.1 HX.out
            obtain ⟨h2, e2⟩ := List.getElem?_eq_some_iff.1 HY.out
            exact take_eq_step h1 h2 HT.out (by rw [e1, e2]; exact HXY.out)
          go_roundw
          case rel => exact ⟨k + 1, _, by omega, by go_num, hnext, rfl⟩
          case measure => simp [intOf]; omega
        · have h1 := u8_ne_true hxy
          have HXY := hide hxy
          clear hxy
          go_wp2
          go_quiet (fail)
          go_wp2
          go_ret
          refine ⟨?_, _, World.drewN_drewN _ _ _⟩
          have hne : xs ≠ ys := by
            rintro rfl
            have h := HX.out.symm.trans HY.out
            injection h with h
            exact HXY.out h
          simp [hne]
      · go_wp2
        go_ret
        refine ⟨?_, _, rfl⟩
        have h := HT.out
        rw [List.take_of_length_le (by rw [HA.out]; omega), List.take_of_length_le (by rw [HB.out]; omega)] at h
        simp [h]
  · go_enter Try.func24, Try.ntmps24
    go_wp2
    go_ret
    refine ⟨?_, 0, rfl⟩
    have : xs ≠ ys := by rintro rfl; exact hnm (hla.symm.trans hlb)
    simp [this]

/-- Two that are alike. -/
theorem bytes_same {A B : Option Addr} {n c m d : Nat} (xs : List UInt8) {w : World} (ha : Bs w A n c xs) (hb : Bs w B m d xs) (hn : n ≤ 65536) :
    Calls Try.prog 24 #[.slice A n c, .slice B m d] w fun e w' => e = .returned (.bool true) ∧ Below w.heap.size w w' :=
  (bytes_any A B n c m d xs xs w ha hb hn).mono fun e w' ⟨he, q, hq⟩ => ⟨by simpa using he, by rw [hq]; exact drewN_below w q⟩

set_option maxHeartbeats 400000 in
theorem twinrows_any (A : Option Addr) (n c : Nat) (L : List (List UInt8)) (w : World) (ha : Rs w A n c L) (hn : n ≤ 65536) (hl : ∀ l ∈ L, l.length ≤ 65536) :
    Calls Try.prog 10 #[.slice A n c] w fun e w' => ∃ A' c', e = .returned (.slice A' n c') ∧ Ow (slR byteR 1) 1 w' w.heap.size w.heap.size 29 (.slice A' n c') n L ∧ Below w.heap.size w w' := by
  obtain ⟨i0, hi0, hz0, hz1, hz2⟩ := info_parts row_info
  have HL := hide hl
  clear hl
  go_enter Try.func10, Try.ntmps10
  go_wp2
  go_loopw [3, 4] (fun v i wr => ∃ k : Nat, k ≤ n ∧ i = .int .i64 k ∧ Ow (slR byteR 1) 1 wr w.heap.size w.heap.size 29 v k (L.take k) ∧ Below w.heap.size w wr) (fun _ i _ => n - (intOf i).toNat)
  case atStart => exact ⟨0, Nat.zero_le _, rfl, Ow.nil_ _ _ _ _, Below.refl _ _⟩
  case round =>
    obtain ⟨k, hk, rfl, ho, hb⟩ := hrel
    by_cases hlt : k < n
    · have har := ha.on bytesR_fine hb
      obtain ⟨ad, l, A1, n1, c1, rfl, _, hx, hs, hcell⟩ := at_row har hlt
      have hn1 : n1 ≤ 65536 := by rw [← hs.len]; exact HL.out l (List.mem_of_getElem? hx)
      have HX := hide hx
      clear hx
      obtain ⟨V0, c0, rfl⟩ := ho.form
      go_wp2_with (first | (go_at_call 30; refine (twin_any _ _ _ l _ hs hn1).mono ?_; rintro e w1 ⟨A2, c2, rfl, ho2, hb2⟩; have ho1 := ho.below bytesR_fine hb2; have hs1 : Sl (slR byteR 1) 1 (w1.alloc (.cells #[.slice A2 n1 c2] 29)) (But (w1.alloc (.cells #[.slice A2 n1 c2] 29)) w.heap.size (.slice V0 k c0)) (some ⟨w1.heap.size, 0, none⟩) 1 1 [l] := Sl.one_ bytesR_fine ⟨_, _, _, rfl, ho2.apart byteR_fine hb.size hb.size fun q hq => by have := (ho.lt q hq).2; omega⟩ (fun q hq => (ho1.lt q hq).2) (Nat.le_trans hb.size hb2.size); have ho3 := ho1.alloc bytesR_fine (.cells #[.slice A2 n1 c2] 29); have hb3 : Below w.heap.size w (w1.alloc (.cells #[.slice A2 n1 c2] 29)) := (hb.trans (hb2.mono hb.size)).alloc (Nat.le_trans hb.size hb2.size) _) | (at_builtin; go_loud (refine wpList_append_ow _ rfl (.tmp 11) (.tmp 17) _ rfl bytesR_fine w.heap.size w.heap.size 29 i0 _ 24 Try.underlying27 hi0 hz0 hz1 hz2 rfl (by omega) (.slice V0 k c0) k (L.take k) rfl ho3 _ _ 1 1 [l] rfl hs1 (fun _ _ _ h => h) (by simp only [maxLen]; omega) (by omega) hb3.size ?_); intro V1 w2 ho4 hg4 hat4))
      have hnext : L.take k ++ [l] = L.take (k + 1) := by
        obtain ⟨h1, e1⟩ := List.getElem?_eq_some_iff.1 HX.out
        rw [List.take_succ_eq_append_getElem h1, e1]
      rw [hnext] at ho4
      go_roundw
      case rel => exact ⟨k + 1, by omega, by go_num, ho4, hb3.trans (below_grown hg4 ho3.lt hb3.size)⟩
      case measure => simp [intOf]; omega
    · go_wp2
      go_ret
      obtain rfl : k = n := by omega
      rw [List.take_of_length_le (by rw [ha.len]; omega)] at ho
      obtain ⟨A', c', rfl⟩ := ho.form
      exact ⟨A', c', rfl, ho, hb⟩

end Go.Proofs.Ytikjhcfalofgaaa
