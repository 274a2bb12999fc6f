/-
  Contracts: pack.Row, pack.Unrow, casematekeep.Ints.
  Contract: pack.Row, its bytes owned.
-/
import Derived.Test.YtdcoholjnlndgaaDoorPackG
namespace Go.Proofs.YtdcoholjnlndgaaDoor
open Go.RowKit
set_option linter.unusedVariables false
set_option maxRecDepth 100000

theorem int_info : (Tryd.prog.info? 3).map (fun i => (i.zero, i.size, i.bytes)) = some (some (.int .i64 0), 1, 8) := by kernel_rfl

/-- The bytes of numbers, one behind the other. -/
def rowL : List Int → List Int → List UInt8
  | n :: l, s :: t => le s.toNat n.toNat ++ rowL l t
  | _, _ => []
def sumN : List Int → Nat
  | s :: t => s.toNat + sumN t
  | [] => 0
/-- Each number fits its size. -/
def FitAll (l s : List Int) : Prop := ∀ (i : Nat) (n z : Int), l[i]? = some n → s[i]? = some z → FitsP n z

theorem rowL_snoc {l s : List Int} {k : Nat} {n z : Int} (hl : l[k]? = some n) (hs : s[k]? = some z) : rowL (l.take k) (s.take k) ++ le z.toNat n.toNat = rowL (l.take (k + 1)) (s.take (k + 1)) := by
  induction k generalizing l s with
  | zero =>
    cases l with
    | nil => simp at hl
    | cons a l =>
      cases s with
      | nil => simp at hs
      | cons b s =>
        simp at hl hs
        subst hl
        subst hs
        simp [rowL]
  | succ k ih =>
    cases l with
    | nil => simp at hl
    | cons a l =>
      cases s with
      | nil => simp at hs
      | cons b s =>
        simp only [List.getElem?_cons_succ] at hl hs
        simp only [List.take_succ_cons, rowL, List.append_assoc]
        rw [ih hl hs]
theorem sumN_snoc {s : List Int} {k : Nat} {z : Int} (hs : s[k]? = some z) : sumN (s.take (k + 1)) = sumN (s.take k) + z.toNat := by
  induction k generalizing s with
  | zero =>
    cases s with
    | nil => simp at hs
    | cons b s =>
      simp at hs
      subst hs
      simp [sumN]
  | succ k ih =>
    cases s with
    | nil => simp at hs
    | cons b s =>
      simp only [List.getElem?_cons_succ] at hs
      simp only [List.take_succ_cons, sumN]
      rw [ih hs]
      omega
theorem sumN_le {s : List Int} (h : ∀ z ∈ s, z ≤ 4) : sumN s ≤ 4 * s.length := by
  induction s with
  | nil => simp [sumN]
  | cons b s ih =>
    have h1 := h b (by simp)
    have h2 := ih (fun z hz => h z (by simp [hz]))
    simp only [sumN, List.length_cons]
    omega
theorem rowL_len {l s : List Int} (h : l.length = s.length) : (rowL l s).length = sumN s := by
  induction s generalizing l with
  | nil => cases l <;> simp [rowL, sumN]
  | cons b s ih =>
    cases l with
    | nil => simp at h
    | cons a l =>
      simp only [rowL, sumN, List.length_append, le_len]
      rw [ih (by simpa using h)]

def RowPost (w : World) (l s : List Int) (e : Ending) (w' : World) : Prop :=
  Below w.heap.size w w' ∧
  ((FitAll l s ∧ ∃ V cv, e = .returned (.tuple #[.slice V (sumN s) cv, .int .i64 0]) ∧ Bs w' V (sumN s) cv (rowL l s)) ∨
   (¬ FitAll l s ∧ e = .returned (.tuple #[.slice none 0 0, .int .i64 1])))

set_option maxHeartbeats 1000000 in
theorem row_len {A B : Option Addr} {n c m d : Nat} {w : World} (h : n ≠ m) :
    Calls Tryd.prog 63 #[.slice A n c, .slice B m d] w fun e w' => e = .returned (.tuple #[.slice none 0 0, .int .i64 2]) ∧ w = w' := by
  have h1 : ((n : Int) != (m : Int)) = true := by simp; omega
  go_enter Tryd.func63, Tryd.ntmps63
  go_wp2_with fail
  go_ret2
  exact ⟨rfl, rfl⟩

set_option maxHeartbeats 1000000 in
theorem row_any {A B : Option Addr} {n c d : Nat} {l s : List Int} {w : World} (ha : Is w A n c l) (hb : Is w B n d s) (hn : n ≤ 1000) :
    Calls Tryd.prog 63 #[.slice A n c, .slice B n d] w (RowPost w l s) := by
  have hla := ha.len
  have hlb := hb.len
  have HA := hide hla
  have HB := hide hlb
  clear hla hlb
  go_enter Tryd.func63, Tryd.ntmps63
  go_wp2_with fail
  go_loopw [6, 18] (fun v i wr => ∃ k q : Nat, ∃ V cv, k ≤ n ∧ i = .int .i64 k ∧ q ≤ 4 * k ∧ v = .slice V q cv ∧ Hid (q = sumN (s.take k)) ∧ Bs wr V q cv (rowL (l.take k) (s.take k)) ∧ Below w.heap.size w wr ∧ Hid (∀ (i : Nat) (n z : Int), i < k → l[i]? = some n → s[i]? = some z → FitsP n z)) (fun _ i _ => n - (intOf i).toNat)
  case atStart => exact ⟨0, 0, none, 0, Nat.zero_le _, rfl, Nat.le_refl _, rfl, rfl, Sl.nil_ _, Below.refl _ _, fun i n z hi => absurd hi (by omega)⟩
  case round =>
    obtain ⟨k, q, V, cv, hk, rfl, hq4, rfl, hq, hr, hb1, hfit⟩ := hrel
    by_cases hlt : k < n
    · obtain ⟨ad, x, rfl, hadl, hx, hxi, hxw⟩ := at_int ha hlt
      obtain ⟨bd, z, rfl, hbdl, hz, hzi, hzw⟩ := at_int hb hlt
      have hxc := below_cell hb1 hadl hxw
      have hzc := below_cell hb1 hbdl hzw
      by_cases hf : FitsP x z
      · have hp := put_ok hr (by omega) x z hf
        have hz4 : z.toNat ≤ 4 := by rcases hf.1 with h | h | h <;> omega
        rw [rowL_snoc hx hz] at hp
        have hq2 : Hid (q + z.toNat = sumN (s.take (k + 1))) := by
          show _ = _
          rw [sumN_snoc hz, ← hq.out]
        have hfit2 : Hid (∀ (i : Nat) (n z : Int), i < k + 1 → l[i]? = some n → s[i]? = some z → FitsP n z) := by
          intro i n' z' hi h1 h2
          by_cases hik : i = k
          · subst hik
            rw [hx] at h1
            rw [hz] at h2
            injection h1 with h1
            injection h2 with h2
            rw [← h1, ← h2]
            exact hf
          · exact hfit i n' z' (by omega) h1 h2
        have HP := hide hp
        clear hp hf hx hz
        go_wp2_with fail
        refine (unhide HP).mono ?_
        rintro e w2 ⟨V2, c2, rfl, ho2, hb2⟩
        go_wp2_with fail
        go_roundw
        case rel => exact ⟨k + 1, q + z.toNat, V2, c2, by omega, by go_num, by omega, rfl, hq2, ho2.read byteR_fine, th hb1 hb2, hfit2⟩
        case measure => simp [intOf]; omega
      · have hp := put_none (A := V) (n := q) (c := cv) (w := wr) x z hf
        have HP := hide hp
        have hbad : Hid (¬ FitAll l s) := fun h => hf (h k x z hx hz)
        clear hp hf hx hz
        go_wp2_with fail
        refine (unhide HP).mono ?_
        rintro e w2 ⟨rfl, rfl⟩
        go_wp2_with fail
        go_ret2
        exact ⟨hb1, .inr ⟨hbad.out, rfl⟩⟩
    · obtain rfl : k = n := by omega
      rw [List.take_of_length_le (by rw [HA.out]; omega), List.take_of_length_le (by rw [HB.out]; omega)] at hr
      rw [List.take_of_length_le (by rw [HB.out]; omega)] at hq
      have hfa : FitAll l s := fun i n' z' h1 h2 => hfit i n' z' (by have := (List.getElem?_eq_some_iff.1 h1).1; rw [HA.out] at this; exact this) h1 h2
      have HFA := hide hfa
      clear hfa
      go_wp2_with fail
      go_ret2
      have hqq := hq.out
      subst hqq
      exact ⟨hb1, .inl ⟨HFA.out, V, cv, rfl, hr⟩⟩

end Go.Proofs.YtdcoholjnlndgaaDoor

namespace Go.Proofs.YtdcoholjnlndgaaDoor
open Go.RowKit
set_option linter.unusedVariables false
set_option maxRecDepth 100000

def RowOwn (w : World) (l s : List Int) (e : Ending) (w' : World) : Prop :=
  Below w.heap.size w w' ∧
  ((FitAll l s ∧ ∃ V cv, e = .returned (.tuple #[.slice V (sumN s) cv, .int .i64 0]) ∧ Ow byteR 1 w' w.heap.size 0 5 (.slice V (sumN s) cv) (sumN s) (rowL l s)) ∨
   (¬ FitAll l s ∧ e = .returned (.tuple #[.slice none 0 0, .int .i64 1])))

set_option maxHeartbeats 1000000 in
theorem row_own {A B : Option Addr} {n c d : Nat} {l s : List Int} {w : World} (ha : Is w A n c l) (hb : Is w B n d s) (hn : n ≤ 1000) :
    Calls Tryd.prog 63 #[.slice A n c, .slice B n d] w (RowOwn w l s) := by
  have hla := ha.len
  have hlb := hb.len
  have HA := hide hla
  have HB := hide hlb
  clear hla hlb
  go_enter Tryd.func63, Tryd.ntmps63
  go_wp2_with fail
  go_loopw [6, 18] (fun v i wr => ∃ k q : Nat, ∃ V cv, k ≤ n ∧ i = .int .i64 k ∧ q ≤ 4 * k ∧ v = .slice V q cv ∧ Hid (q = sumN (s.take k)) ∧ Ow byteR 1 wr w.heap.size 0 5 (.slice V q cv) q (rowL (l.take k) (s.take k)) ∧ Below w.heap.size w wr ∧ Hid (∀ (i : Nat) (n z : Int), i < k → l[i]? = some n → s[i]? = some z → FitsP n z)) (fun _ i _ => n - (intOf i).toNat)
  case atStart => exact ⟨0, 0, none, 0, Nat.zero_le _, rfl, Nat.le_refl _, rfl, rfl, Ow.nil_ _ _ _ _, Below.refl _ _, fun i n z hi => absurd hi (by omega)⟩
  case round =>
    obtain ⟨k, q, V, cv, hk, rfl, hq4, rfl, hq, hr, hb1, hfit⟩ := hrel
    by_cases hlt : k < n
    · obtain ⟨ad, x, rfl, hadl, hx, hxi, hxw⟩ := at_int ha hlt
      obtain ⟨bd, z, rfl, hbdl, hz, hzi, hzw⟩ := at_int hb hlt
      have hxc := below_cell hb1 hadl hxw
      have hzc := below_cell hb1 hbdl hzw
      by_cases hf : FitsP x z
      · have hp := put_ok (hr.read byteR_fine) (by omega) x z hf
        have hz4 : z.toNat ≤ 4 := by rcases hf.1 with h | h | h <;> omega
        rw [rowL_snoc hx hz] at hp
        have hq2 : Hid (q + z.toNat = sumN (s.take (k + 1))) := by
          show _ = _
          rw [sumN_snoc hz, ← hq.out]
        have hfit2 : Hid (∀ (i : Nat) (n z : Int), i < k + 1 → l[i]? = some n → s[i]? = some z → FitsP n z) := by
          intro i n' z' hi h1 h2
          by_cases hik : i = k
          · subst hik
            rw [hx] at h1
            rw [hz] at h2
            injection h1 with h1
            injection h2 with h2
            rw [← h1, ← h2]
            exact hf
          · exact hfit i n' z' (by omega) h1 h2
        have HP := hide hp
        clear hp hf hx hz
        go_wp2_with fail
        refine (unhide HP).mono ?_
        rintro e w2 ⟨V2, c2, rfl, ho2, hb2⟩
        go_wp2_with fail
        go_roundw
        case rel => exact ⟨k + 1, q + z.toNat, V2, c2, by omega, by go_num, by omega, rfl, hq2, ho2.less byteR_fine hb1.size (Nat.zero_le _), th hb1 hb2, hfit2⟩
        case measure => simp [intOf]; omega
      · have hp := put_none (A := V) (n := q) (c := cv) (w := wr) x z hf
        have HP := hide hp
        have hbad : Hid (¬ FitAll l s) := fun h => hf (h k x z hx hz)
        clear hp hf hx hz
        go_wp2_with fail
        refine (unhide HP).mono ?_
        rintro e w2 ⟨rfl, rfl⟩
        go_wp2_with fail
        go_ret2
        exact ⟨hb1, .inr ⟨hbad.out, rfl⟩⟩
    · obtain rfl : k = n := by omega
      rw [List.take_of_length_le (by rw [HA.out]; omega), List.take_of_length_le (by rw [HB.out]; omega)] at hr
      rw [List.take_of_length_le (by rw [HB.out]; omega)] at hq
      have hfa : FitAll l s := fun i n' z' h1 h2 => hfit i n' z' (by have := (List.getElem?_eq_some_iff.1 h1).1; rw [HA.out] at this; exact this) h1 h2
      have HFA := hide hfa
      clear hfa
      go_wp2_with fail
      go_ret2
      have hqq := hq.out
      subst hqq
      exact ⟨hb1, .inl ⟨HFA.out, V, cv, rfl, hr⟩⟩


end Go.Proofs.YtdcoholjnlndgaaDoor
