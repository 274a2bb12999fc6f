/-
  Contracts: pack.Unrow, casematekeep.Ints.
-/
import Derived.Test.YtdcoholjnlndgaaDoorRowO
namespace Go.Proofs.YtdcoholjnlndgaaDoor
open Go.RowKit
set_option linter.unusedVariables false
set_option maxRecDepth 100000

/-- The numbers that bytes begin with. -/
def unrowI : List Int → List UInt8 → List Int
  | z :: s, xs => (num (xs.take z.toNat) : Int) :: unrowI s (xs.drop z.toNat)
  | [], _ => []

theorem unrowI_snoc {s : List Int} {xs : List UInt8} {k : Nat} {z : Int} (hs : s[k]? = some z) :
    unrowI (s.take k) xs ++ [(num ((xs.drop (sumN (s.take k))).take z.toNat) : Int)] = unrowI (s.take (k + 1)) xs := by
  induction k generalizing s xs with
  | zero =>
    cases s with
    | nil => simp at hs
    | cons b s =>
      simp at hs
      subst hs
      simp [unrowI, sumN]
  | succ k ih =>
    cases s with
    | nil => simp at hs
    | cons b s =>
      simp only [List.getElem?_cons_succ] at hs
      simp only [List.take_succ_cons, unrowI, sumN, List.cons_append]
      rw [← ih hs, List.drop_drop]

theorem sumN_mono {s : List Int} {k : Nat} : sumN (s.take k) ≤ sumN s := by
  induction s generalizing k with
  | nil => simp
  | cons b s ih =>
    cases k with
    | zero => simp [sumN]
    | succ k =>
      simp only [List.take_succ_cons, sumN]
      have := ih (k := k)
      omega

theorem unrow_row {l s : List Int} (h : l.length = s.length) (hf : FitAll l s) (r : List UInt8) : unrowI s (rowL l s ++ r) = l := by
  induction s generalizing l with
  | nil =>
    cases l with
    | nil => rfl
    | cons a l => simp at h
  | cons b s ih =>
    cases l with
    | nil => simp at h
    | cons a l =>
      have h0 := hf 0 a b rfl rfl
      have ht : FitAll l s := fun i n z h1 h2 => hf (i + 1) n z (by simpa using h1) (by simpa using h2)
      have hlen : (le b.toNat a.toNat).length = b.toNat := le_len _ _
      have e1 : (rowL (a :: l) (b :: s) ++ r).take b.toNat = le b.toNat a.toNat := by
        simp only [rowL, List.append_assoc]
        rw [List.take_append_of_le_length (by omega), List.take_of_length_le (by omega)]
      have e2 : (rowL (a :: l) (b :: s) ++ r).drop b.toNat = rowL l s ++ r := by
        simp only [rowL, List.append_assoc]
        rw [List.drop_append_of_le_length (by omega), List.drop_of_length_le (by omega), List.nil_append]
      have hlt : a.toNat < 256 ^ b.toNat := by
        have h1 := h0.2.1
        have h2 := h0.2.2
        have h3 : ((a.toNat : Nat) : Int) < ((256 ^ b.toNat : Nat) : Int) := by
          rw [Int.natCast_pow]
          have : (a.toNat : Int) = a := by omega
          rw [this]
          exact h2
        exact Int.ofNat_lt.1 h3
      rw [unrowI, e1, e2, ih (by simpa using h) ht, num_le, Nat.mod_eq_of_lt hlt]
      congr 1
      have h1 := h0.2.1
      omega

def UnrowPost (w : World) (xs : List UInt8) (s : List Int) (e : Ending) (w' : World) : Prop :=
  Below w.heap.size w w' ∧
  ((sumN s ≤ xs.length ∧ ∃ V cv R cr, e = .returned (.tuple #[.slice V s.length cv, .slice R (xs.length - sumN s) cr, .int .i64 0]) ∧ Is w' V s.length cv (unrowI s xs) ∧ Bs w' R (xs.length - sumN s) cr (xs.drop (sumN s))) ∨
   (xs.length < sumN s ∧ e = .returned (.tuple #[.slice none 0 0, .slice none 0 0, .int .i64 4])))

set_option maxHeartbeats 1000000 in
theorem unrow_any {A B : Option Addr} {n c m d : Nat} {xs : List UInt8} {s : List Int} {w : World} (ha : Bs w A n c xs) (hb : Is w B m d s) (hn : n ≤ 65536) (hm : m ≤ 1000) (hs : ∀ z ∈ s, Sized z) :
    Calls Tryd.prog 54 #[.slice A n c, .slice B m d] w (UnrowPost w xs s) := by
  obtain ⟨i0, hi0, hz0, hz1, hz2⟩ := info_parts int_info
  have hla := ha.len
  have hlb := hb.len
  have HA := hide hla
  have HB := hide hlb
  have HS := hide hs
  clear hla hlb hs
  go_enter Tryd.func54, Tryd.ntmps54
  go_wp2_with fail
  refine (clone_any _ _ _ _ _ ha hn).mono ?_
  rintro e w1 ⟨V1, c1, rfl, ho1, hb1⟩
  have r1 := ho1.read byteR_fine
  clear ho1
  go_wp2_with fail
  go_loopw [4, 5, 16] (fun v r i wr => ∃ k q : Nat, ∃ R cr, k ≤ m ∧ i = .int .i64 k ∧ q ≤ n ∧ r = .slice R (n - q) cr ∧ Hid (q = sumN (s.take k)) ∧ Ow intR 1 wr w.heap.size w.heap.size 3 v k (unrowI (s.take k) xs) ∧ Bs wr R (n - q) cr (xs.drop q) ∧ Below w.heap.size w wr) (fun _ _ i _ => m - (intOf i).toNat)
  case atStart => exact ⟨0, 0, V1, c1, Nat.zero_le _, rfl, Nat.zero_le _, rfl, rfl, Ow.nil_ _ _ _ _, r1, hb1⟩
  case round =>
    obtain ⟨k, q, R, cr, hk, rfl, hqn, rfl, hq, ho, hr, hbw⟩ := hrel
    by_cases hlt : k < m
    · obtain ⟨bd, z, rfl, hbdl, hz, hzi, hzw⟩ := at_int hb hlt
      have hzc := below_cell hbw hbdl hzw
      have hsz := HS.out z (List.mem_of_getElem? hz)
      obtain ⟨V0, c0, rfl⟩ := ho.form
      have hsn := sumN_snoc hz
      by_cases hsh : ((n - q : Nat) : Int) < z
      · have hp := get_short (A := R) (n := n - q) (c := cr) (w := wr) z hsz hsh
        have HP := hide hp
        have hbad : Hid (n < sumN s) := by
          have h1 := sumN_mono (s := s) (k := k + 1)
          have h2 := hq.out
          show _ < _
          omega
        clear hp hsz hz hsn
        go_wp2_with fail
        refine (unhide HP).mono ?_
        rintro e w2 ⟨rfl, rfl⟩
        go_wp2_with fail
        go_ret3
        exact ⟨hbw, .inr ⟨by rw [HA.out]; exact hbad.out, rfl⟩⟩
      · obtain ⟨Z, rfl⟩ : ∃ Z : Nat, z = (Z : Int) := ⟨z.toNat, by rcases hsz with h | h | h <;> omega⟩
        have hZ : Z = 1 ∨ Z = 2 ∨ Z = 4 := by rcases hsz with h | h | h <;> omega
        have hp := get_ok hr (by omega) Z hZ (by omega)
        have hqz : n - q - Z = n - (q + Z) := by omega
        rw [hqz, List.drop_drop] at hp
        have hsnoc := unrowI_snoc (xs := xs) hz
        rw [Int.toNat_natCast, ← hq.out] at hsnoc
        rw [Int.toNat_natCast, ← hq.out] at hsn
        have hq2 : Hid (q + Z = sumN (s.take (k + 1))) := hsn.symm
        have hle : q + Z ≤ n := by omega
        have HP := hide hp
        have HN := hide hsnoc
        have hni : InI ((num ((xs.drop q).take Z) : Nat) : Int) := by
          have h1 := num_lt ((xs.drop q).take Z)
          have h2 : ((xs.drop q).take Z).length ≤ 4 := by simp only [List.length_take]; omega
          have h3 : 256 ^ ((xs.drop q).take Z).length ≤ 256 ^ 4 := Nat.pow_le_pow_right (by omega) h2
          constructor <;> omega
        have HNI := hide hni
        clear hp hsz hz hsn hsnoc hZ hqz hsh hni
        go_wp2_with fail
        refine (unhide HP).mono ?_
        rintro e w2 ⟨V2, c2, rfl, ho2, hb2⟩
        have hbw2 : Below w.heap.size w w2 := th hbw hb2
        have ho' := ho.below intR_fine hb2
        have ho3 := ho'.alloc intR_fine (.cells #[.int .i64 ((num ((xs.drop q).take Z) : Nat) : Int)] 3)
        have hs3 : Sl intR 1 (w2.alloc (.cells #[.int .i64 ((num ((xs.drop q).take Z) : Nat) : Int)] 3)) (But (w2.alloc (.cells #[.int .i64 ((num ((xs.drop q).take Z) : Nat) : Int)] 3)) w.heap.size (.slice V0 k c0)) (some ⟨w2.heap.size, 0, none⟩) 1 1 [((num ((xs.drop q).take Z) : Nat) : Int)] := Sl.one_ intR_fine ⟨rfl, HNI.out⟩ (fun q hq => (ho'.lt q hq).2) hbw2.size
        have hb3 := hbw2.alloc hbw2.size (.cells #[.int .i64 ((num ((xs.drop q).take Z) : Nat) : Int)] 3)
        have hap : Sl byteR 1 w2 (But w2 w.heap.size (.slice V0 k c0)) V2 (n - (q + Z)) c2 (xs.drop (q + Z)) := ho2.apart byteR_fine hbw.size hbw.size (fun q hq => ⟨(ho.lt q hq).2, (ho.lt q hq).2⟩)
        go_wp2_with (at_builtin; go_loud (refine wpList_append_ow _ rfl (.tmp 30) (.tmp 32) _ rfl intR_fine w.heap.size w.heap.size 3 i0 _ 8 Tryd.underlying27 hi0 hz0 hz1 hz2 rfl (by omega) (.slice V0 k c0) k (unrowI (s.take k) xs) rfl ho3 _ _ 1 1 _ rfl hs3 (fun _ _ _ h => h) (by simp only [maxLen]; omega) (by omega) hb3.size ?_); intro V3 w3 ho4 hg4 hat4)
        rw [HN.out] at ho4
        have hb4 := below_grown hg4 ho3.lt hb3.size
        have r3 : Bs w3 V2 (n - (q + Z)) c2 (xs.drop (q + Z)) := hap.move byteR_fine (fun b hb => (hg4.block b (by have := hb.2.1; simp; omega) hb.2.2).trans (Below.heap_alloc _ _ _ hb.2.1)) (fun b hb => Nat.lt_of_lt_of_le hb.2.1 (Nat.le_trans (by simp) hg4.size))
        go_roundw
        case rel => exact ⟨k + 1, q + Z, V2, c2, by omega, by go_num, by omega, rfl, hq2, ho4, r3, hb3.trans hb4⟩
        case measure => simp [intOf]; omega
    · obtain rfl : k = m := by omega
      rw [List.take_of_length_le (by rw [HB.out]; omega)] at ho hq
      obtain ⟨V0, c0, rfl⟩ := ho.form
      go_wp2_with fail
      go_ret3
      have hqq := hq.out
      subst hqq
      have h1 := HA.out
      have h2 := HB.out
      subst h1
      subst h2
      exact ⟨hbw, .inl ⟨hqn, V0, c0, R, cr, rfl, ho.read intR_fine, hr⟩⟩

end Go.Proofs.YtdcoholjnlndgaaDoor
