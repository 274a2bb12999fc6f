/-
  Contracts: pack.Unrow, its rest in memory of its own; table.Read.
-/
import Derived.Test.YtamgpbkakmffiaaDoorTabD
import Derived.Test.YtamgpbkakmffiaaDoorSpot
namespace Go.Proofs.YtamgpbkakmffiaaDoor
open Go.RowKit
set_option linter.unusedVariables false
set_option maxRecDepth 100000

def UnrowNew (w : World) (xs : List UInt8) (s : List Int) (e : Ending) (w' : World) : Prop :=
  Below w.heap.size w w' ∧
  ((sumN s ≤ xs.length ∧ ∃ V cv R cr, e = .returned (.tuple #[.slice V s.length cv, .slice R (xs.length - sumN s) cr, .int .i64 0]) ∧ Sl intR 1 w' (New w.heap.size w') V s.length cv (unrowI s xs) ∧ Sl byteR 1 w' (New w.heap.size w') R (xs.length - sumN s) cr (xs.drop (sumN s))) ∨
   (xs.length < sumN s ∧ e = .returned (.tuple #[.slice none 0 0, .slice none 0 0, .int .i64 4])))

set_option maxHeartbeats 1000000 in
theorem unrow_new {A B : Option Addr} {n c m d : Nat} {xs : List UInt8} {s : List Int} {w : World} (ha : Bs w A n c xs) (hb : Is w B m d s) (hn : n ≤ 65536) (hm : m ≤ 1000) (hs : ∀ z ∈ s, Sized z) :
    Calls Tryd.prog 75 #[.slice A n c, .slice B m d] w (UnrowNew w xs s) := by
  obtain ⟨i0, hi0, hz0, hz1, hz2⟩ := info_parts int_info
  have hla := ha.len
  have hlb := hb.len
  have HA := hide hla
  have HB := hide hlb
  have HS := hide hs
  clear hla hlb hs
  go_enter Tryd.func75, Tryd.ntmps75
  go_wp2_with fail
  refine (clone_any _ _ _ _ _ ha hn).mono ?_
  rintro e w1 ⟨V1, c1, rfl, ho1, hb1⟩
  have r1 := ho1.new_ byteR_fine (Nat.le_refl _) (Nat.le_refl _)
  clear ho1
  go_wp2_with fail
  go_loopw [4, 5, 16] (fun v r i wr => ∃ k q : Nat, ∃ R cr, k ≤ m ∧ i = .int .i64 k ∧ q ≤ n ∧ r = .slice R (n - q) cr ∧ Hid (q = sumN (s.take k)) ∧ Ow intR 1 wr w.heap.size w.heap.size 3 v k (unrowI (s.take k) xs) ∧ Sl byteR 1 wr (New w.heap.size wr) R (n - q) cr (xs.drop q) ∧ Below w.heap.size w wr) (fun _ _ i _ => m - (intOf i).toNat)
  case atStart => exact ⟨0, 0, V1, c1, Nat.zero_le _, rfl, Nat.zero_le _, rfl, rfl, Ow.nil_ _ _ _ _, r1, hb1⟩
  case round =>
    obtain ⟨k, q, R, cr, hk, rfl, hqn, rfl, hq, ho, hr, hbw⟩ := hrel
    by_cases hlt : k < m
    · obtain ⟨bd, z, rfl, hbdl, hz, hzi, hzw⟩ := at_int hb hlt
      have hzc := below_cell hbw hbdl hzw
      have hsz := HS.out z (List.mem_of_getElem? hz)
      obtain ⟨V0, c0, rfl⟩ := ho.form
      have hsn := sumN_snoc hz
      by_cases hsh : ((n - q : Nat) : Int) < z
      · have hp := get_short (A := R) (n := n - q) (c := cr) (w := wr) z hsz hsh
        have HP := hide hp
        have hbad : Hid (n < sumN s) := by
          have h1 := sumN_mono (s := s) (k := k + 1)
          have h2 := hq.out
          show _ < _
          omega
        clear hp hsz hz hsn
        go_wp2_with fail
        refine (unhide HP).mono ?_
        rintro e w2 ⟨rfl, rfl⟩
        go_wp2_with fail
        go_ret3
        exact ⟨hbw, .inr ⟨by rw [HA.out]; exact hbad.out, rfl⟩⟩
      · obtain ⟨Z, rfl⟩ : ∃ Z : Nat, z = (Z : Int) := ⟨z.toNat, by rcases hsz with h | h | h <;> omega⟩
        have hZ : Z = 1 ∨ Z = 2 ∨ Z = 4 := by rcases hsz with h | h | h <;> omega
        have hp := get_ok (hr.old_ byteR_fine) (by omega) Z hZ (by omega)
        have hqz : n - q - Z = n - (q + Z) := by omega
        rw [hqz, List.drop_drop] at hp
        have hsnoc := unrowI_snoc (xs := xs) hz
        rw [Int.toNat_natCast, ← hq.out] at hsnoc
        rw [Int.toNat_natCast, ← hq.out] at hsn
        have hq2 : Hid (q + Z = sumN (s.take (k + 1))) := hsn.symm
        have hle : q + Z ≤ n := by omega
        have HP := hide hp
        have HN := hide hsnoc
        have hni : InI ((num ((xs.drop q).take Z) : Nat) : Int) := by
          have h1 := num_lt ((xs.drop q).take Z)
          have h2 : ((xs.drop q).take Z).length ≤ 4 := by simp only [List.length_take]; omega
          have h3 : 256 ^ ((xs.drop q).take Z).length ≤ 256 ^ 4 := Nat.pow_le_pow_right (by omega) h2
          constructor <;> omega
        have HNI := hide hni
        clear hp hsz hz hsn hsnoc hZ hqz hsh hni
        go_wp2_with fail
        refine (unhide HP).mono ?_
        rintro e w2 ⟨V2, c2, rfl, ho2, hb2⟩
        have hbw2 : Below w.heap.size w w2 := th hbw hb2
        have ho' := ho.below intR_fine hb2
        have ho3 := ho'.alloc intR_fine (.cells #[.int .i64 ((num ((xs.drop q).take Z) : Nat) : Int)] 3)
        have hs3 : Sl intR 1 (w2.alloc (.cells #[.int .i64 ((num ((xs.drop q).take Z) : Nat) : Int)] 3)) (But (w2.alloc (.cells #[.int .i64 ((num ((xs.drop q).take Z) : Nat) : Int)] 3)) w.heap.size (.slice V0 k c0)) (some ⟨w2.heap.size, 0, none⟩) 1 1 [((num ((xs.drop q).take Z) : Nat) : Int)] := Sl.one_ intR_fine ⟨rfl, HNI.out⟩ (fun q hq => (ho'.lt q hq).2) hbw2.size
        have hb3 := hbw2.alloc hbw2.size (.cells #[.int .i64 ((num ((xs.drop q).take Z) : Nat) : Int)] 3)
        have hap : Sl byteR 1 w2 (But w2 w.heap.size (.slice V0 k c0)) V2 (n - (q + Z)) c2 (xs.drop (q + Z)) := ho2.apart byteR_fine hbw.size hbw.size (fun q hq => ⟨(ho.lt q hq).2, (ho.lt q hq).2⟩)
        go_wp2_with (at_builtin; go_loud (refine wpList_append_ow _ rfl (.tmp 30) (.tmp 32) _ rfl intR_fine w.heap.size w.heap.size 3 i0 _ 8 Tryd.underlying42 hi0 hz0 hz1 hz2 rfl (by omega) (.slice V0 k c0) k (unrowI (s.take k) xs) rfl ho3 _ _ 1 1 _ rfl hs3 (fun _ _ _ h => h) (by simp only [maxLen]; omega) (by omega) hb3.size ?_); intro V3 w3 ho4 hg4 hat4)
        rw [HN.out] at ho4
        have hb4 := below_grown hg4 ho3.lt hb3.size
        have r3 : Sl byteR 1 w3 (New w.heap.size w3) V2 (n - (q + Z)) c2 (xs.drop (q + Z)) := hap.move byteR_fine (fun b hb => (hg4.block b (by have := hb.2.1; simp; omega) hb.2.2).trans (Below.heap_alloc _ _ _ hb.2.1)) (fun b hb => ⟨hb.1, Nat.lt_of_lt_of_le hb.2.1 (Nat.le_trans (by simp) hg4.size)⟩)
        go_roundw
        case rel => exact ⟨k + 1, q + Z, V2, c2, by omega, by go_num, by omega, rfl, hq2, ho4, r3, hb3.trans hb4⟩
        case measure => simp [intOf]; omega
    · obtain rfl : k = m := by omega
      rw [List.take_of_length_le (by rw [HB.out]; omega)] at ho hq
      obtain ⟨V0, c0, rfl⟩ := ho.form
      go_wp2_with fail
      go_ret3
      have hqq := hq.out
      subst hqq
      have h1 := HA.out
      have h2 := HB.out
      subst h1
      subst h2
      exact ⟨hbw, .inl ⟨hqn, V0, c0, R, cr, rfl, ho.new_ intR_fine (Nat.le_refl _) (Nat.le_refl _), hr⟩⟩


/-- One entry's bytes, read. -/
theorem unrow3_ok {A B : Option Addr} {n c : Nat} {xs : List UInt8} {w : World} (ha : Bs w A n c xs) (hb : Is w B 3 3 [4, 4, 1]) (hn : n ≤ 65536) (h9 : 9 ≤ n) :
    Calls Tryd.prog 75 #[.slice A n c, .slice B 3 3] w fun e w' => ∃ V cv R cr, e = .returned (.tuple #[.slice V 3 cv, .slice R (n - 9) cr, .int .i64 0]) ∧ Is w' V 3 cv [(num (xs.take 4) : Int), (num ((xs.drop 4).take 4) : Int), (num ((xs.drop 8).take 1) : Int)] ∧ Sl byteR 1 w' (New w.heap.size w') R (n - 9) cr (xs.drop 9) ∧ Below w.heap.size w w' := by
  have hl := ha.len
  refine (unrow_new ha hb hn (by omega) (fun z hz => by simp at hz; rcases hz with rfl | rfl; exact .inr (.inr rfl); exact .inl rfl)).mono ?_
  rintro e w' ⟨hb', ⟨_, V, cv, R, cr, rfl, hi, hr⟩ | ⟨h, _⟩⟩
  · have hs : sumN [4, 4, 1] = 9 := rfl
    rw [hs, hl] at hr ⊢
    have hu : unrowI [4, 4, 1] xs = [(num (xs.take 4) : Int), (num ((xs.drop 4).take 4) : Int), (num ((xs.drop 8).take 1) : Int)] := by
      simp [unrowI, List.drop_drop]
    rw [hu] at hi
    exact ⟨V, cv, R, cr, rfl, hi.old_ intR_fine, hr, hb'⟩
  · exact absurd h (by show ¬ (xs.length < 9); omega)
theorem unrow3_no {A B : Option Addr} {n c : Nat} {xs : List UInt8} {w : World} (ha : Bs w A n c xs) (hb : Is w B 3 3 [4, 4, 1]) (hn : n ≤ 65536) (h9 : n < 9) :
    Calls Tryd.prog 75 #[.slice A n c, .slice B 3 3] w fun e w' => e = .returned (.tuple #[.slice none 0 0, .slice none 0 0, .int .i64 4]) ∧ Below w.heap.size w w' := by
  have hl := ha.len
  refine (unrow_new ha hb hn (by omega) (fun z hz => by simp at hz; rcases hz with rfl | rfl; exact .inr (.inr rfl); exact .inl rfl)).mono ?_
  rintro e w' ⟨hb', ⟨h, _⟩ | ⟨_, rfl⟩⟩
  · exact absurd h (by show ¬ (9 ≤ xs.length); omega)
  · exact ⟨rfl, hb'⟩

/-- What table.Read tells. -/
def RdQ (g : Geo) (l : List UInt8) (T : List Ent) (err : Int) : Prop := (¬ GeoOk g ∧ err = 1 ∧ T = []) ∨ (GeoOk g ∧ ReadOk g.data l ∧ err = 0 ∧ T = tabOf (g.data + 1).toNat l) ∨ (GeoOk g ∧ ¬ ReadOk g.data l ∧ err = 4 ∧ T = [])
def RdPost (w : World) (g : Geo) (l : List UInt8) (e : Ending) (w' : World) : Prop := Below w.heap.size w w' ∧ ∃ A n c T err, e = .returned (.tuple #[.agg #[.slice A n c], .int .i64 err]) ∧ Sl entR 3 w' (New w.heap.size w') A n c T ∧ RdQ g l T err

/-- The blocks that are neither the box nor the entries' own. -/
def Ap (N : Nat) (w : World) (v : Value) : Nat → Prop := fun b => b < w.heap.size ∧ b ≠ N ∧ some b ≠ v.ownBlock

end Go.Proofs.YtamgpbkakmffiaaDoor
