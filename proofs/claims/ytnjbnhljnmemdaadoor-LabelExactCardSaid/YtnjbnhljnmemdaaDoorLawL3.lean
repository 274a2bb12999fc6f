/-
  The walk of the law LabelBack.
-/
import Derived.Test.YtnjbnhljnmemdaaDoorLawL2
namespace Go.Proofs.YtnjbnhljnmemdaaDoor
open Go.RowKit Go.Lib
set_option linter.unusedVariables false
set_option maxRecDepth 100000

theorem um_of (i : Int) (n : Nat) (hn : 1 ≤ n) (hn' : n ≤ 4294967296) : ∃ k : Nat, k < n ∧ IntKind.u64.wrap i % (n : Int) = (k : Int) ∧ (IntKind.u64.wrap i).tmod (n : Int) = (k : Int) := by
  have h0 : 0 ≤ IntKind.u64.wrap i := by rw [IntKind.wrap_u64]; exact Int.emod_nonneg _ (by omega)
  have h1 : (IntKind.u64.wrap i).tmod (n : Int) = IntKind.u64.wrap i % (n : Int) := Int.tmod_eq_emod_of_nonneg h0
  have h2 : 0 ≤ IntKind.u64.wrap i % (n : Int) := Int.emod_nonneg _ (by omega)
  have h3 : IntKind.u64.wrap i % (n : Int) < n := Int.emod_lt_of_pos _ (by omega)
  exact ⟨(IntKind.u64.wrap i % (n : Int)).toNat, by omega, by omega, by omega⟩
theorem lab_nat {l : List UInt8} (h : labE l = 0) : (UInt8.ofNat l.length).toNat = l.length := by
  have := lab_len h
  rw [UInt8.toNat_ofNat']
  omega
theorem read_full {l : List UInt8} (h : labE l = 0) (m : List UInt8) : readLab (labB l ++ m) = some l := by
  show (if (l ++ m).length < (UInt8.ofNat l.length).toNat then (none : Option (List UInt8)) else if labE ((l ++ m).take (UInt8.ofNat l.length).toNat) = 0 then some ((l ++ m).take (UInt8.ofNat l.length).toNat) else none) = _
  rw [lab_nat h, List.length_append, if_neg (by omega), List.take_left, if_pos h]
theorem read_short {l : List UInt8} (h : labE l = 0) {k : Nat} (hk : k < 1 + l.length) : readLab ((labB l).take k) = none := by
  rcases k with _ | k
  · rfl
  · show (if (l.take k).length < (UInt8.ofNat l.length).toNat then (none : Option (List UInt8)) else if labE ((l.take k).take (UInt8.ofNat l.length).toNat) = 0 then some ((l.take k).take (UInt8.ofNat l.length).toNat) else none) = _
    rw [lab_nat h, List.length_take, if_pos (by omega)]

set_option maxHeartbeats 1000000 in
theorem law_labelBack {w : World} (hT : Tabs w) (s : ByteArray) (hs : s.size ≤ maxLen) {B : Option Addr} {m d : Nat} {ys : List UInt8} (hy : Bs w B m d ys) (cut : Int) (hcut : InI cut) :
    Calls Tryd.prog 4 #[.string s, .slice B m d, .int .i64 cut] w fun e w' => e = .returned (.bool true) ∧ Below w.heap.size w w' := by
  obtain ⟨j0, hj0, hy0, hy1, hy2⟩ := info_parts u8_info
  by_cases h400 : s.size ≤ 400
  · have hi0 : ¬ (400 : Int) < (s.size : Int) := by omega
    by_cases g400 : m ≤ 400
    · have hi1 : ¬ (400 : Int) < (m : Int) := by omega
      have hlb := lbytes_any s (by omega) w hT
      unfold LBytesPost at hlb
      have HLB := hide hlb
      clear hlb
      go_enter Tryd.func4, Tryd.ntmps4
      go_wp2_with fail
      refine HLB.out.mono ?_
      rintro e w1 ⟨hb1, V1, n1, c1, b1, e1, rfl, ho1, hq⟩
      unfold LBytes at hq
      have hT1 := hT.below hb1
      have hy1' := hy.on byteR_fine hb1
      rcases hq with ⟨h0, he1, rfl⟩ | ⟨h0, he1, rfl⟩
      · obtain rfl := he1.symm
        have h24 : s.size ≤ 24 := by
          have := lab_len (l := sL s) h0
          rwa [sL_len] at this
        have hr1 := ho1.read byteR_fine
        have hn1 : n1 = 1 + s.size := by
          have := hr1.len
          rw [labB, List.length_cons, sL_len] at this
          omega
        obtain ⟨k, hk, hk1, hk2⟩ := um_of cut n1 (by omega) (by omega)
        have hR1 : ∀ w V c, Tabs w → Bs w V (n1 + m) c (labB (sL s) ++ ys) → Calls Tryd.prog 11 #[.slice V (n1 + m) c] w fun e w' => e = .returned (.tuple #[.string s, .int .i64 (n1 : Int), .int .i64 0]) ∧ Below w.heap.size w w' := fun w V c hT hV => by
          refine (lread_any V _ c _ w hV (by omega) hT).mono ?_
          rintro e w' ⟨hb, t, k, er, rfl, hq⟩
          unfold LRead at hq
          rw [read_full h0] at hq
          rcases hq with ⟨l, h, rfl, rfl, rfl⟩ | ⟨h, _⟩
          · injection h with h
            subst h
            rw [mk_sL, sL_len]
            exact ⟨by rw [hn1]; rfl, hb⟩
          · cases h
        have hR2 : ∀ w, Tabs w → Below w1.heap.size w1 w → Calls Tryd.prog 11 #[.slice V1 k c1] w fun e w' => e = .returned (.tuple #[.string ⟨#[]⟩, .int .i64 0, .int .i64 4]) ∧ Below w.heap.size w w' := fun w hT hW => by
          refine (lread_any V1 k c1 _ w ((hr1.on byteR_fine hW).init_ (by omega)) (by omega) hT).mono ?_
          rintro e w' ⟨hb, t, k, er, rfl, hq⟩
          unfold LRead at hq
          rw [read_short h0 (by rw [sL_len]; omega)] at hq
          rcases hq with ⟨l, h, rfl, rfl, rfl⟩ | ⟨_, rfl, rfl, rfl⟩
          · cases h
          · exact ⟨rfl, hb⟩
        have hcap := hr1.cap
        have hn0 : ((n1 : Int) == 0) = false := by simp; omega
        have hn0' : 0 < n1 ∧ n1 ≤ 25 := by omega
        have HR1 := hide hR1
        have HR2 := hide hR2
        have HN := hide hn1
        clear hR1 hR2 h0 hn1
        go_wp2_with fail
        refine (twin_any V1 n1 c1 _ w1 hr1 (by omega)).mono ?_
        rintro e w2 ⟨A2, c2, rfl, ho2, hb2⟩
        have hy2' := hy1'.on byteR_fine hb2
        have hT2 := hT1.below hb2
        go_wp2_with (at_builtin; go_loud (refine wpList_append_ow _ rfl (.tmp 41) (.tmp 42) _ rfl byteR_fine w1.heap.size w1.heap.size 5 j0 _ 1 Tryd.underlying22 hj0 hy0 hy1 hy2 rfl (by omega) (.slice A2 n1 c2) n1 _ rfl ho2 _ B m d ys rfl hy2' (fun _ _ _ h => h) (by simp only [maxLen]; omega) (by omega) hb2.size ?_); intro V3 w3 ho3 hg3 hat3)
        obtain ⟨A3, c3, rfl⟩ := ho3.form
        have hb3 : Below w1.heap.size w1 w3 := hb2.trans (below_grown hg3 ho2.lt hb2.size)
        have hT3 := hT1.below hb3
        refine (HR1.out w3 A3 c3 hT3 (ho3.read byteR_fine)).mono ?_
        rintro e w4 ⟨rfl, hb4⟩
        have hb14 := th hb3 hb4
        go_wp2_with fail
        refine (HR2.out w4 (hT1.below hb14) hb14).mono ?_
        rintro e w5 ⟨rfl, hb5⟩
        have hT5 := (hT1.below hb14).below hb5
        go_wp2_with fail
        refine (wakes01 _ hT5).mono ?_
        rintro e w6 ⟨rfl, hb6⟩
        go_wp2_with fail
        go_ret
        exact ⟨rfl, th hb1 (th hb14 (th hb5 hb6))⟩
      · obtain rfl := he1.symm
        obtain rfl : n1 = 0 := by simpa using ho1.len.symm
        have hne : (labE (sL s) != 0) = true := by simpa using h0
        obtain ⟨E, hE⟩ : ∃ E, E = labE (sL s) := ⟨_, rfl⟩
        rw [← hE] at hne ⊢
        clear h0 hE
        go_wp2_with fail
        refine (wakes01 _ hT1).mono ?_
        rintro e w3 ⟨rfl, hb3⟩
        go_wp2_with fail
        go_ret
        exact ⟨rfl, th hb1 hb3⟩
    · have hi1 : (400 : Int) < (m : Int) := by omega
      go_enter Tryd.func4, Tryd.ntmps4
      go_wp2_with fail
      go_ret
      exact ⟨rfl, Below.refl _ _⟩
  · have hi0 : (400 : Int) < (s.size : Int) := by omega
    go_enter Tryd.func4, Tryd.ntmps4
    go_wp2_with fail
    go_ret
    exact ⟨rfl, Below.refl _ _⟩

end Go.Proofs.YtnjbnhljnmemdaaDoor
