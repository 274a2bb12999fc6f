/-
  The walk of the law casematelaw04.PackRows.
-/
import Derived.Test.YtagkangpplkohaaLaw4
import Derived.Test.YtagkangpplkohaaPackU
namespace Go.Proofs.Ytagkangpplkohaa
open Go.RowKit
set_option linter.unusedVariables false

theorem fits_q1 {x z : Int} (h : FitsP x z) : ∀ wz, Calls Try.prog 32 #[.int .i64 x, .int .i64 z] wz fun e w' => e = .returned (.bool true) ∧ ∃ q, w' = wz.drewN q :=
  fun wz => (fits_true x z wz h).mono fun e w' ⟨h, hw⟩ => ⟨h, 0, by rw [← hw]; rfl⟩
theorem fits_q0 {x z : Int} (h : ¬ FitsP x z) : ∀ wz, Calls Try.prog 32 #[.int .i64 x, .int .i64 z] wz fun e w' => e = .returned (.bool false) ∧ ∃ q, w' = wz.drewN q :=
  fun wz => (fits_false x z wz h).mono fun e w' ⟨h, hw⟩ => ⟨h, 0, by rw [← hw]; rfl⟩

set_option maxHeartbeats 2000000 in
set_option maxRecDepth 100000 in
theorem law_packRows {A B C : Option Addr} {n c m d q r : Nat} {l s : List Int} {ys : List UInt8} {w : World} (ha : Is w A n c l) (hb : Is w B m d s) (hc : Bs w C q r ys) :
    Calls Try.prog 12 #[.slice A n c, .slice B m d, .slice C q r] w fun e w' => e = .returned (.bool true) ∧ Below w.heap.size w w' := by
  by_cases h1 : 60 < n
  · have e1 : decide (60 < (n : Int)) = true := by simp; omega
    go_enter Try.func12, Try.ntmps12
    go_wp2_with fail
    go_ret
    exact ⟨rfl, Below.refl _ _⟩
  have e1 : decide (60 < (n : Int)) = false := by simp; omega
  by_cases h2 : 60 < m
  · have e2 : decide (60 < (m : Int)) = true := by simp; omega
    go_enter Try.func12, Try.ntmps12
    go_wp2_with fail
    go_ret
    exact ⟨rfl, Below.refl _ _⟩
  have e2 : decide (60 < (m : Int)) = false := by simp; omega
  by_cases h3 : 60 < q
  · have e3 : decide (60 < (q : Int)) = true := by simp; omega
    go_enter Try.func12, Try.ntmps12
    go_wp2_with fail
    go_ret
    exact ⟨rfl, Below.refl _ _⟩
  have e3 : decide (60 < (q : Int)) = false := by simp; omega
  have hn60 : n ≤ 60 := by omega
  have hm60 : m ≤ 60 := by omega
  have hq60 : q ≤ 60 := by omega
  clear h1 h2 h3
  by_cases hnm : n = m
  case neg =>
    have hne : ((n : Int) != (m : Int)) = true := by simp; omega
    have HR := hide (row_len (A := A) (B := B) (c := c) (d := d) (w := w) hnm)
    go_enter Try.func12, Try.ntmps12
    go_wp2_with fail
    refine (unhide HR).mono ?_
    rintro e w' ⟨rfl, rfl⟩
    go_wp2_with fail
    refine (wakes4 _).mono ?_
    rintro e w1 ⟨rfl, hb1⟩
    go_wp2_with fail
    go_ret
    exact ⟨rfl, hb1⟩
  subst hnm
  have hla := ha.len
  have hlb := hb.len
  have hlc := hc.len
  by_cases hfa : FitAll l s
  case neg =>
    have HLA := hide hla
    have HLB := hide hlb
    have HFA := hide hfa
    have HR := hide (row_any ha hb (by omega))
    clear hla hlb hlc hfa
    go_enter Try.func12, Try.ntmps12
    go_wp2_with fail
    refine (unhide HR).mono ?_
    rintro e w1 ⟨hb1, ⟨hfa, _⟩ | ⟨_, rfl⟩⟩
    · exact absurd hfa HFA.out
    have a1 := ha.on intR_fine hb1
    have b1 := hb.on intR_fine hb1
    go_wp2_with fail
    go_loopw [9, 10, 11] (fun v o i wr => ∃ (k : Nat) (X : Int) (okb : Bool), k ≤ n ∧ i = .int .i64 k ∧ v = .int .i64 X ∧ o = .bool okb ∧ Below w1.heap.size w1 wr ∧ Hid (okb = true → ∀ (i : Nat) (x z : Int), i < k → l[i]? = some x → s[i]? = some z → FitsP x z)) (fun _ _ i _ => n - (intOf i).toNat)
    case atStart => exact ⟨0, 0, true, Nat.zero_le _, rfl, rfl, rfl, Below.refl _ _, fun _ i x z hi => absurd hi (by omega)⟩
    case round =>
      obtain ⟨k, X, okb, hk, rfl, rfl, rfl, hbw, hok⟩ := hrel
      by_cases hlt : k < n
      · obtain ⟨ad, x, rfl, _, hx, hxi, hxc⟩ := at_int (a1.on intR_fine hbw) hlt
        obtain ⟨bd, z, rfl, _, hz, hzi, hzc⟩ := at_int (b1.on intR_fine hbw) hlt
        cases okb with
        | false =>
          clear hx hz
          go_wp2_with fail
          go_quiet (fail)
          go_wp2_with fail
          go_roundw
          case rel => exact ⟨k + 1, X, false, by omega, by go_num, rfl, rfl, th hbw (drewN_below _ _), fun h => absurd h (by simp)⟩
          case measure => simp [intOf]; omega
        | true =>
          by_cases hf : FitsP x z
          · have HF := hide (fits_q1 hf)
            have hok2 : Hid (true = true → ∀ (i : Nat) (x z : Int), i < k + 1 → l[i]? = some x → s[i]? = some z → FitsP x z) := by
              intro _ i x' z' hi h1 h2
              by_cases hik : i = k
              · subst hik
                rw [hx] at h1
                rw [hz] at h2
                injection h1 with h1
                injection h2 with h2
                rw [← h1, ← h2]
                exact hf
              · exact hok.out rfl i x' z' (by omega) h1 h2
            clear hx hz hf
            go_wp2_with fail
            go_quiet ((go_at_call 32; exact Calls.quiet_of (HF.out _)))
            go_wp2_with fail
            go_roundw
            case rel => exact ⟨k + 1, _, true, by omega, by go_num, rfl, rfl, th hbw (drewN_below _ _), fun _ => hok2.out trivial⟩
            case measure => simp [intOf]; omega
          · have HF := hide (fits_q0 hf)
            clear hx hz hf
            go_wp2_with fail
            go_quiet ((go_at_call 32; exact Calls.quiet_of (HF.out _)))
            go_wp2_with fail
            go_roundw
            case rel => exact ⟨k + 1, _, false, by omega, by go_num, rfl, rfl, th hbw (drewN_below _ _), fun h => absurd h (by simp)⟩
            case measure => simp [intOf]; omega
      · obtain rfl : k = n := by omega
        cases okb with
        | true => exact absurd (fun i x z h1 h2 => hok.out rfl i x z (by have := (List.getElem?_eq_some_iff.1 h1).1; rw [HLA.out] at this; exact this) h1 h2) HFA.out
        | false =>
          go_wp2_with fail
          refine (wakes4 _).mono ?_
          rintro e w3 ⟨rfl, hb3⟩
          go_wp2_with fail
          go_ret
          exact ⟨rfl, th hb1 (th hbw hb3)⟩
  case pos =>
    obtain ⟨i0, hi0, hz0, hz1, hz2⟩ := info_parts u8_info
    have hsz : ∀ z ∈ s, Sized z := by
      intro z hz
      obtain ⟨i, hi, he⟩ := List.getElem_of_mem hz
      have h1 : s[i]? = some z := by rw [List.getElem?_eq_getElem hi, he]
      have h2 : i < l.length := by omega
      exact (hfa i l[i] z (List.getElem?_eq_getElem h2) h1).1
    have hsum : sumN s ≤ 240 := by
      have := sumN_le (s := s) (fun z hz => by rcases hsz z hz with h | h | h <;> omega)
      omega
    have hrl : (rowL l s).length = sumN s := rowL_len (by omega)
    obtain ⟨S, hS⟩ : ∃ S, S = sumN s := ⟨_, rfl⟩
    have hun := unrow_row (by omega : l.length = s.length) hfa ys
    have hdr : (rowL l s ++ ys).drop (sumN s) = ys := by rw [← hrl, List.drop_left]
    have htl : (rowL l s ++ ys).length = sumN s + q := by rw [List.length_append, hrl, hlc]
    have HLA := hide hla
    have HLB := hide hlb
    have HLC := hide hlc
    have HFA := hide hfa
    have HSZ := hide hsz
    have HRL := hide hrl
    have HUN := hide hun
    have HDR := hide hdr
    have HTL := hide htl
    have HSS := hide hS
    have HR := hide (row_any ha hb (by omega))
    rw [← hS] at hsum
    clear hla hlb hlc hfa hsz hrl hun hdr htl hS
    go_enter Try.func12, Try.ntmps12
    go_wp2_with fail
    refine (unhide HR).mono ?_
    rintro e w1 ⟨hb1, ⟨_, V1, c1, rfl, r1⟩ | ⟨hfa, _⟩⟩
    case inr => exact absurd HFA.out hfa
    rw [← HSS.out] at r1 ⊢
    have a1 := ha.on intR_fine hb1
    have b1 := hb.on intR_fine hb1
    have y1 := hc.on byteR_fine hb1
    go_wp2_with fail
    go_loopw [9, 10, 11] (fun v o i wr => ∃ k X : Nat, k ≤ n ∧ X ≤ 4 * k ∧ i = .int .i64 k ∧ v = .int .i64 X ∧ o = .bool true ∧ Below w1.heap.size w1 wr ∧ Hid (X = sumN (s.take k))) (fun _ _ i _ => n - (intOf i).toNat)
    case atStart => exact ⟨0, 0, Nat.zero_le _, Nat.le_refl _, rfl, rfl, rfl, Below.refl _ _, rfl⟩
    case round =>
      obtain ⟨k, X, hk, hX4, rfl, rfl, rfl, hbw, hX⟩ := hrel
      by_cases hlt : k < n
      · obtain ⟨ad, x, rfl, _, hx, hxi, hxc⟩ := at_int (a1.on intR_fine hbw) hlt
        obtain ⟨bd, z, rfl, _, hz, hzi, hzc⟩ := at_int (b1.on intR_fine hbw) hlt
        have hf := HFA.out k x z hx hz
        have HF := hide (fits_q1 hf)
        obtain ⟨Z, rfl, hZ4⟩ : ∃ Z : Nat, z = (Z : Int) ∧ Z ≤ 4 := ⟨z.toNat, by rcases hf.1 with h | h | h <;> omega, by rcases hf.1 with h | h | h <;> omega⟩
        have hsn := sumN_snoc hz
        rw [Int.toNat_natCast, ← hX.out] at hsn
        have HX2 : Hid (X + Z = sumN (s.take (k + 1))) := hsn.symm
        clear hx hz hf hsn
        go_wp2_with fail
        go_quiet ((go_at_call 32; exact Calls.quiet_of (HF.out _)))
        go_wp2_with fail
        go_roundw
        case rel => exact ⟨k + 1, X + Z, by omega, by omega, by go_num, by go_num, rfl, th hbw (drewN_below _ _), HX2⟩
        case measure => simp [intOf]; omega
      · obtain rfl : k = n := by omega
        have hXS : X = S := by
          have := hX.out
          rw [List.take_of_length_le (by rw [HLB.out]; omega)] at this
          rw [this, HSS.out]
        subst hXS
        have r2 := r1.on byteR_fine hbw
        have y2 := y1.on byteR_fine hbw
        go_wp2_with fail
        refine (twin_any _ _ _ _ _ r2 (by omega)).mono ?_
        rintro e w3 ⟨V3, c3, rfl, ho3, hb3⟩
        have y3 := y2.on byteR_fine hb3
        go_wp2_with (at_builtin; go_loud (refine wpList_append_ow _ rfl (.tmp 91) (.tmp 92) _ rfl byteR_fine wr.heap.size wr.heap.size 5 i0 _ 1 Try.underlying22 hi0 hz0 hz1 hz2 rfl (by omega) (.slice V3 X c3) X _ rfl ho3 _ C q r ys rfl y3 (fun _ _ _ h => h) (by simp only [maxLen]; omega) (by omega) hb3.size ?_); intro V4 w4 ho4 hg4 hat4)
        obtain ⟨V5, c5, rfl⟩ := ho4.form
        have hb4 : Below wr.heap.size wr w4 := hb3.trans (below_grown hg4 ho3.lt hb3.size)
        have b4 := (b1.on intR_fine hbw).on intR_fine hb4
        refine (unrow_any (ho4.read byteR_fine) b4 (by omega) (by omega) HSZ.out).mono ?_
        rintro e w5 ⟨hb5, ⟨_, V6, c6, V7, c7, rfl, r6, r7⟩ | ⟨hbad, _⟩⟩
        case inr => exact absurd hbad (by rw [HTL.out]; omega)
        have hqq : (rowL l s ++ ys).length - sumN s = q := by rw [HTL.out]; omega
        rw [hqq, HDR.out] at r7
        rw [HUN.out] at r6
        rw [HLB.out] at r6 ⊢
        rw [hqq]
        clear hqq
        have k5 := th hbw (th hb4 hb5)
        have a5 := a1.on intR_fine k5
        have b5 := b1.on intR_fine k5
        have y5 := y1.on byteR_fine k5
        have r5 := r1.on byteR_fine k5
        go_wp2_with fail
        refine (ints_same _ r6 a5 (by omega)).mono ?_
        rintro e w6 ⟨rfl, hb6⟩
        have r7 := r7.on byteR_fine hb6
        have y6 := y5.on byteR_fine hb6
        go_wp2_with fail
        refine (bytes_same _ r7 y6 (by omega)).mono ?_
        rintro e w7 ⟨rfl, hb7⟩
        have k7 := th k5 (th hb6 hb7)
        have r8 := r1.on byteR_fine k7
        have b8 := b1.on intR_fine k7
        by_cases hX0 : X = 0
        · have e0 : ((X : Int) == 0) = true := by simp; omega
          go_wp2_with fail
          refine (wakes4 _).mono ?_
          rintro e w9 ⟨rfl, hb9⟩
          go_wp2_with fail
          go_ret
          exact ⟨rfl, th hb1 (th k7 hb9)⟩
        · have e0 : ((X : Int) == 0) = false := by simp; omega
          obtain ⟨Y, rfl⟩ : ∃ Y, X = Y + 1 := ⟨X - 1, by omega⟩
          have t8 := r8.init_ (j := Y) (by omega)
          have htl : ((rowL l s).take Y).length < sumN s := by rw [List.length_take, HRL.out, ← HSS.out]; omega
          have HTT := hide htl
          have hcap := r8.cap
          clear htl hX0
          go_wp2_with fail
          refine (unrow_any t8 b8 (by omega) (by omega) HSZ.out).mono ?_
          rintro e w9 ⟨hb9, ⟨hbad, _⟩ | ⟨_, rfl⟩⟩
          · exact absurd hbad (by have := HTT.out; omega)
          go_wp2_with fail
          refine (wakes4 _).mono ?_
          rintro e w10 ⟨rfl, hb10⟩
          go_wp2_with fail
          go_ret
          exact ⟨rfl, th hb1 (th k7 (th hb9 hb10))⟩

end Go.Proofs.Ytagkangpplkohaa
