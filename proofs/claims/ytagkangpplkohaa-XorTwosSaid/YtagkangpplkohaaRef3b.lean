/-
  Contracts: casemateref01.All, Rest, Long; casematekeep.Rows; casematelaw03.Heavy.
-/
import Derived.Test.YtagkangpplkohaaRef3
namespace Go.Proofs.Ytagkangpplkohaa
open Go.RowKit
set_option linter.unusedVariables false

set_option maxHeartbeats 400000 in
theorem rall_any (N : Nat) (A : Option Addr) (n c : Nat) (L : List (List UInt8)) (w : World) (ha : Rs w A n c L) (hn : n ≤ 65536) (hN : N ≤ 65536) (hl : ∀ l ∈ L, l.length = N) :
    Calls Try.prog 23 #[.slice A n c, .int .i64 N] w fun e w' => ∃ V cv, e = .returned (.slice V N cv) ∧ Ow byteR 1 w' w.heap.size w.heap.size 5 (.slice V N cv) N (zxs (List.replicate N 0) L) ∧ Below w.heap.size w w' := by
  obtain ⟨i0, hi0, hz0, hz1, hz2⟩ := info_parts u8_info
  have hmk := run_make_all (P := Try.prog) 22 5 i0 _ 1 1 Try.underlying22 hi0 hz0 hz1 hz2 .i64 .i64 N (by omega) (by omega)
  simp only [Nat.mul_one, Value.cells] at hmk
  have HL := hide hl
  clear hl
  go_enter Try.func23, Try.ntmps23
  go_wp2
  go_loopw [5, 6] (fun v i wr => ∃ k : Nat, ∃ V cv, k ≤ n ∧ i = .int .i64 k ∧ v = .slice V N cv ∧ Ow byteR 1 wr w.heap.size w.heap.size 5 (.slice V N cv) N (zxs (List.replicate N 0) (L.take k)) ∧ Below w.heap.size w wr) (fun _ i _ => n - (intOf i).toNat)
  case atStart => exact ⟨0, _, _, Nat.zero_le _, rfl, rfl, made_zero w _ N (by omega), (Below.refl _ _).alloc (Nat.le_refl _) _⟩
  case round =>
    obtain ⟨k, V, cv, hk, rfl, rfl, ho, hb⟩ := hrel
    by_cases hlt : k < n
    · have har := ha.on bytesR_fine hb
      obtain ⟨ad, l, A1, n1, c1, rfl, _, hx, hs, hcell⟩ := at_row har hlt
      have hn1 : n1 = N := by rw [← hs.len]; exact HL.out l (List.mem_of_getElem? hx)
      subst hn1
      have hnext := zxs_step (o := List.replicate n1 0) hx
      have HN := hide hnext
      clear hx hnext
      go_wp2_with (go_at_call 22; refine (rtwo_any _ _ _ _ _ _ _ l _ (ho.read byteR_fine) hs (by omega) rfl).mono ?_; rintro e w2 ⟨V2, cv2, rfl, ho2, hb2⟩)
      rw [HN.out] at ho2
      go_roundw
      case rel => exact ⟨k + 1, _, _, by omega, by go_num, rfl, ho2.less byteR_fine hb.size hb.size, hb.trans (hb2.mono hb.size)⟩
      case measure => simp [intOf]; omega
    · go_wp2
      go_ret
      rw [List.take_of_length_le (by rw [ha.len]; omega)] at ho
      exact ⟨_, _, rfl, ho, hb⟩

set_option maxHeartbeats 400000 in
theorem rrest_any (A B : Option Addr) (n c m d miss : Nat) (L : List (List UInt8)) (p : List UInt8) (w : World) (ha : Rs w A m d L) (hp : Bs w B n c p) (hm : m ≤ 65536) (hn : n ≤ 65536) (hl : AllBut L miss n) :
    Calls Try.prog 24 #[.slice A m d, .int .i64 miss, .slice B n c] w fun e w' => ∃ V cv, e = .returned (.slice V n cv) ∧ Ow byteR 1 w' w.heap.size w.heap.size 5 (.slice V n cv) n (zxs p (L.eraseIdx miss)) ∧ Below w.heap.size w w' := by
  have HL := hide hl
  clear hl
  go_enter Try.func24, Try.ntmps24
  go_wp2_with (go_at_call 26; refine (twin_any _ _ _ p _ hp hn).mono ?_; rintro e w1 ⟨V1, cv1, rfl, ho1, hb1⟩)
  go_loopw [7, 8] (fun v i wr => ∃ k : Nat, ∃ V cv, k ≤ m ∧ i = .int .i64 k ∧ v = .slice V n cv ∧ Ow byteR 1 wr w.heap.size w.heap.size 5 (.slice V n cv) n (zxs p ((L.take k).eraseIdx miss)) ∧ Below w.heap.size w wr) (fun _ i _ => m - (intOf i).toNat)
  case atStart => exact ⟨0, _, _, Nat.zero_le _, rfl, rfl, by simpa [zxs] using ho1, hb1⟩
  case round =>
    obtain ⟨k, V, cv, hk, rfl, rfl, ho, hb⟩ := hrel
    by_cases hlt : k < m
    · have har := ha.on bytesR_fine hb
      obtain ⟨ad, l, A1, n1, c1, rfl, _, hx, hs, hcell⟩ := at_row har hlt
      have hl := hs.len
      by_cases hkm : k = miss
      · subst hkm
        have hb1 : (((k : Int)) != (k : Int)) = false := by simp
        have hnext := but_miss hx
        rw [← hnext] at ho
        clear hx hl hnext
        go_wp2
        go_roundw
        case rel => exact ⟨k + 1, _, _, by omega, by go_num, rfl, ho, hb⟩
        case measure => simp [intOf]; omega
      · have hb1 : ((k : Int) != (miss : Int)) = true := by simp; omega
        have hn1 : n1 = n := by rw [← hl]; exact HL.out k l hx hkm
        subst hn1
        have hnext := but_step (miss := miss) hx hkm
        have HN := hide hnext
        clear hx hnext hl
        go_wp2_with (go_at_call 22; refine (rtwo_any _ _ _ _ _ _ _ l _ (ho.read byteR_fine) hs (by omega) rfl).mono ?_; rintro e w2 ⟨V2, cv2, rfl, ho2, hb2⟩)
        rw [← zxs_snoc, ← HN.out] at ho2
        go_roundw
        case rel => exact ⟨k + 1, _, _, by omega, by go_num, rfl, ho2.less byteR_fine hb.size hb.size, hb.trans (hb2.mono hb.size)⟩
        case measure => simp [intOf]; omega
    · go_wp2
      go_ret
      rw [List.take_of_length_le (by rw [ha.len]; omega)] at ho
      exact ⟨_, _, rfl, ho, hb⟩

/-- Is each so long, but one? -/
def IsLong (L : List (List UInt8)) (N miss : Int) : Prop := ∀ (i : Nat) (l : List UInt8), L[i]? = some l → (i : Int) ≠ miss → (l.length : Int) = N

set_option maxHeartbeats 400000 in
theorem long_true (N miss : Int) (A : Option Addr) (n c : Nat) (L : List (List UInt8)) (w : World) (ha : Rs w A n c L) (hn : n ≤ 65536) (hl : IsLong L N miss) :
    Calls Try.prog 17 #[.slice A n c, .int .i64 N, .int .i64 miss] w fun e w' => e = .returned (.bool true) ∧ w = w' := by
  have HL := hide hl
  clear hl
  go_enter Try.func17, Try.ntmps17
  go_wp2
  go_loop [7] (fun i => ∃ k : Nat, k ≤ n ∧ i = .int .i64 k) (fun i => n - (intOf i).toNat)
  case atStart => exact ⟨0, Nat.zero_le _, rfl⟩
  case round =>
    obtain ⟨k, hk, rfl⟩ := hrel
    by_cases hlt : k < n
    · obtain ⟨ad, l, A1, n1, c1, rfl, _, hx, hs, hcell⟩ := at_row ha hlt
      have hll := hs.len
      subst hll
      by_cases hkm : (k : Int) = miss
      · have h1 : ((k : Int) != miss) = false := by simp [hkm]
        have HK := hide hkm
        clear hkm hx
        go_wp2
        go_round
        case rel => exact ⟨k + 1, by omega, by go_num⟩
        case measure => simp [intOf]; omega
      · have h1 : ((k : Int) != miss) = true := by simpa using hkm
        have hln := HL.out k l hx hkm
        have h2 : ((l.length : Int) != N) = false := by simp [hln]
        clear hln hx
        go_wp2
        go_round
        case rel => exact ⟨k + 1, by omega, by go_num⟩
        case measure => simp [intOf]; omega
    · go_wp2
      go_ret
      exact ⟨rfl, rfl⟩

set_option maxHeartbeats 400000 in
theorem long_false (N miss : Int) (A : Option Addr) (n c : Nat) (L : List (List UInt8)) (w : World) (ha : Rs w A n c L) (hn : n ≤ 65536) (hl : ¬ IsLong L N miss) :
    Calls Try.prog 17 #[.slice A n c, .int .i64 N, .int .i64 miss] w fun e w' => e = .returned (.bool false) ∧ w = w' := by
  have HL := hide hl
  clear hl
  go_enter Try.func17, Try.ntmps17
  go_wp2
  go_loop [7] (fun i => ∃ k : Nat, k ≤ n ∧ i = .int .i64 k ∧ Hid (∀ (j : Nat) (l : List UInt8), j < k → L[j]? = some l → (j : Int) ≠ miss → (l.length : Int) = N)) (fun i => n - (intOf i).toNat)
  case atStart => exact ⟨0, Nat.zero_le _, rfl, fun j l hj => absurd hj (by omega)⟩
  case round =>
    obtain ⟨k, hk, rfl, hg⟩ := hrel
    by_cases hlt : k < n
    · obtain ⟨ad, l, A1, n1, c1, rfl, _, hx, hs, hcell⟩ := at_row ha hlt
      have hll := hs.len
      subst hll
      have HX := hide hx
      clear hx
      by_cases hkm : (k : Int) = miss
      · have h1 : ((k : Int) != miss) = false := by simp [hkm]
        have hg' : Hid (∀ (j : Nat) (l : List UInt8), j < k + 1 → L[j]? = some l → (j : Int) ≠ miss → (l.length : Int) = N) := fun j l hj hx hne => hg j l (by omega) hx hne
        have HK := hide hkm
        clear hkm
        go_wp2
        go_round
        case rel => exact ⟨k + 1, by omega, by go_num, hg'⟩
        case measure => simp [intOf]; omega
      · have h1 : ((k : Int) != miss) = true := by simpa using hkm
        by_cases hln : (l.length : Int) = N
        · have h2 : ((l.length : Int) != N) = false := by simp [hln]
          have hg' : Hid (∀ (j : Nat) (l : List UInt8), j < k + 1 → L[j]? = some l → (j : Int) ≠ miss → (l.length : Int) = N) := by
            intro j l' hj hx hne
            by_cases hjk : j = k
            · subst hjk
              have h := hx.symm.trans HX.out
              injection h with h
              rw [h]
              exact hln
            · exact hg j l' (by omega) hx hne
          have HLN := hide hln
          clear hln
          go_wp2
          go_round
          case rel => exact ⟨k + 1, by omega, by go_num, hg'⟩
          case measure => simp [intOf]; omega
        · have h2 : ((l.length : Int) != N) = true := by simpa using hln
          go_wp2
          go_ret
          exact ⟨rfl, rfl⟩
    · exact absurd (fun j l hx hne => hg.out j l (by have := (List.getElem?_eq_some_iff.1 hx).1; rw [ha.len] at this; omega) hx hne) HL.out

/-- More than is played. -/
def heavyB (L : List (List UInt8)) : Bool := decide (20 < L.length) || L.any (fun l => decide (200 < l.length))

set_option maxHeartbeats 400000 in
theorem heavy_any (A : Option Addr) (n c : Nat) (L : List (List UInt8)) (w : World) (ha : Rs w A n c L) :
    Calls Try.prog 16 #[.slice A n c] w fun e w' => e = .returned (.bool (heavyB L)) ∧ w = w' := by
  have hll := ha.len
  by_cases h20 : 20 < n
  · have hv : heavyB L = true := by unfold heavyB; rw [hll]; simp [h20]
    have HV := hide hv
    clear hv hll
    go_enter Try.func16, Try.ntmps16
    go_wp2
    go_ret
    rw [HV.out]
    exact ⟨rfl, rfl⟩
  · have HLL := hide hll
    clear hll
    go_enter Try.func16, Try.ntmps16
    go_wp2
    go_loop [3] (fun i => ∃ k : Nat, k ≤ n ∧ i = .int .i64 k ∧ Hid ((L.take k).all (fun l => decide (l.length ≤ 200)) = true)) (fun i => n - (intOf i).toNat)
    case atStart => exact ⟨0, Nat.zero_le _, rfl, rfl⟩
    case round =>
      obtain ⟨k, hk, rfl, hg⟩ := hrel
      by_cases hlt : k < n
      · obtain ⟨ad, l, A1, n1, c1, rfl, _, hx, hs, hcell⟩ := at_row ha hlt
        have hll := hs.len
        subst hll
        have HX := hide hx
        clear hx
        by_cases hln : 200 < l.length
        · have hv : heavyB L = true := by
            unfold heavyB
            rw [Bool.or_eq_true]
            right
            rw [List.any_eq_true]
            exact ⟨l, List.mem_of_getElem? HX.out, by simpa using hln⟩
          have HV := hide hv
          clear hv
          go_wp2
          go_ret
          rw [HV.out]
          exact ⟨rfl, rfl⟩
        · go_wp2
          go_round
          case rel => exact ⟨k + 1, by omega, by go_num, all_take_step HX.out hg.out (by simp; omega)⟩
          case measure => simp [intOf]; omega
      · go_wp2
        go_ret
        have h := hg.out
        rw [List.take_of_length_le (by rw [HLL.out]; omega), List.all_eq_true] at h
        have hv : heavyB L = false := by
          unfold heavyB
          rw [Bool.or_eq_false_iff]
          refine ⟨by rw [HLL.out]; simpa using h20, ?_⟩
          rw [List.any_eq_false]
          intro l hl
          have := h l hl
          simp at this ⊢
          exact this
        rw [hv]
        exact ⟨rfl, rfl⟩

set_option maxHeartbeats 400000 in
theorem rows_true (A B : Option Addr) (n c d : Nat) (L : List (List UInt8)) (w : World) (ha : Rs w A n c L) (hb : Rs w B n d L) (hn : n ≤ 65536) (hl : ∀ l ∈ L, l.length ≤ 65536) :
    Calls Try.prog 25 #[.slice A n c, .slice B n d] w fun e w' => e = .returned (.bool true) ∧ ∃ q, w' = w.drewN q := by
  have HL := hide hl
  clear hl
  go_enter Try.func25, Try.ntmps25
  go_wp2
  go_loopw [5] (fun i wr => ∃ k : Nat, k ≤ n ∧ i = .int .i64 k ∧ Hid (∃ q, wr = w.drewN q)) (fun i _ => n - (intOf i).toNat)
  case atStart => exact ⟨0, Nat.zero_le _, rfl, 0, rfl⟩
  case round =>
    obtain ⟨k, hk, rfl, hq⟩ := hrel
    by_cases hlt : k < n
    · have hbw : Below w.heap.size w wr := by obtain ⟨q, rfl⟩ := hq; exact World.drewN_zero w ▸ ⟨rfl, rfl, rfl, Nat.le_refl _, fun _ _ => rfl⟩
      have har := ha.on bytesR_fine hbw
      have hbr := hb.on bytesR_fine hbw
      obtain ⟨ad, l, A1, n1, c1, rfl, _, hx, hs, hcell⟩ := at_row har hlt
      obtain ⟨bd, l', B1, m1, d1, rfl, _, hx', hs', hcell'⟩ := at_row hbr hlt
      rw [hx] at hx'
      injection hx' with hx'
      subst hx'
      have hn1 : n1 ≤ 65536 := by rw [← hs.len]; exact HL.out l (List.mem_of_getElem? hx)
      clear hx
      have hc : ∀ r, Calls Try.prog 14 #[.slice A1 n1 c1, .slice B1 m1 d1] (wr.drewN r) fun e w' => e = .returned (.bool true) ∧ ∃ m, w' = (wr.drewN r).drewN m := by
        intro r
        have h := bytes_any A1 B1 n1 c1 m1 d1 l l (wr.drewN r) (hs.move byteR_fine (fun _ _ => rfl) (fun _ h => h)) (hs'.move byteR_fine (fun _ _ => rfl) (fun _ h => h)) hn1
        simpa using h
      have HC := hide hc
      clear hc
      go_wp2
      go_quiet ((go_at_call 14; exact Calls.quiet_of (HC.out _)))
      go_wp2
      go_roundw
      case rel => exact ⟨k + 1, by omega, by go_num, by obtain ⟨q, rfl⟩ := hq; exact ⟨_, World.drewN_drewN _ _ _⟩⟩
      case measure => simp [intOf]; omega
    · go_wp2
      go_ret
      exact ⟨rfl, hq.out⟩

theorem isLong_iff (L : List (List UInt8)) (M : Nat) : IsLong L (M : Int) (-1) ↔ ∀ l ∈ L, l.length = M := by
  constructor
  · intro h l hl
    obtain ⟨j, hj, e⟩ := List.getElem_of_mem hl
    have := h j l (by rw [← e]; exact List.getElem?_eq_getElem hj) (by omega)
    omega
  · intro h i l hl _
    have := h l (List.mem_of_getElem? hl)
    omega
theorem allBut_iff (L : List (List UInt8)) (miss n : Nat) : AllBut L miss n ↔ IsLong L (n : Int) (miss : Int) := by
  constructor
  · intro h i l hl hne
    have := h i l hl (by omega)
    omega
  · intro h i l hl hne
    have := h i l hl (by omega)
    omega
end Go.Proofs.Ytagkangpplkohaa
