/-
  Contracts: casemateref01.Label, Runes, Cut, LabelBytes, ReadLabel.
-/
import Derived.Test.YtnjbnhljnmemdaaDoorLabS4
import Derived.Test.YtnjbnhljnmemdaaDoorLabC
namespace Go.Proofs.YtnjbnhljnmemdaaDoor
open Go.RowKit Go.Lib
set_option linter.unusedVariables false
set_option maxRecDepth 100000

theorem rune1_good {s : ByteArray} (hs : s.size ≤ 65536) {p r v : Nat} (h : p < s.size) (hd : Utf8.decode s p = (r, v)) (hv : ¬ Bad (r, v)) (w : World) :
    Calls Tryd.prog 22 #[.string (s.extract p s.size)] w fun e w' => e = .returned (.tuple #[.int .i64 v, .int .i64 r]) ∧ Below w.heap.size w w' := by
  have h1 := rune1_at s hs p h w
  have e : told (decodeL ((sL s).drop p)) = (v, r) := by rw [decodeL_drop, hd]; unfold told; rw [if_neg hv]
  rwa [e] at h1
theorem rune1_bad {s : ByteArray} (hs : s.size ≤ 65536) {p r v : Nat} (h : p < s.size) (hd : Utf8.decode s p = (r, v)) (hv : Bad (r, v)) (w : World) :
    Calls Tryd.prog 22 #[.string (s.extract p s.size)] w fun e w' => e = .returned (.tuple #[.int .i64 0, .int .i64 0]) ∧ Below w.heap.size w w' := by
  have h1 := rune1_at s hs p h w
  have e : told (decodeL ((sL s).drop p)) = (0, 0) := by rw [decodeL_drop, hd]; unfold told; rw [if_pos hv]
  rwa [e] at h1

set_option maxHeartbeats 2000000 in
theorem rlabel_any (s : ByteArray) (hs : s.size ≤ 65536) (w : World) :
    Calls Tryd.prog 12 #[.string s] w fun e w' => e = .returned (.int .i64 (labE (sL s))) ∧ Below w.heap.size w w' := by
  have hcl := runes_le (sL s)
  rw [sL_len] at hcl
  obtain ⟨C, hC⟩ : ∃ C, C = (decs (sL s)).length := ⟨_, rfl⟩
  obtain ⟨E, hE⟩ : ∃ E, E = labE (sL s) := ⟨_, rfl⟩
  rw [← hC] at hcl
  rw [← hE]
  have HC := hide hC
  have HE := hide hE
  clear hC hE
  go_enter Tryd.func12, Tryd.ntmps12
  go_wp2_with fail
  go_loopw [3, 4] (fun n i wr => ∃ k p : Nat, k ≤ C ∧ n = .int .i64 k ∧ i = .int .i64 p ∧ p ≤ s.size ∧ Hid (p = posN (sL s) k) ∧ Hid (∀ x ∈ (decs (sL s)).take k, Good x) ∧ Below w.heap.size w wr) (fun _ i _ => s.size - (RowKit.intOf i).toNat)
  case atStart => exact ⟨0, 0, Nat.zero_le _, rfl, rfl, Nat.zero_le _, (posN_zero _).symm, by intro x hx; simp at hx, Below.refl _ _⟩
  case round =>
    obtain ⟨k, p, hk, rfl, rfl, hps, hp, hfit, hb⟩ := hrel
    by_cases hlt : p < s.size
    · have hst := rune_step (s := s) (k := k) (by rw [← hp.out]; exact hlt)
      rw [← hp.out, ← HC.out] at hst
      obtain ⟨hk2, hx, hpp⟩ := hst
      have hle := decode_le s p
      have hwd : 1 ≤ (Utf8.decode s p).2 := by
        have := decodeL_width ((sL s).drop p)
        rwa [decodeL_drop] at this
      have hpe := rune_pos (s := s) (k + 1)
      obtain ⟨⟨r, v⟩, hr⟩ : ∃ d, d = Utf8.decode s p := ⟨_, rfl⟩
      rw [← hr] at hle hx hpp hwd
      rw [hpp] at hpe
      dsimp only at hle hpp hwd hpe
      have hpi : (p : Int) ≤ (s.size : Int) := by omega
      have hpi0 : (0 : Int) ≤ (p : Int) := by omega
      have HX := hide hx
      have HPP := hide hpp
      by_cases hbad : Bad (r, v)
      · have hca := fun w => rune1_bad hs hlt hr.symm hbad w
        have hEF : E = 3 := by
          rw [HE.out]
          unfold labE
          rw [if_neg (fun h => (h _ (List.mem_of_getElem? HX.out)).1 hbad)]
        subst hEF
        have HCA := hide hca
        clear hbad hca hr hx hpp hle
        go_wp2_with fail
        refine (HCA.out _).mono ?_
        rintro e w1 ⟨rfl, hb1⟩
        go_wp2_with fail
        go_ret
        exact ⟨rfl, th hb hb1⟩
      · have hca := fun w => rune1_good hs hlt hr.symm hbad w
        have HCA := hide hca
        have HBAD := hide hbad
        clear hca hr hx hpp hbad
        have hv0 : ((v : Int) == 0) = false := by simp; omega
        by_cases hf : Fit (r, v)
        · obtain ⟨hf1, hf2⟩ := hf
          dsimp only at hf1 hf2
          have e1 : ((r : Int) == 127) = false := by simp; omega
          have hi32 : ¬ (r : Int) < 32 := by omega
          have hn : ∀ x ∈ (decs (sL s)).take (k + 1), Good x := by
            obtain ⟨h1, h2⟩ := List.getElem?_eq_some_iff.1 HX.out
            rw [List.take_succ_eq_append_getElem h1, h2]
            intro x hx
            rcases List.mem_append.1 hx with hx | hx
            · exact hfit.out x hx
            · simp at hx; subst hx; exact ⟨HBAD.out, hf1, hf2⟩
          have HN := hide hn
          clear hn hf2
          go_wp2_with fail
          refine (HCA.out _).mono ?_
          rintro e w1 ⟨rfl, hb1⟩
          go_wp2_with fail
          go_roundw
          case rel => exact ⟨k + 1, p + v, by omega, by go_num, by go_num, by omega, hide HPP.out.symm, HN, th hb hb1⟩
          case measure => (first | omega | (simp [RowKit.intOf]; omega) | (unfold RowKit.intOf; simp; omega) | go_num)
        · have hEF : E = 3 := by
            rw [HE.out]
            unfold labE
            rw [if_neg (fun h => hf (h _ (List.mem_of_getElem? HX.out)).2)]
          subst hEF
          by_cases h32 : r < 32
          · have hi : (r : Int) < 32 := by omega
            clear hf
            go_wp2_with fail
            refine (HCA.out _).mono ?_
            rintro e w1 ⟨rfl, hb1⟩
            go_wp2_with fail
            go_ret
            exact ⟨rfl, th hb hb1⟩
          · obtain rfl : r = 127 := by
              by_cases h7 : r = 127
              · exact h7
              · exact absurd ⟨by show 32 ≤ r; omega, h7⟩ hf
            clear hf
            go_wp2_with fail
            refine (HCA.out _).mono ?_
            rintro e w1 ⟨rfl, hb1⟩
            go_wp2_with fail
            go_ret
            exact ⟨rfl, th hb hb1⟩
    · have hen := rune_end (s := s) (k := k) (by rw [← hp.out]; exact hlt)
      rw [← HC.out] at hen
      obtain rfl : k = C := by omega
      have hall : ∀ x ∈ decs (sL s), Good x := by
        have h := hfit.out
        rwa [List.take_of_length_le (by rw [← HC.out]; exact Nat.le_refl _)] at h
      have hEE : E = if 6 < k then 2 else 0 := by rw [HE.out]; unfold labE; rw [if_pos hall, ← HC.out]
      clear hen hall
      by_cases h6 : 6 < k
      · rw [if_pos h6] at hEE
        subst hEE
        have hi6 : (6 : Int) < (k : Int) := by omega
        clear h6
        go_wp2_with fail
        go_ret
        exact ⟨rfl, hb⟩
      · rw [if_neg h6] at hEE
        subst hEE
        have hi6 : ¬ (6 : Int) < (k : Int) := by omega
        clear h6
        go_wp2_with fail
        go_ret
        exact ⟨rfl, hb⟩

set_option maxHeartbeats 2000000 in
theorem rrunes_any (s : ByteArray) (hs : s.size ≤ 65536) (w : World) :
    Calls Tryd.prog 18 #[.string s] w fun e w' => e = .returned (.int .i64 (decs (sL s)).length) ∧ Below w.heap.size w w' := by
  have hcl := runes_le (sL s)
  rw [sL_len] at hcl
  obtain ⟨C, hC⟩ : ∃ C, C = (decs (sL s)).length := ⟨_, rfl⟩
  rw [← hC] at hcl ⊢
  have HC := hide hC
  clear hC
  go_enter Tryd.func18, Tryd.ntmps18
  go_wp2_with fail
  go_loopw [3, 4] (fun n i wr => ∃ k p : Nat, k ≤ C ∧ n = .int .i64 k ∧ i = .int .i64 p ∧ p ≤ s.size ∧ Hid (p = posN (sL s) k) ∧ Below w.heap.size w wr) (fun _ i _ => s.size - (RowKit.intOf i).toNat)
  case atStart => exact ⟨0, 0, Nat.zero_le _, rfl, rfl, Nat.zero_le _, (posN_zero _).symm, Below.refl _ _⟩
  case round =>
    obtain ⟨k, p, hk, rfl, rfl, hps, hp, hb⟩ := hrel
    by_cases hlt : p < s.size
    · have hst := rune_step (s := s) (k := k) (by rw [← hp.out]; exact hlt)
      rw [← hp.out, ← HC.out] at hst
      obtain ⟨hk2, hx, hpp⟩ := hst
      have hwd : 1 ≤ (Utf8.decode s p).2 := by
        have := decodeL_width ((sL s).drop p)
        rwa [decodeL_drop] at this
      have hpe := rune_pos (s := s) (k + 1)
      obtain ⟨⟨r, v⟩, hr⟩ : ∃ d, d = Utf8.decode s p := ⟨_, rfl⟩
      rw [← hr] at hpp hwd
      rw [hpp] at hpe
      dsimp only at hpp hwd hpe
      have hpi : (p : Int) ≤ (s.size : Int) := by omega
      have hpi0 : (0 : Int) ≤ (p : Int) := by omega
      have HPP := hide hpp
      by_cases hbad : Bad (r, v)
      · have hca := fun w => rune1_bad hs hlt hr.symm hbad w
        obtain rfl : v = 1 := hbad.2
        have HCA := hide hca
        clear hbad hca hr hx hpp
        go_wp2_with fail
        refine (HCA.out _).mono ?_
        rintro e w1 ⟨rfl, hb1⟩
        go_wp2_with fail
        go_roundw
        case rel => exact ⟨k + 1, p + 1, by omega, by go_num, by go_num, by omega, hide HPP.out.symm, th hb hb1⟩
        case measure => (first | omega | (simp [RowKit.intOf]; omega) | (unfold RowKit.intOf; simp; omega) | go_num)
      · have hca := fun w => rune1_good hs hlt hr.symm hbad w
        have HCA := hide hca
        have hmx : max (v : Int) 1 = (v : Int) := by omega
        clear hca hr hx hpp hbad
        go_wp2_with fail
        refine (HCA.out _).mono ?_
        rintro e w1 ⟨rfl, hb1⟩
        go_wp2_with fail
        go_roundw
        case rel => exact ⟨k + 1, p + v, by omega, by go_num, by go_num, by omega, hide HPP.out.symm, th hb hb1⟩
        case measure => (first | omega | (simp [RowKit.intOf]; omega) | (unfold RowKit.intOf; simp; omega) | go_num)
    · have hen := rune_end (s := s) (k := k) (by rw [← hp.out]; exact hlt)
      rw [← HC.out] at hen
      obtain rfl : k = C := by omega
      clear hen
      go_wp2_with fail
      go_ret
      exact ⟨rfl, hb⟩

set_option maxHeartbeats 2000000 in
theorem rcut_any (s : ByteArray) (hs : s.size ≤ 65536) (n : Int) (hn : InI n) (w : World) :
    Calls Tryd.prog 20 #[.string s, .int .i64 n] w fun e w' => e = .returned (.string (mkS (cutL (sL s) n))) ∧ Below w.heap.size w w' := by
  have hcl := runes_le (sL s)
  rw [sL_len] at hcl
  obtain ⟨C, hC⟩ : ∃ C, C = (decs (sL s)).length := ⟨_, rfl⟩
  rw [← hC] at hcl
  obtain ⟨Z, hZ⟩ : ∃ Z, Z = mkS (cutL (sL s) n) := ⟨_, rfl⟩
  rw [← hZ]
  obtain ⟨m, hm⟩ : ∃ m : Nat, m = n.toNat := ⟨_, rfl⟩
  have HC := hide hC
  have HZ := hide hZ
  have hfin : ∀ p, p ≤ s.size → p = posN (sL s) m → s.extract 0 p = Z := fun p hp e => by
    rw [hZ, sL_extract s 0 p hp, List.drop_zero, Nat.sub_zero, cutL, ← hm, e]
  have HF := hide hfin
  have hmn : ∀ k : Nat, k ≤ m → (k : Int) < n ∨ (¬ (k : Int) < n ∧ k = m) := fun k hk => by omega
  have HMN := hide hmn
  have hkl : ∀ k : Nat, (k : Int) < n → k + 1 ≤ m := fun k hk => by omega
  have HKL := hide hkl
  clear hC hZ hfin hm hmn hkl
  go_enter Tryd.func20, Tryd.ntmps20
  go_wp2_with fail
  go_loopw [5, 6] (fun i v wr => ∃ k p : Nat, k ≤ C ∧ k ≤ m ∧ v = .int .i64 k ∧ i = .int .i64 p ∧ p ≤ s.size ∧ Hid (p = posN (sL s) k) ∧ Below w.heap.size w wr) (fun i _ _ => s.size - (RowKit.intOf i).toNat)
  case atStart => exact ⟨0, 0, Nat.zero_le _, Nat.zero_le _, rfl, rfl, Nat.zero_le _, (posN_zero _).symm, Below.refl _ _⟩
  case round =>
    obtain ⟨k, p, hk, hkm, rfl, rfl, hps, hp, hb⟩ := hrel
    have hpi : (p : Int) ≤ (s.size : Int) := by omega
    have hpi0 : (0 : Int) ≤ (p : Int) := by omega
    rcases HMN.out k hkm with hkn | ⟨hkn, hke⟩
    · have hkm1 := HKL.out k hkn
      by_cases hlt : p < s.size
      · have hst := rune_step (s := s) (k := k) (by rw [← hp.out]; exact hlt)
        rw [← hp.out, ← HC.out] at hst
        obtain ⟨hk2, hx, hpp⟩ := hst
        have hwd : 1 ≤ (Utf8.decode s p).2 := by
          have := decodeL_width ((sL s).drop p)
          rwa [decodeL_drop] at this
        have hpe := rune_pos (s := s) (k + 1)
        obtain ⟨⟨r, v⟩, hr⟩ : ∃ d, d = Utf8.decode s p := ⟨_, rfl⟩
        rw [← hr] at hpp hwd
        rw [hpp] at hpe
        dsimp only at hpp hwd hpe
        have HPP := hide hpp
        by_cases hbad : Bad (r, v)
        · have hca := fun w => rune1_bad hs hlt hr.symm hbad w
          obtain rfl : v = 1 := hbad.2
          have HCA := hide hca
          clear hbad hca hr hx hpp
          go_wp2_with fail
          refine (HCA.out _).mono ?_
          rintro e w1 ⟨rfl, hb1⟩
          go_wp2_with fail
          go_roundw
          case rel => exact ⟨k + 1, p + 1, by omega, by omega, by go_num, by go_num, by omega, hide HPP.out.symm, th hb hb1⟩
          case measure => (first | omega | (simp [RowKit.intOf]; omega) | (unfold RowKit.intOf; simp; omega) | go_num)
        · have hca := fun w => rune1_good hs hlt hr.symm hbad w
          have HCA := hide hca
          have hmx : max (v : Int) 1 = (v : Int) := by omega
          clear hca hr hx hpp hbad
          go_wp2_with fail
          refine (HCA.out _).mono ?_
          rintro e w1 ⟨rfl, hb1⟩
          go_wp2_with fail
          go_roundw
          case rel => exact ⟨k + 1, p + v, by omega, by omega, by go_num, by go_num, by omega, hide HPP.out.symm, th hb hb1⟩
          case measure => (first | omega | (simp [RowKit.intOf]; omega) | (unfold RowKit.intOf; simp; omega) | go_num)
      · have hen := rune_end (s := s) (k := k) (by rw [← hp.out]; exact hlt)
        rw [← HC.out] at hen
        have hz : s.extract 0 p = Z := HF.out p hps (by rw [posN_all (by rw [← HC.out]; omega), sL_len]; omega)
        have HZ2 := hide hz
        clear hen hz
        go_wp2_with fail
        go_ret
        exact ⟨by rw [← HZ2.out]; rfl, hb⟩
    · have hz : s.extract 0 p = Z := HF.out p hps (by rw [hp.out, hke])
      have HZ2 := hide hz
      clear hz hke
      go_wp2_with fail
      go_ret
      exact ⟨by rw [← HZ2.out]; rfl, hb⟩

/-- A label's bytes. -/
theorem rlbytes_any (s : ByteArray) (hs : s.size ≤ 255) (w : World) :
    Calls Tryd.prog 16 #[.string s] w fun e w' => Below w.heap.size w w' ∧ ∃ V c, e = .returned (.slice V (1 + s.size) c) ∧ Ow byteR 1 w' w.heap.size 0 5 (.slice V (1 + s.size) c) (1 + s.size) (labB (sL s)) := by
  obtain ⟨j0, hj0, hy0, hy1, hy2⟩ := info_parts u8_info
  have hbv : ((UInt8.ofNat s.size).toNat : Int) = (s.size : Int) := by
    rw [UInt8.toNat_ofNat']
    omega
  obtain ⟨b, hb⟩ : ∃ b, b = UInt8.ofNat s.size := ⟨_, rfl⟩
  have hbb : (s.size : Int) = (b.toNat : Int) := by rw [hb]; exact hbv.symm
  have hlab : labB (sL s) = [b] ++ sL s := by rw [labB, sL_len, hb]; rfl
  have hi : (s.size : Int) ≤ 255 := by omega
  have hi0 : (0 : Int) ≤ (s.size : Int) := by omega
  have ho3 := lit_own (w := w) (e := 5) hbb 0
  have hE3 := alloc_below w (.cells #[.int .u8 s.size] 5)
  have hs3 : w.heap.size ≤ (w.alloc (.cells #[.int .u8 s.size] 5)).heap.size := hE3.size
  have HLAB := hide hlab
  clear hbv hb hbb hlab
  go_enter Tryd.func16, Tryd.ntmps16
  go_wp2_with (at_builtin; refine wpList_append_str _ rfl (.tmp 6) (.tmp 7) _ _ rfl w.heap.size 0 5 j0 Tryd.underlying22 Tryd.underlying9 hj0 hy0 hy1 hy2 (.slice (some ⟨w.heap.size, 0, none⟩) 1 1) 1 [b] rfl ho3 s rfl (by omega) hs3 ?_; intro V4 w4 ho4 hg4; obtain ⟨A4, c4, rfl⟩ := ho4.form; have hb4 := below_grown (base := w.heap.size) hg4 ho3.lt hs3)
  go_ret
  exact ⟨hE3.trans hb4, A4, c4, rfl, by rw [HLAB.out]; exact ho4⟩

/-- What casemateref01.ReadLabel tells. -/
def RRead (b : List UInt8) (t : List UInt8) (k : Int) : Prop := (∃ l, readLab b = some l ∧ t = l ∧ k = 1 + (l.length : Int)) ∨ (readLab b = none ∧ t = [] ∧ k = 0)
def RReadPost (w : World) (b : List UInt8) (e : Ending) (w' : World) : Prop := Below w.heap.size w w' ∧ ∃ t k, e = .returned (.tuple #[.string (mkS t), .int .i64 k]) ∧ RRead b t k

set_option maxHeartbeats 2000000 in
theorem rread_any (A : Option Addr) (n c : Nat) (b : List UInt8) (w : World) (hb : Bs w A n c b) (hn : n ≤ 60000) :
    Calls Tryd.prog 13 #[.slice A n c] w (RReadPost w b) := by
  unfold RReadPost RRead
  have hlen := hb.len
  by_cases h0 : n = 0
  · subst h0
    have hb0 : b = [] := List.eq_nil_of_length_eq_zero hlen
    subst hb0
    go_enter Tryd.func13, Tryd.ntmps13
    go_wp2_with fail
    go_ret2
    exact ⟨Below.refl _ _, [], 0, rfl, .inr ⟨rfl, rfl, rfl⟩⟩
  · obtain ⟨ad, x, rfl, hadl, hx, hc0⟩ := at_byte hb (show 0 < n by omega)
    rw [add_zero'] at hc0
    obtain ⟨r, hr⟩ : ∃ r, b = x :: r := by
      cases b with
      | nil => simp at hx
      | cons y r => simp at hx; subst hx; exact ⟨r, rfl⟩
    have hx0 := x.toNat_lt
    obtain ⟨X, hX⟩ : ∃ X, X = x.toNat := ⟨_, rfl⟩
    rw [← hX] at hc0 hx0
    have hcap := hb.cap
    have hn0 : ((n : Int) == 0) = false := by simp; omega
    have h0n : 0 < n := by omega
    have HX := hide hX
    clear hX
    have hrl : r.length + 1 = n := by rw [← hlen, hr]; rfl
    by_cases hlt : n < 1 + X
    · have hlti : (n : Int) < 1 + (X : Int) := by omega
      have hno : readLab b = none := by
        rw [hr]
        unfold readLab
        dsimp only
        rw [if_pos (by rw [← HX.out]; omega)]
      have HNO := hide hno
      clear hno hr hx h0 hrl hlen
      go_enter Tryd.func13, Tryd.ntmps13
      go_wp2_with fail
      go_ret2
      exact ⟨Below.refl _ _, [], 0, rfl, .inr ⟨HNO.out, rfl, rfl⟩⟩
    · have hlti : ¬ (n : Int) < 1 + (X : Int) := by omega
      have hrd : readLab b = if labE (r.take X) = 0 then some (r.take X) else none := by
        rw [hr]
        unfold readLab
        dsimp only
        rw [← HX.out, if_neg (by omega)]
      have hts : (mkS (r.take X)).size ≤ 65536 := by rw [← sL_len, sL_mk, List.length_take]; omega
      have htl : (r.take X).length = X := by rw [List.length_take]; omega
      have htz : (mkS (r.take X)).size = X := by rw [← sL_len, sL_mk, htl]
      have hck := rlabel_any (mkS (r.take X)) hts w
      rw [sL_mk] at hck
      obtain ⟨T, hT2⟩ : ∃ T, T = r.take X := ⟨_, rfl⟩
      rw [← hT2] at hrd hck htl htz
      have HRD := hide hrd
      have HTL := hide htl
      have hsl : ∃ A' c', (convert 22 9 (.slice A' X c')).run Tryd.prog w = .ok (.string (mkS T)) w ∧ ((c = 1 ∧ n = 1 ∧ X = 0 ∧ A' = some ad ∧ c' = 0) ∨ (c ≠ 1 ∧ A' = some ⟨ad.block, ad.off + 1, none⟩ ∧ c' = c - 1)) := by
        by_cases hc1 : c = 1
        · have hX0 : X = 0 := by omega
          have hT0 : T = [] := by rw [hT2, hX0, List.take_zero]
          subst hX0
          rw [hT0]
          exact ⟨some ad, 0, conv_bs1 (Sl.empty_ _ _) _ _ 5 Tryd.underlying22 Tryd.underlying5 Tryd.underlying9, .inl ⟨hc1, by omega, rfl, rfl, rfl⟩⟩
        · have h1 := cut1 (i := 1) (j := 1 + X) hb (by omega) (by omega) hc1
          rw [Nat.add_sub_cancel_left, hr, List.drop_succ_cons, List.drop_zero, ← hT2] at h1
          exact ⟨_, _, conv_bs1 h1 _ _ 5 Tryd.underlying22 Tryd.underlying5 Tryd.underlying9, .inr ⟨hc1, rfl, rfl⟩⟩
      obtain ⟨A', c', hcv, hsl⟩ := hsl
      have e1 : (1 : Int) + (X : Int) - 1 = (X : Int) := by omega
      have htz2 : ((mkS T).size : Int) = (X : Int) := by omega
      by_cases hE : labE T = 0
      · rw [hE] at hck
        have HCK := hide hck
        have HE := hide hE
        clear hrd hck hE hT2 htl hr hx hlen h0 hrl htz
        rcases hsl with ⟨rfl, rfl, rfl, rfl, rfl⟩ | ⟨hc1, rfl, rfl⟩
        · go_enter Tryd.func13, Tryd.ntmps13
          go_wp2_with fail
          refine HCK.out.mono ?_
          rintro e w1 ⟨rfl, hb1⟩
          go_wp2_with fail
          go_ret2
          exact ⟨hb1, T, 1, rfl, .inl ⟨T, by rw [HRD.out, if_pos HE.out], rfl, by rw [HTL.out]; rfl⟩⟩
        · go_enter Tryd.func13, Tryd.ntmps13
          go_wp2_with fail
          refine HCK.out.mono ?_
          rintro e w1 ⟨rfl, hb1⟩
          go_wp2_with fail
          go_ret2
          exact ⟨hb1, T, 1 + X, rfl, .inl ⟨T, by rw [HRD.out, if_pos HE.out], rfl, by rw [HTL.out]⟩⟩
      · obtain ⟨E, hEE⟩ : ∃ E, E = labE T := ⟨_, rfl⟩
        rw [← hEE] at hck hE
        have hne : (E != 0) = true := by simpa using hE
        have HCK := hide hck
        have HE := hide hE
        have HEE := hide hEE
        clear hrd hck hE hEE hT2 htl hr hx hlen h0 hrl htz
        rcases hsl with ⟨rfl, rfl, rfl, rfl, rfl⟩ | ⟨hc1, rfl, rfl⟩
        · go_enter Tryd.func13, Tryd.ntmps13
          go_wp2_with fail
          refine HCK.out.mono ?_
          rintro e w1 ⟨rfl, hb1⟩
          go_wp2_with fail
          go_ret2
          exact ⟨hb1, [], 0, rfl, .inr ⟨by rw [HRD.out, if_neg (by rw [← HEE.out]; exact HE.out)], rfl, rfl⟩⟩
        · go_enter Tryd.func13, Tryd.ntmps13
          go_wp2_with fail
          refine HCK.out.mono ?_
          rintro e w1 ⟨rfl, hb1⟩
          go_wp2_with fail
          go_ret2
          exact ⟨hb1, [], 0, rfl, .inr ⟨by rw [HRD.out, if_neg (by rw [← HEE.out]; exact HE.out)], rfl, rfl⟩⟩

end Go.Proofs.YtnjbnhljnmemdaaDoor
