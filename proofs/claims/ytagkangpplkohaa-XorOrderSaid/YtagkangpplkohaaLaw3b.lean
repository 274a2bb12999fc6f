/-
  The walk of the law casematelaw03.XorRest.
-/
import Derived.Test.YtagkangpplkohaaLaw3
namespace Go.Proofs.Ytagkangpplkohaa
open Go.RowKit
set_option linter.unusedVariables false

theorem heavy_len {L : List (List UInt8)} (h : heavyB L = false) : L.length ≤ 20 ∧ ∀ l ∈ L, l.length ≤ 200 := by
  unfold heavyB at h
  rw [Bool.or_eq_false_iff, List.any_eq_false] at h
  refine ⟨by simpa using h.1, fun l hl => ?_⟩
  have := h.2 l hl
  simpa using this

/-- int(uint(i) % uint(n)) is one of 0 .. n-1. -/
theorem uint_mod (i : Int) (n : Nat) (hn : 1 ≤ n) (hn' : n ≤ 65536) : ∃ k : Nat, wrap64 ((IntKind.u64.wrap i).tmod (n : Int)) = (k : Int) ∧ k < n := by
  have h0 : 0 ≤ IntKind.u64.wrap i := by rw [IntKind.wrap_u64]; exact Int.emod_nonneg _ (by omega)
  have h1 : (IntKind.u64.wrap i).tmod (n : Int) = IntKind.u64.wrap i % (n : Int) := Int.tmod_eq_emod_of_nonneg h0
  have h2 : 0 ≤ IntKind.u64.wrap i % (n : Int) := Int.emod_nonneg _ (by omega)
  have h3 : IntKind.u64.wrap i % (n : Int) < n := Int.emod_lt_of_pos _ (by omega)
  rw [h1, IntWalk.wrap64_in _ ⟨by omega, by omega⟩]
  exact ⟨(IntKind.u64.wrap i % (n : Int)).toNat, by omega, by omega⟩

/-- The parity of a row, and the row without one: what is left is that one. -/
theorem zxs_zero (N : Nat) (x : List UInt8) (h : x.length = N) : zx (List.replicate N 0) x = x := by
  unfold zx
  apply List.ext_getElem
  · simp; omega
  · intro i h1 h2
    simp
theorem zx_assoc (a b c : List UInt8) : zx (zx a b) c = zx a (zx b c) := by
  unfold zx
  apply List.ext_getElem
  · simp [Nat.min_assoc]
  · intro i h1 h2
    simp [UInt8.xor_assoc]
theorem zx_right_comm (a b c : List UInt8) : zx (zx a b) c = zx (zx a c) b := by rw [zx_assoc, zx_comm b c, ← zx_assoc]
theorem zxs_swap (o x : List UInt8) (L : List (List UInt8)) : zxs (zx o x) L = zx (zxs o L) x := by
  induction L generalizing o with
  | nil => rfl
  | cons y L ih => simp only [zxs, List.foldl_cons] at ih ⊢; rw [zx_right_comm, ih]
theorem zxs_len (o : List UInt8) (L : List (List UInt8)) (N : Nat) (ho : o.length = N) (hL : ∀ l ∈ L, l.length = N) : (zxs o L).length = N := by
  induction L generalizing o with
  | nil => exact ho
  | cons y L ih =>
    simp only [zxs, List.foldl_cons]
    exact ih (zx o y) (by rw [zx_len, ho, hL y (by simp)]; omega) (fun l hl => hL l (by simp [hl]))
theorem zxs_cons_erase (o : List UInt8) (L : List (List UInt8)) (k : Nat) (hk : k < L.length) : zxs o L = zx (zxs o (L.eraseIdx k)) L[k] := by
  induction L generalizing o k with
  | nil => simp at hk
  | cons y L ih =>
    cases k with
    | zero =>
      show zxs (zx o y) L = zx (zxs o L) y
      exact zxs_swap o y L
    | succ k =>
      show zxs (zx o y) L = _
      rw [ih (zx o y) k (by simpa using hk)]
      rfl
theorem zx_self' (a : List UInt8) (N : Nat) (h : a.length = N) : zx a a = List.replicate N 0 := by rw [zx_self, h]

/-- All rows of length N, from any start: xored twice over the same rows, it is the start. -/
theorem zxs_twice (o : List UInt8) (L : List (List UInt8)) (N : Nat) (ho : o.length = N) (hL : ∀ l ∈ L, l.length = N) : zxs (zxs o L) L = o := by
  induction L generalizing o with
  | nil => rfl
  | cons y L ih =>
    have hy : y.length = N := hL y (by simp)
    have hL' : ∀ l ∈ L, l.length = N := fun l hl => hL l (by simp [hl])
    show zxs (zx (zxs (zx o y) L) y) L = o
    rw [zxs_swap o y L, zx_assoc, zx_self' y N hy]
    have h1 : zx (zxs o L) (List.replicate N 0) = zxs o L := by rw [zx_comm, zxs_zero N _ (zxs_len o L N ho hL')]
    rw [h1, ih o ho hL']
theorem rest_is (L : List (List UInt8)) (N k : Nat) (hL : ∀ l ∈ L, l.length = N) (hk : k < L.length) : zxs (zxs (List.replicate N 0) L) (L.eraseIdx k) = L[k] := by
  have hE : ∀ l ∈ L.eraseIdx k, l.length = N := fun l hl => hL l (List.mem_of_mem_eraseIdx hl)
  rw [zxs_cons_erase _ L k hk, zxs_swap, zxs_twice _ _ N (by simp) hE, zxs_zero N _ (hL _ (List.getElem_mem hk))]

set_option maxHeartbeats 1000000 in
theorem law_xorRest {A : Option Addr} {n c : Nat} {L : List (List UInt8)} {w : World} (ha : Rs w A n c L) (N : Int) (hN : InI N) (i : Int) (hi : InI i) :
    Calls Try.prog 4 #[.slice A n c, .int .i64 N, .int .i64 i] w fun e w' => e = .returned (.bool true) ∧ Below w.heap.size w w' := by
  have hh := heavy_any A n c L w ha
  by_cases hv : heavyB L = true
  · rw [hv] at hh
    have HH := hide hh
    clear hh hv
    go_enter Try.func4, Try.ntmps4
    go_wp2_with fail
    refine (unhide HH).mono ?_
    rintro e w' ⟨rfl, rfl⟩
    go_wp2_with fail
    go_ret
    exact ⟨rfl, Below.refl _ _⟩
  have hv' : heavyB L = false := by simpa using hv
  rw [hv'] at hh
  obtain ⟨hL20, hL200⟩ := heavy_len hv'
  have HH := hide hh
  clear hh hv hv'
  by_cases hN0 : N < 0
  · go_enter Try.func4, Try.ntmps4
    go_wp2_with fail
    refine (unhide HH).mono ?_
    rintro e w' ⟨rfl, rfl⟩
    go_wp2_with fail
    go_ret
    exact ⟨rfl, Below.refl _ _⟩
  by_cases hN96 : 96 < N
  · go_enter Try.func4, Try.ntmps4
    go_wp2_with fail
    refine (unhide HH).mono ?_
    rintro e w' ⟨rfl, rfl⟩
    go_wp2_with fail
    go_ret
    exact ⟨rfl, Below.refl _ _⟩
  have hnl := ha.len
  have hn20 : n ≤ 20 := by omega
  have HL := hide hL200
  have HNL := hide hnl
  clear hL20 hL200 hnl
  by_cases hlong : IsLong L N (-1)
  · have HLO := hide (long_true N (-1) A n c L w ha (by omega) hlong)
    have HLONG := hide hlong
    clear hlong
    by_cases hn0 : n = 0
    · subst hn0
      go_enter Try.func4, Try.ntmps4
      go_wp2_with fail
      refine (unhide HH).mono ?_
      rintro e w' ⟨rfl, rfl⟩
      go_wp2_with fail
      refine (unhide HLO).mono ?_
      rintro e w' ⟨rfl, rfl⟩
      go_wp2_with fail
      go_ret
      exact ⟨rfl, Below.refl _ _⟩
    have hn1 : 1 ≤ n := by omega
    obtain ⟨M, rfl⟩ : ∃ M : Nat, N = (M : Int) := ⟨N.toNat, by omega⟩
    have hM : M ≤ 96 := by omega
    have hLM : ∀ l ∈ L, l.length = M := by
      intro l hl
      obtain ⟨j, hj, e⟩ := List.getElem_of_mem hl
      have := HLONG.out j l (by rw [← e]; exact List.getElem?_eq_getElem hj) (by omega)
      omega
    have HM := hide hLM
    clear hLM HLONG
    have e1 : ((n : Int) == 0) = false := by simp; omega
    have e2 : decide ((M : Int) < 0) = false := by simp
    have e3 : decide (96 < (M : Int)) = false := by simp; omega
    clear hn0 hN0 hN96
    go_enter Try.func4, Try.ntmps4
    go_wp2_with fail
    refine (unhide HH).mono ?_
    rintro e w' ⟨rfl, rfl⟩
    go_wp2_with fail
    refine (unhide HLO).mono ?_
    rintro e w' ⟨rfl, rfl⟩
    go_wp2_with fail
    obtain ⟨k, hk, hkn⟩ := uint_mod i n hn1 (by omega)
    rw [hk]
    clear hk
    refine (all_ok M _ _ _ L _ ha (by omega) hM HM.out).mono ?_
    rintro e w1 ⟨V1, c1, rfl, ho1, hb1⟩
    have ha1 := ha.on bytesR_fine hb1
    go_wp2_with fail
    refine (twinrows_any _ _ _ L _ ha1 (by omega) (fun l hl => by rw [HM.out l hl]; omega)).mono ?_
    rintro e w2 ⟨V2, c2, rfl, ho2, hb2⟩
    obtain ⟨g, x, u, rfl, hg, hgl, hx, hu, hcell, hfr, hst⟩ := ho2.spot bytesR_fine hkn
    have ho3 := hst (.slice none 0 0) [] rfl ⟨none, 0, 0, rfl, Sl.nil_ _⟩
    have hb3 : Below w1.heap.size w1 (w2.setCell ⟨g, k, none⟩ (.slice none 0 0)) := hb2.setCell (by exact hg) _
    have hall : AllBut (L.set k []) k M := by
      intro j l hj hne
      rw [List.getElem?_set_ne (by omega)] at hj
      exact HM.out l (List.mem_of_getElem? hj)
    have HX := hide hx
    have HALL := hide hall
    clear hst hx hall hu
    go_wp2_with fail
    refine (rest_any _ _ M _ n _ k (L.set k []) _ _ (ho3.read bytesR_fine) ((ho1.read byteR_fine).on byteR_fine hb3) (by omega) (by omega) hkn).mono ?_
    rintro e w3 ⟨hb4, h | h⟩
    · obtain ⟨_, V3, c3, rfl, ho4⟩ := h
      have hl4 : zxs (zxs (List.replicate M 0) L) ((L.set k []).eraseIdx k) = L[k]'(by rw [HNL.out]; exact hkn) := by
        rw [List.eraseIdx_set_eq]
        exact rest_is L M k HM.out (by rw [HNL.out]; exact hkn)
      rw [hl4] at ho4
      have hbb := th (th hb1 hb3) hb4
      have ha4 := ha.on bytesR_fine hbb
      obtain ⟨ad, l, A1, n1, c1', rfl, _, hlx, hls, hlc⟩ := at_row ha4 hkn
      have hlk : l = L[k]'(by rw [HNL.out]; exact hkn) := by
        rw [List.getElem?_eq_getElem (by rw [HNL.out]; exact hkn)] at hlx
        injection hlx with hlx
        exact hlx.symm
      rw [← hlk] at ho4
      clear hlx hlk hl4
      go_wp2_with fail
      refine (bytes_same l (ho4.read byteR_fine) hls (by omega)).mono ?_
      rintro e w5 ⟨rfl, hb5⟩
      go_wp2_with fail
      refine (wakes3 _).mono ?_
      rintro e w6 ⟨rfl, hb6⟩
      go_wp2_with fail
      go_ret
      exact ⟨rfl, th hbb (th hb5 hb6)⟩
    · exact absurd HALL.out h.1
  · have HLO := hide (long_false N (-1) A n c L w ha (by omega) hlong)
    clear hlong
    go_enter Try.func4, Try.ntmps4
    go_wp2_with fail
    refine (unhide HH).mono ?_
    rintro e w' ⟨rfl, rfl⟩
    go_wp2_with fail
    refine (unhide HLO).mono ?_
    rintro e w' ⟨rfl, rfl⟩
    go_wp2_with fail
    go_ret
    exact ⟨rfl, Below.refl _ _⟩

end Go.Proofs.Ytagkangpplkohaa
