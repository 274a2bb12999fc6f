/-
  The walk of the law casematelaw03.XorExact.
-/
import Derived.Test.YtagkangpplkohaaLaw3c
import Derived.Deep.DeepCutAuto
import Derived.Deep.CutBlock
namespace Go.Proofs.Ytagkangpplkohaa
open Go.RowKit
set_option linter.unusedVariables false

theorem lit_three_at {w : World} {N : Nat} {A A' A'' : Option Addr} {n c n' c' n'' c'' : Nat} {l l' l'' : List UInt8} (e : TypeId) (hN : w.heap.size = N) (h : Bs w A n c l) (h' : Bs w A' n' c' l') (h'' : Bs w A'' n'' c'' l'') :
    Rs (w.alloc (.cells #[.slice A n c, .slice A' n' c', .slice A'' n'' c''] e)) (some ⟨N, 0, none⟩) 3 3 [l, l', l''] := by
  subst hN
  refine (Ow.made (R := slR byteR 1) (s := 1) (lo := 0) (e := e) (n := 3) (L := [l, l', l'']) w #[.slice A n c, .slice A' n' c', .slice A'' n'' c''] (by simp only [maxLen]; omega) rfl rfl (by simp [Value.oneCell']) (fun i x hx => ?_) bytesR_fine).read bytesR_fine
  have hi := (List.getElem?_eq_some_iff.1 hx).1
  simp at hi
  obtain rfl | rfl | rfl : i = 0 ∨ i = 1 ∨ i = 2 := by omega
  · simp at hx
    subst hx
    exact ⟨A, n, c, rfl, h.move byteR_fine (fun _ _ => rfl) (fun b hb => ⟨Nat.zero_le _, hb⟩)⟩
  · simp at hx
    subst hx
    exact ⟨A', n', c', rfl, h'.move byteR_fine (fun _ _ => rfl) (fun b hb => ⟨Nat.zero_le _, hb⟩)⟩
  · simp at hx
    subst hx
    exact ⟨A'', n'', c'', rfl, h''.move byteR_fine (fun _ _ => rfl) (fun b hb => ⟨Nat.zero_le _, hb⟩)⟩

/-- A slice of bytes and a number come back: these are they. -/
def Back (Q : List UInt8 → Int → Prop) (w : World) (e : Ending) (w' : World) : Prop :=
  ∃ V n c l err, e = .returned (.tuple #[.slice V n c, .int .i64 err]) ∧ Bs w' V n c l ∧ n ≤ 65536 ∧ Below w.heap.size w w' ∧ Q l err

def TwoQ (xs ys : List UInt8) (l : List UInt8) (err : Int) : Prop := (xs.length = ys.length ∧ err = 0 ∧ l = zx xs ys) ∨ (xs.length ≠ ys.length ∧ err = 2 ∧ l = [])
theorem two_res (A A' : Option Addr) (n c m c' : Nat) (xs ys : List UInt8) (w : World) (ha : Bs w A n c xs) (hb : Bs w A' m c' ys) (hn : n ≤ 65536) (hm : m ≤ 65536) :
    Calls Try.prog 13 #[.slice A n c, .slice A' m c'] w (Back (TwoQ xs ys) w) := by
  have hla := ha.len
  have hlb := hb.len
  by_cases h : m = n
  · exact (two_ok A A' n c m c' xs ys w h ha hb hn).mono fun e w' ⟨V, cv, he, ho, hbl⟩ => ⟨V, n, cv, _, 0, he, ho.read byteR_fine, hn, hbl, .inl ⟨by omega, rfl, rfl⟩⟩
  · exact (two_len A A' n c m c' xs ys w h hb hm).mono fun e w' ⟨he, hbl⟩ => ⟨none, 0, 0, [], 2, he, Sl.nil_ _, by omega, hbl, .inr ⟨by omega, rfl, rfl⟩⟩

def TurnQ (xs ys zs : List UInt8) (l : List UInt8) (err : Int) : Prop := ((ys.length = xs.length ∧ zs.length = xs.length) ∧ err = 0 ∧ l = zx (zx xs ys) zs) ∨ (¬ (ys.length = xs.length ∧ zs.length = xs.length) ∧ err = 2 ∧ l = [])
theorem turn_res (A A' A'' : Option Addr) (n c m c' q c'' : Nat) (xs ys zs : List UInt8) (w : World) (ha : Bs w A n c xs) (hb : Bs w A' m c' ys) (hc : Bs w A'' q c'' zs) (hn : n ≤ 65536) (hm : m ≤ 65536) (hq : q ≤ 65536) :
    Calls Try.prog 21 #[.slice A n c, .slice A' m c', .slice A'' q c''] w (Back (TurnQ xs ys zs) w) := by
  have hla := ha.len
  have hlb := hb.len
  have hlc := hc.len
  by_cases h : m = n ∧ q = n
  · exact (turn_ok A A' A'' n c m c' q c'' xs ys zs w h.1 h.2 ha hb hc hn).mono fun e w' ⟨V, cv, he, ho, hbl⟩ => ⟨V, n, cv, _, 0, he, ho.read byteR_fine, hn, hbl, .inl ⟨by omega, rfl, rfl⟩⟩
  · exact (turn_len A A' A'' n c m c' q c'' ys zs w h hb hc hm hq).mono fun e w' ⟨he, hbl⟩ => ⟨none, 0, 0, [], 2, he, Sl.nil_ _, by omega, hbl, .inr ⟨by omega, rfl, rfl⟩⟩

def AllQ (L : List (List UInt8)) (N : Int) (l : List UInt8) (err : Int) : Prop :=
  ((N < 0 ∨ 96 < N) ∧ err = 1 ∧ l = []) ∨ ((0 ≤ N ∧ N ≤ 96) ∧ ¬ IsLong L N (-1) ∧ err = 2 ∧ l = []) ∨ ((0 ≤ N ∧ N ≤ 96) ∧ IsLong L N (-1) ∧ err = 0 ∧ l = zxs (List.replicate N.toNat 0) L)
theorem all_res (N : Int) (A : Option Addr) (n c : Nat) (L : List (List UInt8)) (w : World) (ha : Rs w A n c L) (hn : n ≤ 65536) (hll : ∀ l ∈ L, l.length ≤ 65536) :
    Calls Try.prog 18 #[.slice A n c, .int .i64 N] w (Back (AllQ L N) w) := by
  by_cases hN : N < 0 ∨ 96 < N
  · exact (all_arg N _ w hN).mono fun e w' ⟨he, hw⟩ => ⟨none, 0, 0, [], 1, he, Sl.nil_ _, by omega, by rw [← hw]; exact Below.refl _ _, .inl ⟨hN, rfl, rfl⟩⟩
  · obtain ⟨M, rfl⟩ : ∃ M : Nat, N = (M : Int) := ⟨N.toNat, by omega⟩
    by_cases hl : ∀ l ∈ L, l.length = M
    · exact (all_ok M A n c L w ha hn (by omega) hl).mono fun e w' ⟨V, cv, he, ho, hbl⟩ => ⟨V, M, cv, _, 0, he, ho.read byteR_fine, by omega, hbl, .inr (.inr ⟨by omega, (isLong_iff L M).2 hl, rfl, rfl⟩)⟩
    · exact (all_len M A n c L w ha hn (by omega) hll hl).mono fun e w' ⟨he, hw⟩ => ⟨none, 0, 0, [], 2, he, Sl.nil_ _, by omega, by rw [← hw]; exact Below.refl _ _, .inr (.inl ⟨by omega, fun h => hl ((isLong_iff L M).1 h), rfl, rfl⟩)⟩

def RestQ (L : List (List UInt8)) (miss : Int) (p : List UInt8) (l : List UInt8) (err : Int) : Prop :=
  ((miss < 0 ∨ (L.length : Int) ≤ miss) ∧ err = 9 ∧ l = []) ∨ ((0 ≤ miss ∧ miss < L.length) ∧ ¬ IsLong L (p.length : Int) miss ∧ err = 2 ∧ l = []) ∨
    ((0 ≤ miss ∧ miss < L.length) ∧ IsLong L (p.length : Int) miss ∧ err = 0 ∧ l = zxs p (L.eraseIdx miss.toNat))
theorem rest_res (A B : Option Addr) (n c m d : Nat) (miss : Int) (L : List (List UInt8)) (p : List UInt8) (w : World) (ha : Rs w A m d L) (hp : Bs w B n c p) (hm : m ≤ 65536) (hn : n ≤ 65536) :
    Calls Try.prog 20 #[.slice A m d, .int .i64 miss, .slice B n c] w (Back (RestQ L miss p) w) := by
  have hla := ha.len
  have hlp := hp.len
  by_cases hmm : miss < 0 ∨ (m : Int) ≤ miss
  · exact (rest_place A B n c m d miss w hmm).mono fun e w' ⟨he, hw⟩ => ⟨none, 0, 0, [], 9, he, Sl.nil_ _, by omega, by rw [← hw]; exact Below.refl _ _, .inl ⟨by omega, rfl, rfl⟩⟩
  · obtain ⟨M, rfl⟩ : ∃ M : Nat, miss = (M : Int) := ⟨miss.toNat, by omega⟩
    refine (rest_any A B n c m d M L p w ha hp hm hn (by omega)).mono fun e w' ⟨hbl, h⟩ => ?_
    rcases h with ⟨hall, V, cv, he, ho⟩ | ⟨hall, he⟩
    · exact ⟨V, n, cv, _, 0, he, ho.read byteR_fine, hn, hbl, .inr (.inr ⟨by omega, by rw [hlp]; exact (allBut_iff L M n).1 hall, rfl, rfl⟩)⟩
    · exact ⟨none, 0, 0, [], 2, he, Sl.nil_ _, by omega, hbl, .inr (.inl ⟨by omega, by rw [hlp]; exact fun h => hall ((allBut_iff L M n).2 h), rfl, rfl⟩)⟩

set_option maxHeartbeats 2000000 in
set_option maxRecDepth 100000 in
theorem law_xorExact {A B C : Option Addr} {n c m d q r : Nat} {xs ys zs : List UInt8} {w : World} (ha : Bs w A n c xs) (hb : Bs w B m d ys) (hc : Bs w C q r zs)
    {D : Option Addr} {t u : Nat} {L : List (List UInt8)} (hl : Rs w D t u L) (N : Int) (hN : InI N) (miss : Int) (hmiss : InI miss) :
    Calls Try.prog 7 #[.slice A n c, .slice B m d, .slice C q r, .slice D t u, .int .i64 N, .int .i64 miss] w fun e w' => e = .returned (.bool true) ∧ Below w.heap.size w w' := by
  have lit3 : Rs (w.alloc (.cells #[.slice A n c, .slice B m d, .slice C q r] 22)) (some ⟨w.heap.size, 0, none⟩) 3 3 [xs, ys, zs] := lit_three_at _ rfl ha hb hc
  have hw0 := alloc_below w (.cells #[.slice A n c, .slice B m d, .slice C q r] 22)
  have h3 := heavy_any _ _ _ _ _ lit3
  have hl0 := hl.on bytesR_fine hw0
  have h4 := heavy_any _ _ _ _ _ hl0
  by_cases hv3 : heavyB [xs, ys, zs] = true
  · rw [hv3] at h3
    have H3 := hide h3
    clear h3 h4 hv3
    go_enter Try.func7, Try.ntmps7
    go_wp2_with fail
    refine (unhide H3).mono ?_
    rintro e w' ⟨rfl, rfl⟩
    go_wp2_with fail
    go_ret
    exact ⟨rfl, hw0⟩
  have hv3' : heavyB [xs, ys, zs] = false := by simpa using hv3
  rw [hv3'] at h3
  have H3 := hide h3
  have hl3 := (heavy_len hv3').2
  have hx200 : n ≤ 200 := by rw [← ha.len]; exact hl3 xs (by simp)
  have hy200 : m ≤ 200 := by rw [← hb.len]; exact hl3 ys (by simp)
  have hz200 : q ≤ 200 := by rw [← hc.len]; exact hl3 zs (by simp)
  clear h3 hv3 hv3' hl3
  by_cases hv4 : heavyB L = true
  · rw [hv4] at h4
    have H4 := hide h4
    clear h4 hv4
    go_enter Try.func7, Try.ntmps7
    go_wp2_with fail
    refine (unhide H3).mono ?_
    rintro e w' ⟨rfl, rfl⟩
    go_wp2_with fail
    refine (unhide H4).mono ?_
    rintro e w' ⟨rfl, rfl⟩
    go_wp2_with fail
    go_ret
    exact ⟨rfl, hw0⟩
  have hv4' : heavyB L = false := by simpa using hv4
  rw [hv4'] at h4
  have H4 := hide h4
  obtain ⟨hL20, hL200⟩ := heavy_len hv4'
  have ht20 : t ≤ 20 := by rw [← hl.len]; exact hL20
  have HL : Hid (∀ l ∈ L, l.length ≤ 65536) := fun l h => by have := hL200 l h; omega
  clear h4 hv4 hv4' hL20 hL200
  go_enter Try.func7, Try.ntmps7
  go_wp2_with fail
  refine (unhide H3).mono ?_
  rintro e w' ⟨rfl, rfl⟩
  go_wp2_with fail
  refine (unhide H4).mono ?_
  rintro e w' ⟨rfl, rfl⟩
  go_wp2_with fail
  refine (twinrows_any _ _ _ L _ hl0 (by omega) HL.out).mono ?_
  rintro e w1 ⟨V1, c1, rfl, ho1, hb1⟩
  have k1 := th hw0 hb1
  go_wp2_with fail
  refine (two_res _ _ _ _ _ _ xs ys _ (ha.on byteR_fine k1) (hb.on byteR_fine k1) (by omega) (by omega)).mono ?_
  rintro e w2 ⟨V2, n2, c2, l2, e2, rfl, r2, hn2, hb2, hq2⟩
  have k2 := th k1 hb2
  have s2 := (ho1.read bytesR_fine).on bytesR_fine hb2
  go_wp2_with fail
  refine (all_res N _ _ _ L _ s2 (by omega) HL.out).mono ?_
  rintro e w3 ⟨V3, n3, c3, l3, e3, rfl, r3, hn3, hb3, hq3⟩
  have k3 := th k2 hb3
  have s3 := s2.on bytesR_fine hb3
  go_wp2_with fail
  refine (rest_res _ _ _ _ _ _ miss L xs _ s3 (ha.on byteR_fine k3) (by omega) (by omega)).mono ?_
  rintro e w4 ⟨V4, n4, c4, l4, e4, rfl, r4, hn4, hb4, hq4⟩
  have k4 := th k3 hb4
  go_wp2_with fail
  refine (turn_res _ _ _ _ _ _ _ _ _ xs ys zs _ (ha.on byteR_fine k4) (hb.on byteR_fine k4) (hc.on byteR_fine k4) (by omega) (by omega) (by omega)).mono ?_
  rintro e w5 ⟨V5, n5, c5, l5, e5, rfl, r5, hn5, hb5, hq5⟩
  have k5 := th k4 hb5
  have q2 := r2.on byteR_fine (th hb3 (th hb4 hb5))
  have q3 := r3.on byteR_fine (th hb4 hb5)
  have q4 := r4.on byteR_fine hb5
  have s5 := s3.on bytesR_fine (th hb4 hb5)
  have hla := ha.len
  have hlb := hb.len
  have hlc := hc.len
  have hll := hl.len
  have a5 := ha.on byteR_fine k5
  have b5 := hb.on byteR_fine k5
  have z5 := hc.on byteR_fine k5
  have g5 := hl.on bytesR_fine k5
  have HA := hide hla
  have HB := hide hlb
  have HC := hide hlc
  have HT := hide hll
  clear r2 r3 r4 s2 s3 hb1 hb2 hb3 hb4 hb5 k1 k2 k3 k4 ho1 hw0 lit3 hl0 H3 H4 ha hb hc hl hla hlb hlc hll
  go_upto_if 63 with fail
  go_cut [] (fun wx => Below w5.heap.size w5 wx)
  case first =>
    rcases hq2 with ⟨hm, rfl, rfl⟩ | ⟨hm, rfl, rfl⟩
    · have hnm : n = m := by rw [← HA.out, ← HB.out]; exact hm
      subst hnm
      have e1 : ((n : Int) != (n : Int)) = false := by simp
      clear hm
      go_wp2_with fail
      refine (rtwo_any _ _ _ _ _ _ xs ys _ a5 b5 (by omega) rfl).mono ?_
      rintro e w6 ⟨V6, c6, rfl, ho6, hb6⟩
      go_wp2_with fail
      refine (bytes_same _ (q2.on byteR_fine hb6) (ho6.read byteR_fine) hn2).mono ?_
      rintro e w7 ⟨rfl, hb7⟩
      go_wp2_with fail
      go_meet
      exact th hb6 hb7
    · have e1 : ((n : Int) != (m : Int)) = true := by
        have h1 := HA.out
        have h2 := HB.out
        simp; omega
      obtain rfl : n2 = 0 := q2.len.symm
      clear hm
      go_wp2_with fail
      go_meet
      exact Below.refl _ _
  case rest =>
    have hcut1 := hcut
    clear hcut hq2 q2
    have k6 := th k5 hcut1
    have q3 := q3.on byteR_fine hcut1
    have q4 := q4.on byteR_fine hcut1
    have r5 := r5.on byteR_fine hcut1
    have s5 := s5.on bytesR_fine hcut1
    have a5 := a5.on byteR_fine hcut1
    have b5 := b5.on byteR_fine hcut1
    have z5 := z5.on byteR_fine hcut1
    have g5 := g5.on bytesR_fine hcut1
    clear k5 hcut1
    obtain ⟨w6, hw6⟩ : ∃ w6, w6 = wc := ⟨_, rfl⟩
    subst hw6
    go_upto_block 0 with fail
    go_cut [] (fun wx => Below w6.heap.size w6 wx)
    case first =>
      rcases hq3 with ⟨hN', rfl, rfl⟩ | ⟨hN', hlong, rfl, rfl⟩ | ⟨hN', hlong, rfl, rfl⟩
      · obtain rfl : n3 = 0 := q3.len.symm
        rcases hN' with h | h
        · have e1 : decide (N < 0) = true := by simpa using h
          go_wp2_with fail
          go_meet
          exact Below.refl _ _
        · have e1 : decide (N < 0) = false := by simp; omega
          have e2' : decide (96 < N) = true := by simpa using h
          go_wp2_with fail
          go_meet
          exact Below.refl _ _
      · obtain rfl : n3 = 0 := q3.len.symm
        have e1 : decide (N < 0) = false := by simp; omega
        have e2' : decide (96 < N) = false := by simp; omega
        go_wp2_with fail
        refine (long_false N (-1) _ _ _ L _ g5 (by omega) hlong).mono ?_
        rintro e w' ⟨rfl, rfl⟩
        go_wp2_with fail
        go_meet
        exact Below.refl _ _
      · obtain ⟨M, rfl⟩ : ∃ M : Nat, N = (M : Int) := ⟨N.toNat, by omega⟩
        have hM : M ≤ 96 := by omega
        have e1 : decide ((M : Int) < 0) = false := by simp
        have e2' : decide (96 < (M : Int)) = false := by simp; omega
        clear hN' hN
        go_wp2_with fail
        refine (long_true (M : Int) (-1) _ _ _ L _ g5 (by omega) hlong).mono ?_
        rintro e w' ⟨rfl, rfl⟩
        go_wp2_with fail
        refine (rall_any M _ _ _ L _ g5 (by omega) (by omega) ((isLong_iff L M).1 hlong)).mono ?_
        rintro e w7 ⟨V7, c7, rfl, ho7, hb7⟩
        go_wp2_with fail
        refine (bytes_same _ (q3.on byteR_fine hb7) (ho7.read byteR_fine) hn3).mono ?_
        rintro e w8 ⟨rfl, hb8⟩
        go_wp2_with fail
        go_meet
        exact th hb7 hb8
    case rest =>
      have hcut1 := hcut
      clear hcut hq3 q3
      have k7 := th k6 hcut1
      have q4 := q4.on byteR_fine hcut1
      have r5 := r5.on byteR_fine hcut1
      have s5 := s5.on bytesR_fine hcut1
      have a5 := a5.on byteR_fine hcut1
      have b5 := b5.on byteR_fine hcut1
      have z5 := z5.on byteR_fine hcut1
      have g5 := g5.on bytesR_fine hcut1
      clear k6 hcut1
      obtain ⟨w7, hw7⟩ : ∃ w7, w7 = wc := ⟨_, rfl⟩
      subst hw7
      go_upto_block 1 with fail
      go_cut [] (fun wx => Below w7.heap.size w7 wx)
      case first =>
        have hxl := HA.out
        have hll := HT.out
        rcases hq4 with ⟨hm, rfl, rfl⟩ | ⟨hm, hlong, rfl, rfl⟩ | ⟨hm, hlong, rfl, rfl⟩
        · obtain rfl : n4 = 0 := q4.len.symm
          rw [hll] at hm
          clear hxl hll
          rcases hm with h | h
          · have e1 : decide (miss < 0) = true := by simpa using h
            go_wp2_with fail
            go_meet
            exact Below.refl _ _
          · have e1 : decide (miss < 0) = false := by simp; omega
            have e2' : decide ((t : Int) ≤ miss) = true := by simpa using h
            go_wp2_with fail
            go_meet
            exact Below.refl _ _
        · obtain rfl : n4 = 0 := q4.len.symm
          rw [hll] at hm
          rw [hxl] at hlong
          clear hxl hll
          have e1 : decide (miss < 0) = false := by simp; omega
          have e2' : decide ((t : Int) ≤ miss) = false := by simp; omega
          go_wp2_with fail
          refine (long_false (n : Int) miss _ _ _ L _ g5 (by omega) hlong).mono ?_
          rintro e w' ⟨rfl, rfl⟩
          go_wp2_with fail
          go_meet
          exact Below.refl _ _
        · rw [hll] at hm
          rw [hxl] at hlong
          clear hxl hll
          obtain ⟨M, rfl⟩ : ∃ M : Nat, miss = (M : Int) := ⟨miss.toNat, by omega⟩
          have e1 : decide ((M : Int) < 0) = false := by simp
          have e2' : decide ((t : Int) ≤ (M : Int)) = false := by simp; omega
          have hM : M < t := by omega
          clear hm hmiss
          go_wp2_with fail
          refine (long_true (n : Int) (M : Int) _ _ _ L _ g5 (by omega) hlong).mono ?_
          rintro e w' ⟨rfl, rfl⟩
          go_wp2_with fail
          refine (rrest_any _ _ _ _ _ _ M L xs _ g5 a5 (by omega) (by omega) ((allBut_iff L M n).2 hlong)).mono ?_
          rintro e w8 ⟨V8, c8, rfl, ho8, hb8⟩
          go_wp2_with fail
          refine (bytes_same _ (q4.on byteR_fine hb8) (ho8.read byteR_fine) hn4).mono ?_
          rintro e w9 ⟨rfl, hb9⟩
          go_wp2_with fail
          go_meet
          exact th hb8 hb9
      case rest =>
        have hcut1 := hcut
        clear hcut hq4 q4
        have k8 := th k7 hcut1
        have r5 := r5.on byteR_fine hcut1
        have s5 := s5.on bytesR_fine hcut1
        have a5 := a5.on byteR_fine hcut1
        have b5 := b5.on byteR_fine hcut1
        have z5 := z5.on byteR_fine hcut1
        have g5 := g5.on bytesR_fine hcut1
        clear k7 hcut1
        obtain ⟨w8, hw8⟩ : ∃ w8, w8 = wc := ⟨_, rfl⟩
        subst hw8
        have hxl := HA.out
        have hyl := HB.out
        have hzl := HC.out
        rcases hq5 with ⟨hm, rfl, rfl⟩ | ⟨hm, rfl, rfl⟩
        · obtain rfl : m = n := by omega
          obtain rfl : q = m := by omega
          have e1 : ((q : Int) != (q : Int)) = false := by simp
          clear hm hxl hyl hzl
          go_wp2_with fail
          refine (rtwo_any _ _ _ _ _ _ xs ys _ a5 b5 (by omega) rfl).mono ?_
          rintro e w9 ⟨V9, c9, rfl, ho9, hb9⟩
          go_wp2_with fail
          refine (rtwo_any _ _ _ _ _ _ (zx xs ys) zs _ (ho9.read byteR_fine) (z5.on byteR_fine hb9) (by omega) rfl).mono ?_
          rintro e w10 ⟨V10, c10, rfl, ho10, hb10⟩
          have hb910 := th hb9 hb10
          go_wp2_with fail
          refine (bytes_same _ (r5.on byteR_fine hb910) (ho10.read byteR_fine) hn5).mono ?_
          rintro e w11 ⟨rfl, hb11⟩
          have hb911 := th hb910 hb11
          go_wp2_with fail
          refine (rows_true _ _ _ _ _ L _ (s5.on bytesR_fine hb911) (g5.on bytesR_fine hb911) (by omega) HL.out).mono ?_
          rintro e w12 ⟨rfl, hq12⟩
          have hb12 : Below w11.heap.size w11 w12 := by obtain ⟨qq, rfl⟩ := hq12; exact drewN_below _ _
          clear hq12
          go_wp2_with fail
          refine (wakes3 _).mono ?_
          rintro e w13 ⟨rfl, hb13⟩
          go_wp2_with fail
          go_ret
          exact ⟨rfl, th k8 (th hb911 (th hb12 hb13))⟩
        · obtain rfl : n5 = 0 := r5.len.symm
          by_cases hnm : n = m
          · subst hnm
            have e1 : ((n : Int) != (n : Int)) = false := by simp
            have e2' : ((n : Int) != (q : Int)) = true := by simp; omega
            clear hm hxl hyl hzl
            go_wp2_with fail
            refine (rows_true _ _ _ _ _ L _ s5 g5 (by omega) HL.out).mono ?_
            rintro e w12 ⟨rfl, hq12⟩
            have hb12 : Below w8.heap.size w8 w12 := by obtain ⟨qq, rfl⟩ := hq12; exact drewN_below _ _
            clear hq12
            go_wp2_with fail
            refine (wakes3 _).mono ?_
            rintro e w13 ⟨rfl, hb13⟩
            go_wp2_with fail
            go_ret
            exact ⟨rfl, th k8 (th hb12 hb13)⟩
          · have e1 : ((n : Int) != (m : Int)) = true := by simp; omega
            clear hm hxl hyl hzl
            go_wp2_with fail
            refine (rows_true _ _ _ _ _ L _ s5 g5 (by omega) HL.out).mono ?_
            rintro e w12 ⟨rfl, hq12⟩
            have hb12 : Below w8.heap.size w8 w12 := by obtain ⟨qq, rfl⟩ := hq12; exact drewN_below _ _
            clear hq12
            go_wp2_with fail
            refine (wakes3 _).mono ?_
            rintro e w13 ⟨rfl, hb13⟩
            go_wp2_with fail
            go_ret
            exact ⟨rfl, th k8 (th hb12 hb13)⟩

end Go.Proofs.Ytagkangpplkohaa
