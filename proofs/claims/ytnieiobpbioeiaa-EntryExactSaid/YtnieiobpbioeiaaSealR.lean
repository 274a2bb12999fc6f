/-
  Contracts: casemateref01.Open.
-/
import Derived.Test.YtnieiobpbioeiaaSealO
import Derived.Deep.RegionWith
import Derived.BigRegion
namespace Go.Proofs.Ytnieiobpbioeiaa
open Go.RowKit
set_option linter.unusedVariables false
set_option maxRecDepth 100000

set_option maxHeartbeats 2000000 in
theorem ropen_any {A : Option Addr} {n c : Nat} {l : List UInt8} {w : World} (hl : Bs w A n c l) (hn : n ≤ 65536) :
    Calls Try.prog 47 #[.slice A n c] w (OpenPost w l) := by
  have hlen := hl.len
  have hcap := hl.cap
  by_cases h1 : n < 11
  · have hO : openS l = (noSec, 4) := by unfold openS; rw [if_pos (by omega)]
    unfold OpenPost
    rw [hO]
    clear hlen hcap hO
    go_enter Try.func47, Try.ntmps47
    go_wp2_with fail
    refine bodyPost_ret (v := .tuple #[.agg #[.int .i64 0, .int .i64 0, .slice none 0 0], .int .i64 4]) (by simp [results, Try.results47, go_sem]) rfl ⟨none, 0, 0, rfl, Sl.nil_ _, alloc_below _ _⟩
  by_cases h2 : 107 < n
  · have hO : openS l = (noSec, 4) := by unfold openS; rw [if_pos (by omega)]
    unfold OpenPost
    rw [hO]
    clear hlen hcap hO
    go_enter Try.func47, Try.ntmps47
    go_wp2_with fail
    refine bodyPost_ret (v := .tuple #[.agg #[.int .i64 0, .int .i64 0, .slice none 0 0], .int .i64 4]) (by simp [results, Try.results47, go_sem]) rfl ⟨none, 0, 0, rfl, Sl.nil_ _, alloc_below _ _⟩
  obtain ⟨q, rfl⟩ : ∃ q, n = q + 4 := ⟨n - 4, by omega⟩
  obtain ⟨ad, x, rfl, hadl, hx, hcx⟩ := at_byte hl (show 0 < q + 4 by omega)
  rw [add_zero'] at hcx
  have hck : ¬ c = q := by omega
  have hqc : q ≤ c := by omega
  have ht := rest1 hl (i := q) (by omega) hck
  rw [Nat.add_sub_cancel_left] at ht
  have hi := hl.init_ (j := q) (by omega)
  have hb0 := alloc_below w (.cells #[.int .i64 0, .int .i64 0, .slice none 0 0] 62)
  have hl0 := hl.on byteR_fine hb0
  have hcx0 : (w.alloc (.cells #[.int .i64 0, .int .i64 0, .slice none 0 0] 62)).cell? ad = some (.int .u8 (x.toNat : Int)) := (hb0.cell hadl).trans hcx
  have ht0 := ht.on byteR_fine hb0
  have hi0 := hi.on byteR_fine hb0
  have htl : (l.drop q).take 4 = l.drop q := List.take_of_length_le (by rw [List.length_drop]; omega)
  obtain ⟨W, hW⟩ : ∃ W, W = w.alloc (.cells #[.int .i64 0, .int .i64 0, .slice none 0 0] 62) := ⟨_, rfl⟩
  have hg : ∀ r, Calls Try.prog 54 #[.slice (some (ad.add q)) 4 (c - q), .int .i64 4] ((w.alloc (.cells #[.int .i64 0, .int .i64 0, .slice none 0 0] 62)).drewN r) fun e w' => e = .returned (.int .i64 (num (l.drop q))) ∧ ∃ m, w' = ((w.alloc (.cells #[.int .i64 0, .int .i64 0, .slice none 0 0] 62)).drewN r).drewN m := fun r => by
    have h := rget_any (ht0.move byteR_fine (w' := (w.alloc (.cells #[.int .i64 0, .int .i64 0, .slice none 0 0] 62)).drewN r) (S' := Old _) (fun _ _ => rfl) (fun _ h => h)) 4 (by omega) (by omega)
    rw [htl] at h
    exact h.mono fun e w' ⟨he, hw⟩ => ⟨he, 0, by rw [← hw]; rfl⟩
  have hs : ∀ r, Calls Try.prog 43 #[.slice (some ad) q c] ((w.alloc (.cells #[.int .i64 0, .int .i64 0, .slice none 0 0] 62)).drewN r) fun e w' => e = .returned (.int .i64 (crc (l.take q))) ∧ ∃ m, w' = ((w.alloc (.cells #[.int .i64 0, .int .i64 0, .slice none 0 0] 62)).drewN r).drewN m := fun r => by
    have h := ref_sum (hi0.move byteR_fine (w' := (w.alloc (.cells #[.int .i64 0, .int .i64 0, .slice none 0 0] 62)).drewN r) (S' := Old _) (fun _ _ => rfl) (fun _ h => h)) (by omega)
    exact h.mono fun e w' ⟨he, hw⟩ => ⟨he, 0, by rw [← hw]; rfl⟩
  clear hW
  obtain ⟨T, hT⟩ : ∃ T, T = num (l.drop q) := ⟨_, rfl⟩
  obtain ⟨S, hS⟩ : ∃ S, S = crc (l.take q) := ⟨_, rfl⟩
  rw [← hT] at hg
  rw [← hS] at hs
  have HG := hide hg
  have HC := hide hs
  have HT := hide hT
  have HS := hide hS
  have HLEN := hide hlen
  clear hg hs hT hS hlen hcap htl
  by_cases h3 : T = S
  · subst h3
    have e3 : ((T : Int) != (T : Int)) = false := by simp
    have hx256 := x.toNat_lt
    have hq103 : q ≤ 103 := by omega
    have hq7 : 7 ≤ q := by omega
    have hhd : l.headD 0 = x := by cases l with
      | nil => simp at hx
      | cons a b => simpa using hx
    have HHD := hide hhd
    clear hhd hx
    by_cases h5 : x.toNat + 7 = q
    · have hO : openS l = (⟨num ((l.drop (q - 6)).take 2), num ((l.drop (q - 4)).take 4), (l.drop 1).take (q - 7)⟩, 0) := by
        unfold openS
        rw [if_neg (by rw [HLEN.out]; omega), HLEN.out, show q + 4 - 4 = q by omega, ← HT.out, ← HS.out, if_neg (by simp), HHD.out, if_neg (by omega)]
        rw [show q + 4 - 10 = q - 6 by omega, show q + 4 - 8 = q - 4 by omega, show q + 4 - 11 = q - 7 by omega]
      have e1 : ((x.toNat : Int) != (q : Int) + 4 - 11) = false := by simp; omega
      unfold OpenPost
      rw [hO]
      clear hO
      obtain ⟨p, rfl⟩ : ∃ p, q = p + 6 := ⟨q - 6, by omega⟩
      have hc1 : ¬ c = 1 := by omega
      have hcp : ¬ c = p := by omega
      have hcp2 : ¬ c = p + 2 := by omega
      have w1 := cut1 hl (i := 1) (j := p) (by omega) (by omega) hc1
      have w2 := rest1 hl (i := p) (by omega) hcp
      have w3 := rest1 hl (i := p + 2) (by omega) hcp2
      rw [show p + 6 + 4 - p = 10 by omega] at w2
      rw [show p + 6 + 4 - (p + 2) = 8 by omega] at w3
      rw [show p + 6 - 6 = p by omega, show p + 6 - 4 = p + 2 by omega, show p + 6 - 7 = p - 1 by omega]
      have HT1 : ∀ W, Below w.heap.size w W → Calls Try.prog 44 #[.slice (some ⟨ad.block, ad.off + 1, none⟩) (p - 1) (c - 1)] W fun e w' => ∃ V cv, e = .returned (.slice V (p - 1) cv) ∧ Sl byteR 1 w' (New W.heap.size w') V (p - 1) cv ((l.drop 1).take (p - 1)) ∧ Below W.heap.size W w' := fun W hW =>
        (twin_any _ _ _ _ W (w1.on byteR_fine hW) (by omega)).mono fun e w' ⟨V, cv, he, ho, hb⟩ => ⟨V, cv, he, ho.new_ byteR_fine (Nat.le_refl _) (Nat.le_refl _), hb⟩
      obtain ⟨P1, hP1⟩ : ∃ P1, P1 = num ((l.drop p).take 2) := ⟨_, rfl⟩
      obtain ⟨P2, hP2⟩ : ∃ P2, P2 = num ((l.drop (p + 2)).take 4) := ⟨_, rfl⟩
      rw [← hP1, ← hP2]
      have HT2 : ∀ W, Below w.heap.size w W → Calls Try.prog 54 #[.slice (some (ad.add p)) 10 (c - p), .int .i64 2] W fun e w' => e = .returned (.int .i64 P1) ∧ W = w' := fun W hW => by
        rw [hP1]; exact rget_any (w2.on byteR_fine hW) 2 (by omega) (by omega)
      have HT4 : ∀ W, Below w.heap.size w W → Calls Try.prog 54 #[.slice (some (ad.add (p + 2))) 8 (c - (p + 2)), .int .i64 4] W fun e w' => e = .returned (.int .i64 P2) ∧ W = w' := fun W hW => by
        rw [hP2]; exact rget_any (w3.on byteR_fine hW) 4 (by omega) (by omega)
      have HT1 := hide HT1
      have HT2 := hide HT2
      have HT4 : ∀ W, Below w.heap.size w W → Calls Try.prog 54 #[.slice (some ⟨ad.block, ad.off + (p + 1 + 1), none⟩) 8 (c - (p + 2)), .int .i64 4] W fun e w' => e = .returned (.int .i64 P2) ∧ W = w' := HT4
      have HT4 := hide HT4
      clear hP1 hP2
      go_enter Try.func47, Try.ntmps47
      go_wp2_with fail
      go_quiet ((first | (go_at_call 54; exact Calls.quiet_of (HG.out _)) | (go_at_call 43; exact Calls.quiet_of (HC.out _))))
      go_wp2_with fail
      have b1 : p ≤ c := by omega
      have b2 : p + 2 ≤ c := by omega
      have b3 : 1 ≤ p := by omega
      have b4 : 1 ≤ c := by omega
      have b5 : (p : Int) ≤ (c : Int) := by omega
      have b6 : (p : Int) + 2 ≤ (c : Int) := by omega
      have b7 : (1 : Int) ≤ (p : Int) := by omega
      have b8 : (0 : Int) ≤ (p : Int) + 2 := by omega
      have hw1 : IntKind.i64.wrap ((p : Int) + 6 + 4 - 10) = (p : Int) := by
        have h := IntWalk.i64_in (p : Int) ⟨by omega, by omega⟩; rw [show (p : Int) + 6 + 4 - 10 = (p : Int) by omega]; exact h
      have hw2 : IntKind.i64.wrap ((p : Int) + 6 + 4 - 8) = (p : Int) + 2 := by
        have h := IntWalk.i64_in ((p : Int) + 2) ⟨by omega, by omega⟩; rw [show (p : Int) + 6 + 4 - 8 = (p : Int) + 2 by omega]; exact h
      have hm1 : max (p : Int) 0 = (p : Int) := by omega
      have hm2 : max ((p : Int) + 2) 0 = (p : Int) + 2 := by omega
      have hm3 : ((p : Int) + 2).toNat = p + 2 := by omega
      have hbd : Below w.heap.size w ((w.alloc (.cells #[.int .i64 0, .int .i64 0, .slice none 0 0] 62)).drewN (nq + 1)) := hb0.trans ((drewN_below _ (nq + 1)).mono hb0.size)
      have hn2 : p + 6 + 4 - p = 10 := by omega
      have hn3 : p + 6 + 4 - (p + 2) = 8 := by omega
      clear HG HC
      go_region_with (first
        | (go_at_call 44; refine (HT1.out _ hbd).mono ?_; rintro e w5 ⟨V5, c5, rfl, hs5, hb5⟩; have hb6 := hbd.trans (hb5.mono hbd.size); have hbb := th (drewN_below (w.alloc (.cells #[.int .i64 0, .int .i64 0, .slice none 0 0] 62)) (nq + 1)) hb5; have k0 := box_cell hbb 0 _ rfl; have k1 := box_cell hbb 1 _ rfl; have k2 := box_cell hbb 2 _ rfl; have f0 := box_free hbb 0; have f1 := box_free hbb 1; have f2 := box_free hbb 2)
        | (go_at_call 54; (with_reducible refine (HT2.out _ hbd).mono ?_); rintro e w7 ⟨rfl, rfl⟩)
        | (go_at_call 54; (with_reducible refine (HT4.out _ hbd).mono ?_); rintro e w7 ⟨rfl, rfl⟩)
        | (go_at_call 54; (with_reducible refine (HT2.out _ hb6).mono ?_); rintro e w7 ⟨rfl, rfl⟩)
        | (go_at_call 54; (with_reducible refine (HT4.out _ hb6).mono ?_); rintro e w7 ⟨rfl, rfl⟩))
      all_goals go_wp2_with fail
      all_goals
        have hN : w.heap.size < (w.alloc (.cells #[.int .i64 0, .int .i64 0, .slice none 0 0] 62)).heap.size := by simp
        have hN5 := hbb.size
        refine bodyPost_ret (v := .tuple #[.agg #[.int .i64 P1, .int .i64 P2, .slice V5 (p - 1) c5], .int .i64 0]) (by simp [results, Try.results47, go_sem, k0, k1, k2]) rfl ⟨V5, p - 1, c5, rfl, ?_, ?_⟩
        · exact ((((hs5.new_set byteR_fine _ _ hN).new_set byteR_fine _ _ hN).new_set byteR_fine _ _ hN)).old_ byteR_fine
        · exact ((((hb6.setCell (Nat.le_refl _) _).setCell (Nat.le_refl _) _).setCell (Nat.le_refl _) _))
    · have hO : openS l = (noSec, 4) := by
        unfold openS
        rw [if_neg (by rw [HLEN.out]; omega), HLEN.out, show q + 4 - 4 = q by omega, ← HT.out, ← HS.out, if_neg (by simp), HHD.out, if_pos (by omega)]
      have e1 : ((x.toNat : Int) != (q : Int) + 4 - 11) = true := by simp; omega
      unfold OpenPost
      rw [hO]
      clear hO
      go_enter Try.func47, Try.ntmps47
      go_wp2_with fail
      go_quiet ((first | (go_at_call 54; exact Calls.quiet_of (HG.out _)) | (go_at_call 43; exact Calls.quiet_of (HC.out _))))
      go_wp2_with fail
      refine bodyPost_ret (v := .tuple #[.agg #[.int .i64 0, .int .i64 0, .slice none 0 0], .int .i64 4]) (by simp [results, Try.results47, go_sem]) rfl ⟨none, 0, 0, rfl, Sl.nil_ _, ?_⟩
      exact ((((hb0.trans ((drewN_below _ nq).mono hb0.size)).setCell (Nat.le_refl _) _).setCell (Nat.le_refl _) _).setCell (Nat.le_refl _) _)
  · have e3 : ((T : Int) != (S : Int)) = true := by simp; omega
    have hO : openS l = (noSec, 5) := by
      unfold openS
      rw [if_neg (by rw [HLEN.out]; omega), HLEN.out, show q + 4 - 4 = q by omega, ← HT.out, ← HS.out, if_pos h3]
    unfold OpenPost
    rw [hO]
    clear hO hx
    go_enter Try.func47, Try.ntmps47
    go_wp2_with fail
    go_quiet ((first | (go_at_call 54; exact Calls.quiet_of (HG.out _)) | (go_at_call 43; exact Calls.quiet_of (HC.out _))))
    go_wp2_with fail
    refine bodyPost_ret (v := .tuple #[.agg #[.int .i64 0, .int .i64 0, .slice none 0 0], .int .i64 5]) (by simp [results, Try.results47, go_sem]) rfl ⟨none, 0, 0, rfl, Sl.nil_ _, ?_⟩
    exact ((((hb0.trans ((drewN_below _ nq).mono hb0.size)).setCell (Nat.le_refl _) _).setCell (Nat.le_refl _) _).setCell (Nat.le_refl _) _)

end Go.Proofs.Ytnieiobpbioeiaa
