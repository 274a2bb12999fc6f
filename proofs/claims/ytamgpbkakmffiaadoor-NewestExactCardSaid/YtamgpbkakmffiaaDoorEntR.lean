/-
  Contracts: casemateref01.Open.
  Contracts: casemateref08.Sector, Block, TableOf; casematelaw09.Heavy.
-/
import Derived.Test.YtamgpbkakmffiaaDoorSealO
import Derived.Deep.RegionWith
import Derived.BigRegion
import Derived.Test.YtamgpbkakmffiaaDoorTabF
import Derived.Test.YtamgpbkakmffiaaDoorSpot
namespace Go.Proofs.YtamgpbkakmffiaaDoor
open Go.RowKit
set_option linter.unusedVariables false
set_option maxRecDepth 100000

set_option maxHeartbeats 2000000 in
theorem ropen_any {A : Option Addr} {n c : Nat} {l : List UInt8} {w : World} (hl : Bs w A n c l) (hn : n ≤ 65536) :
    Calls Tryd.prog 113 #[.slice A n c] w (OpenPost w l) := by
  have hlen := hl.len
  have hcap := hl.cap
  by_cases h1 : n < 11
  · have hO : openS l = (noSec, 4) := by unfold openS; rw [if_pos (by omega)]
    unfold OpenPost
    rw [hO]
    clear hlen hcap hO
    go_enter Tryd.func113, Tryd.ntmps113
    go_wp2_with fail
    refine bodyPost_ret (v := .tuple #[.agg #[.int .i64 0, .int .i64 0, .slice none 0 0], .int .i64 4]) (by simp [results, Tryd.results113, go_sem]) rfl ⟨none, 0, 0, rfl, Sl.nil_ _, alloc_below _ _⟩
  by_cases h2 : 107 < n
  · have hO : openS l = (noSec, 4) := by unfold openS; rw [if_pos (by omega)]
    unfold OpenPost
    rw [hO]
    clear hlen hcap hO
    go_enter Tryd.func113, Tryd.ntmps113
    go_wp2_with fail
    refine bodyPost_ret (v := .tuple #[.agg #[.int .i64 0, .int .i64 0, .slice none 0 0], .int .i64 4]) (by simp [results, Tryd.results113, go_sem]) rfl ⟨none, 0, 0, rfl, Sl.nil_ _, alloc_below _ _⟩
  obtain ⟨q, rfl⟩ : ∃ q, n = q + 4 := ⟨n - 4, by omega⟩
  obtain ⟨ad, x, rfl, hadl, hx, hcx⟩ := at_byte hl (show 0 < q + 4 by omega)
  rw [add_zero'] at hcx
  have hck : ¬ c = q := by omega
  have hqc : q ≤ c := by omega
  have ht := rest1 hl (i := q) (by omega) hck
  rw [Nat.add_sub_cancel_left] at ht
  have hi := hl.init_ (j := q) (by omega)
  have hb0 := alloc_below w (.cells #[.int .i64 0, .int .i64 0, .slice none 0 0] 122)
  have hl0 := hl.on byteR_fine hb0
  have hcx0 : (w.alloc (.cells #[.int .i64 0, .int .i64 0, .slice none 0 0] 122)).cell? ad = some (.int .u8 (x.toNat : Int)) := (hb0.cell hadl).trans hcx
  have ht0 := ht.on byteR_fine hb0
  have hi0 := hi.on byteR_fine hb0
  have htl : (l.drop q).take 4 = l.drop q := List.take_of_length_le (by rw [List.length_drop]; omega)
  obtain ⟨W, hW⟩ : ∃ W, W = w.alloc (.cells #[.int .i64 0, .int .i64 0, .slice none 0 0] 122) := ⟨_, rfl⟩
  have hg : ∀ r, Calls Tryd.prog 43 #[.slice (some (ad.add q)) 4 (c - q), .int .i64 4] ((w.alloc (.cells #[.int .i64 0, .int .i64 0, .slice none 0 0] 122)).drewN r) fun e w' => e = .returned (.int .i64 (num (l.drop q))) ∧ ∃ m, w' = ((w.alloc (.cells #[.int .i64 0, .int .i64 0, .slice none 0 0] 122)).drewN r).drewN m := fun r => by
    have h := rget_any (ht0.move byteR_fine (w' := (w.alloc (.cells #[.int .i64 0, .int .i64 0, .slice none 0 0] 122)).drewN r) (S' := Old _) (fun _ _ => rfl) (fun _ h => h)) 4 (by omega) (by omega)
    rw [htl] at h
    exact h.mono fun e w' ⟨he, hw⟩ => ⟨he, 0, by rw [← hw]; rfl⟩
  have hs : ∀ r, Calls Tryd.prog 115 #[.slice (some ad) q c] ((w.alloc (.cells #[.int .i64 0, .int .i64 0, .slice none 0 0] 122)).drewN r) fun e w' => e = .returned (.int .i64 (crc (l.take q))) ∧ ∃ m, w' = ((w.alloc (.cells #[.int .i64 0, .int .i64 0, .slice none 0 0] 122)).drewN r).drewN m := fun r => by
    have h := ref_sum (hi0.move byteR_fine (w' := (w.alloc (.cells #[.int .i64 0, .int .i64 0, .slice none 0 0] 122)).drewN r) (S' := Old _) (fun _ _ => rfl) (fun _ h => h)) (by omega)
    exact h.mono fun e w' ⟨he, hw⟩ => ⟨he, 0, by rw [← hw]; rfl⟩
  clear hW
  obtain ⟨T, hT⟩ : ∃ T, T = num (l.drop q) := ⟨_, rfl⟩
  obtain ⟨S, hS⟩ : ∃ S, S = crc (l.take q) := ⟨_, rfl⟩
  rw [← hT] at hg
  rw [← hS] at hs
  have HG := hide hg
  have HC := hide hs
  have HT := hide hT
  have HS := hide hS
  have HLEN := hide hlen
  clear hg hs hT hS hlen hcap htl
  by_cases h3 : T = S
  · subst h3
    have e3 : ((T : Int) != (T : Int)) = false := by simp
    have hx256 := x.toNat_lt
    have hq103 : q ≤ 103 := by omega
    have hq7 : 7 ≤ q := by omega
    have hhd : l.headD 0 = x := by cases l with
      | nil => simp at hx
      | cons a b => simpa using hx
    have HHD := hide hhd
    clear hhd hx
    by_cases h5 : x.toNat + 7 = q
    · have hO : openS l = (⟨num ((l.drop (q - 6)).take 2), num ((l.drop (q - 4)).take 4), (l.drop 1).take (q - 7)⟩, 0) := by
        unfold openS
        rw [if_neg (by rw [HLEN.out]; omega), HLEN.out, show q + 4 - 4 = q by omega, ← HT.out, ← HS.out, if_neg (by simp), HHD.out, if_neg (by omega)]
        rw [show q + 4 - 10 = q - 6 by omega, show q + 4 - 8 = q - 4 by omega, show q + 4 - 11 = q - 7 by omega]
      have e1 : ((x.toNat : Int) != (q : Int) + 4 - 11) = false := by simp; omega
      unfold OpenPost
      rw [hO]
      clear hO
      obtain ⟨p, rfl⟩ : ∃ p, q = p + 6 := ⟨q - 6, by omega⟩
      have hc1 : ¬ c = 1 := by omega
      have hcp : ¬ c = p := by omega
      have hcp2 : ¬ c = p + 2 := by omega
      have w1 := cut1 hl (i := 1) (j := p) (by omega) (by omega) hc1
      have w2 := rest1 hl (i := p) (by omega) hcp
      have w3 := rest1 hl (i := p + 2) (by omega) hcp2
      rw [show p + 6 + 4 - p = 10 by omega] at w2
      rw [show p + 6 + 4 - (p + 2) = 8 by omega] at w3
      rw [show p + 6 - 6 = p by omega, show p + 6 - 4 = p + 2 by omega, show p + 6 - 7 = p - 1 by omega]
      have HT1 : ∀ W, Below w.heap.size w W → Calls Tryd.prog 42 #[.slice (some ⟨ad.block, ad.off + 1, none⟩) (p - 1) (c - 1)] W fun e w' => ∃ V cv, e = .returned (.slice V (p - 1) cv) ∧ Sl byteR 1 w' (New W.heap.size w') V (p - 1) cv ((l.drop 1).take (p - 1)) ∧ Below W.heap.size W w' := fun W hW =>
        (twin_any _ _ _ _ W (w1.on byteR_fine hW) (by omega)).mono fun e w' ⟨V, cv, he, ho, hb⟩ => ⟨V, cv, he, ho.new_ byteR_fine (Nat.le_refl _) (Nat.le_refl _), hb⟩
      obtain ⟨P1, hP1⟩ : ∃ P1, P1 = num ((l.drop p).take 2) := ⟨_, rfl⟩
      obtain ⟨P2, hP2⟩ : ∃ P2, P2 = num ((l.drop (p + 2)).take 4) := ⟨_, rfl⟩
      rw [← hP1, ← hP2]
      have HT2 : ∀ W, Below w.heap.size w W → Calls Tryd.prog 43 #[.slice (some (ad.add p)) 10 (c - p), .int .i64 2] W fun e w' => e = .returned (.int .i64 P1) ∧ W = w' := fun W hW => by
        rw [hP1]; exact rget_any (w2.on byteR_fine hW) 2 (by omega) (by omega)
      have HT4 : ∀ W, Below w.heap.size w W → Calls Tryd.prog 43 #[.slice (some (ad.add (p + 2))) 8 (c - (p + 2)), .int .i64 4] W fun e w' => e = .returned (.int .i64 P2) ∧ W = w' := fun W hW => by
        rw [hP2]; exact rget_any (w3.on byteR_fine hW) 4 (by omega) (by omega)
      have HT1 := hide HT1
      have HT2 := hide HT2
      have HT4 : ∀ W, Below w.heap.size w W → Calls Tryd.prog 43 #[.slice (some ⟨ad.block, ad.off + (p + 1 + 1), none⟩) 8 (c - (p + 2)), .int .i64 4] W fun e w' => e = .returned (.int .i64 P2) ∧ W = w' := HT4
      have HT4 := hide HT4
      clear hP1 hP2
      go_enter Tryd.func113, Tryd.ntmps113
      go_wp2_with fail
      go_quiet ((first | (go_at_call 43; exact Calls.quiet_of (HG.out _)) | (go_at_call 115; exact Calls.quiet_of (HC.out _))))
      go_wp2_with fail
      have b1 : p ≤ c := by omega
      have b2 : p + 2 ≤ c := by omega
      have b3 : 1 ≤ p := by omega
      have b4 : 1 ≤ c := by omega
      have b5 : (p : Int) ≤ (c : Int) := by omega
      have b6 : (p : Int) + 2 ≤ (c : Int) := by omega
      have b7 : (1 : Int) ≤ (p : Int) := by omega
      have b8 : (0 : Int) ≤ (p : Int) + 2 := by omega
      have hw1 : IntKind.i64.wrap ((p : Int) + 6 + 4 - 10) = (p : Int) := by
        have h := IntWalk.i64_in (p : Int) ⟨by omega, by omega⟩; rw [show (p : Int) + 6 + 4 - 10 = (p : Int) by omega]; exact h
      have hw2 : IntKind.i64.wrap ((p : Int) + 6 + 4 - 8) = (p : Int) + 2 := by
        have h := IntWalk.i64_in ((p : Int) + 2) ⟨by omega, by omega⟩; rw [show (p : Int) + 6 + 4 - 8 = (p : Int) + 2 by omega]; exact h
      have hm1 : max (p : Int) 0 = (p : Int) := by omega
      have hm2 : max ((p : Int) + 2) 0 = (p : Int) + 2 := by omega
      have hm3 : ((p : Int) + 2).toNat = p + 2 := by omega
      have hbd : Below w.heap.size w ((w.alloc (.cells #[.int .i64 0, .int .i64 0, .slice none 0 0] 122)).drewN (nq + 1)) := hb0.trans ((drewN_below _ (nq + 1)).mono hb0.size)
      have hn2 : p + 6 + 4 - p = 10 := by omega
      have hn3 : p + 6 + 4 - (p + 2) = 8 := by omega
      clear HG HC
      go_region_with (first
        | (go_at_call 42; refine (HT1.out _ hbd).mono ?_; rintro e w5 ⟨V5, c5, rfl, hs5, hb5⟩; have hb6 := hbd.trans (hb5.mono hbd.size); have hbb := th (drewN_below (w.alloc (.cells #[.int .i64 0, .int .i64 0, .slice none 0 0] 122)) (nq + 1)) hb5; have k0 := box_cell hbb 0 _ rfl; have k1 := box_cell hbb 1 _ rfl; have k2 := box_cell hbb 2 _ rfl; have f0 := box_free hbb 0; have f1 := box_free hbb 1; have f2 := box_free hbb 2)
        | (go_at_call 43; (with_reducible refine (HT2.out _ hbd).mono ?_); rintro e w7 ⟨rfl, rfl⟩)
        | (go_at_call 43; (with_reducible refine (HT4.out _ hbd).mono ?_); rintro e w7 ⟨rfl, rfl⟩)
        | (go_at_call 43; (with_reducible refine (HT2.out _ hb6).mono ?_); rintro e w7 ⟨rfl, rfl⟩)
        | (go_at_call 43; (with_reducible refine (HT4.out _ hb6).mono ?_); rintro e w7 ⟨rfl, rfl⟩))
      all_goals go_wp2_with fail
      all_goals
        have hN : w.heap.size < (w.alloc (.cells #[.int .i64 0, .int .i64 0, .slice none 0 0] 122)).heap.size := by simp
        have hN5 := hbb.size
        refine bodyPost_ret (v := .tuple #[.agg #[.int .i64 P1, .int .i64 P2, .slice V5 (p - 1) c5], .int .i64 0]) (by simp [results, Tryd.results113, go_sem, k0, k1, k2]) rfl ⟨V5, p - 1, c5, rfl, ?_, ?_⟩
        · exact ((((hs5.new_set byteR_fine _ _ hN).new_set byteR_fine _ _ hN).new_set byteR_fine _ _ hN)).old_ byteR_fine
        · exact ((((hb6.setCell (Nat.le_refl _) _).setCell (Nat.le_refl _) _).setCell (Nat.le_refl _) _))
    · have hO : openS l = (noSec, 4) := by
        unfold openS
        rw [if_neg (by rw [HLEN.out]; omega), HLEN.out, show q + 4 - 4 = q by omega, ← HT.out, ← HS.out, if_neg (by simp), HHD.out, if_pos (by omega)]
      have e1 : ((x.toNat : Int) != (q : Int) + 4 - 11) = true := by simp; omega
      unfold OpenPost
      rw [hO]
      clear hO
      go_enter Tryd.func113, Tryd.ntmps113
      go_wp2_with fail
      go_quiet ((first | (go_at_call 43; exact Calls.quiet_of (HG.out _)) | (go_at_call 115; exact Calls.quiet_of (HC.out _))))
      go_wp2_with fail
      refine bodyPost_ret (v := .tuple #[.agg #[.int .i64 0, .int .i64 0, .slice none 0 0], .int .i64 4]) (by simp [results, Tryd.results113, go_sem]) rfl ⟨none, 0, 0, rfl, Sl.nil_ _, ?_⟩
      exact ((((hb0.trans ((drewN_below _ nq).mono hb0.size)).setCell (Nat.le_refl _) _).setCell (Nat.le_refl _) _).setCell (Nat.le_refl _) _)
  · have e3 : ((T : Int) != (S : Int)) = true := by simp; omega
    have hO : openS l = (noSec, 5) := by
      unfold openS
      rw [if_neg (by rw [HLEN.out]; omega), HLEN.out, show q + 4 - 4 = q by omega, ← HT.out, ← HS.out, if_pos h3]
    unfold OpenPost
    rw [hO]
    clear hO hx
    go_enter Tryd.func113, Tryd.ntmps113
    go_wp2_with fail
    go_quiet ((first | (go_at_call 43; exact Calls.quiet_of (HG.out _)) | (go_at_call 115; exact Calls.quiet_of (HC.out _))))
    go_wp2_with fail
    refine bodyPost_ret (v := .tuple #[.agg #[.int .i64 0, .int .i64 0, .slice none 0 0], .int .i64 5]) (by simp [results, Tryd.results113, go_sem]) rfl ⟨none, 0, 0, rfl, Sl.nil_ _, ?_⟩
    exact ((((hb0.trans ((drewN_below _ nq).mono hb0.size)).setCell (Nat.le_refl _) _).setCell (Nat.le_refl _) _).setCell (Nat.le_refl _) _)

end Go.Proofs.YtamgpbkakmffiaaDoor

namespace Go.Proofs.YtamgpbkakmffiaaDoor
open Go.RowKit
set_option linter.unusedVariables false
set_option maxRecDepth 100000

/-- Bytes stay while a cell that holds no byte is stored into. -/
theorem bs_put {w : World} {A : Option Addr} {n c N k : Nat} {l : List UInt8} {u v : Value} (h : Bs w A n c l) (hc : w.cell? ⟨N, k, none⟩ = some u) (hu : ∀ b : UInt8, (.int .u8 (b.toNat : Int) : Value) ≠ u) : Bs (w.setCell ⟨N, k, none⟩ v) A n c l := by
  refine ⟨h.len, h.cap, fun hn => ?_⟩
  obtain ⟨ad, e, hb, hx⟩ := h.at0 hn
  refine ⟨ad, e, by show ad.block < (w.setCell _ _).heap.size; rw [set_size]; exact hb, fun i x hi => ?_⟩
  obtain ⟨cs, hr, hat⟩ := hx i x hi
  have hr : cs = [.int .u8 (x.toNat : Int)] := hr
  subst hr
  refine ⟨_, rfl, fun j y hy => ?_⟩
  obtain rfl : j = 0 := by have := (List.getElem?_eq_some_iff.1 hy).1; simp at this; omega
  simp at hy
  subst hy
  exact put_apart (hat 0 _ rfl) hc (hu x)

theorem put_off {w : World} {N k j : Nat} {v u : Value} (hkj : k ≠ j) (h : w.cell? ⟨N, j, none⟩ = some u) : (w.setCell ⟨N, k, none⟩ v).cell? ⟨N, j, none⟩ = some u := by
  unfold World.cell? at h ⊢
  unfold World.setCell
  dsimp only at h ⊢
  rw [Array.getElem?_modify, if_pos rfl]
  cases hb : w.heap[N]? with
  | none => rw [hb] at h; cases h
  | some o =>
    rw [hb] at h
    cases o with
    | cells c e f =>
      simp only [Option.map_some, Option.isSome_none, Bool.false_eq_true, if_false] at h ⊢
      rw [Array.getElem?_setIfInBounds_ne hkj]
      exact h
    | _ => cases h
/-- A struct of two numbers and bytes, stored into its box. -/
theorem put3 {w : World} {M : Nat} {x0 x1 y0 y1 : Int} {A0 A : Option Addr} {n0 c0 n c : Nat} {e : TypeId} {cs : Array Value} {l : List UInt8} (p0 : w.cell? ⟨M, 0, none⟩ = some (.int .i64 x0)) (p1 : w.cell? ⟨M, 1, none⟩ = some (.int .i64 x1)) (p2 : w.cell? ⟨M, 2, none⟩ = some (.slice A0 n0 c0)) (hM : M < w.heap.size) (hs : Bs w A n c l) :
    let W := (((w.setCell ⟨M, 0, none⟩ (.int .i64 y0)).setCell ⟨M, 1, none⟩ (.int .i64 y1)).setCell ⟨M, 2, none⟩ (.slice A n c)).alloc (.cells cs e)
    W.cell? ⟨M, 0, none⟩ = some (.int .i64 y0) ∧ W.cell? ⟨M, 1, none⟩ = some (.int .i64 y1) ∧ W.cell? ⟨M, 2, none⟩ = some (.slice A n c) ∧ Bs W A n c l := by
  have q0 := put_same (v := .int .i64 y0) p0
  have q1 := put_off (v := .int .i64 y0) (show 0 ≠ 1 by omega) p1
  have q2 := put_off (v := .int .i64 y0) (show 0 ≠ 2 by omega) p2
  have s1 := bs_put (v := .int .i64 y0) hs p0 (by intro b h; injection h with h; cases h)
  have r0 := put_off (v := .int .i64 y1) (show 1 ≠ 0 by omega) q0
  have r1 := put_same (v := .int .i64 y1) q1
  have r2 := put_off (v := .int .i64 y1) (show 1 ≠ 2 by omega) q2
  have s2 := bs_put (v := .int .i64 y1) s1 q1 (by intro b h; injection h with h; cases h)
  have t0 := put_off (v := .slice A n c) (show 2 ≠ 0 by omega) r0
  have t1 := put_off (v := .slice A n c) (show 2 ≠ 1 by omega) r1
  have t2 := put_same (v := .slice A n c) r2
  have s3 := bs_put (v := .slice A n c) s2 r2 (by intro b h; cases h)
  have hb := alloc_below (((w.setCell ⟨M, 0, none⟩ (.int .i64 y0)).setCell ⟨M, 1, none⟩ (.int .i64 y1)).setCell ⟨M, 2, none⟩ (.slice A n c)) (.cells cs e)
  have hm : M < (((w.setCell ⟨M, 0, none⟩ (.int .i64 y0)).setCell ⟨M, 1, none⟩ (.int .i64 y1)).setCell ⟨M, 2, none⟩ (.slice A n c)).heap.size := by rw [set_size, set_size, set_size]; exact hM
  exact ⟨(hb.cell hm).trans t0, (hb.cell hm).trans t1, (hb.cell hm).trans t2, s3.on byteR_fine hb⟩

/-- What the page's Sector tells. -/
def sctL (err : Int) (l : List UInt8) (a : Int) : Sec × Bool := if err = 0 ∧ (openS l).2 = 0 ∧ (openS l).1.addr = a then ((openS l).1, true) else (noSec, false)
def SctPost (w : World) (S : Sec × Bool) (e : Ending) (w' : World) : Prop := Below w.heap.size w w' ∧ ∃ V n c, e = .returned (.tuple #[.agg #[.int .i64 S.1.addr, .int .i64 S.1.stamp, .slice V n c], .bool S.2]) ∧ Bs w' V n c S.1.load

set_option maxHeartbeats 2000000 in
theorem sector_any {A : Option Addr} {n c : Nat} {l : List UInt8} {w : World} (err a : Int) (hl : Bs w A n c l) (hn : n ≤ 65536) :
    Calls Tryd.prog 91 #[.agg #[.int .i64 err, .slice A n c], .int .i64 a] w (SctPost w (sctL err l a)) := by
  have hS0 : (w.alloc (.cells #[.int .i64 err, .slice A n c] 78)).heap.size = w.heap.size + 1 := by simp
  have hb0 : Below w.heap.size w ((w.alloc (.cells #[.int .i64 err, .slice A n c] 78)).alloc (.cells #[.int .i64 0, .int .i64 0, .slice none 0 0] 122)) := (alloc_below w _).alloc (by simp) _
  have bx : ∀ W, Below ((w.alloc (.cells #[.int .i64 err, .slice A n c] 78)).alloc (.cells #[.int .i64 0, .int .i64 0, .slice none 0 0] 122)).heap.size ((w.alloc (.cells #[.int .i64 err, .slice A n c] 78)).alloc (.cells #[.int .i64 0, .int .i64 0, .slice none 0 0] 122)) W →
      W.cell? ⟨w.heap.size + 1, 0, none⟩ = some (.int .i64 0) ∧ W.cell? ⟨w.heap.size + 1, 1, none⟩ = some (.int .i64 0) ∧ W.cell? ⟨w.heap.size + 1, 2, none⟩ = some (.slice none 0 0) ∧ W.frozen? ⟨w.heap.size + 1, 0, none⟩ = false ∧ W.frozen? ⟨w.heap.size + 1, 1, none⟩ = false ∧ W.frozen? ⟨w.heap.size + 1, 2, none⟩ = false ∧ Below w.heap.size w W := fun W hW =>
    ⟨bx_at2 hS0 hW 0 _ rfl, bx_at2 hS0 hW 1 _ rfl, bx_at2 hS0 hW 2 _ rfl, bx_free2 hS0 hW 0, bx_free2 hS0 hW 1, bx_free2 hS0 hW 2, th (alloc_below _ _) (th (alloc_below _ _) hW)⟩
  have BX := hide bx
  have hop := ropen_any (hl.on byteR_fine hb0) hn
  unfold OpenPost at hop
  unfold SctPost sctL
  obtain ⟨O, hO⟩ : ∃ O, O = openS l := ⟨_, rfl⟩
  rw [← hO] at hop ⊢
  obtain ⟨⟨oa, os, ol⟩, oe⟩ := O
  dsimp only at hop ⊢
  have HOP := hide hop
  clear hop hO bx hS0
  by_cases h0 : err = 0
  · subst h0
    by_cases h1 : oe = 0
    · subst h1
      by_cases h2 : oa = a
      · subst h2
        rw [if_pos ⟨rfl, rfl, rfl⟩]
        dsimp only
        go_enter Tryd.func91, Tryd.ntmps91
        go_wp2_with fail
        refine HOP.out.mono ?_
        rintro e w1 ⟨A1, n1, c1, rfl, hs1, hb1⟩
        obtain ⟨p0, p1, p2, f0, f1, f2, hbw⟩ := BX.out w1 hb1
        have hlt : w.heap.size + 1 < w1.heap.size := by have := hb1.size; simp at this; omega
        go_wp2_with fail
        obtain ⟨u0, u1, u2, hsf⟩ := put3 (y0 := oa) (y1 := os) (e := 122) (cs := #[.int .i64 oa, .int .i64 os, .slice A1 n1 c1]) p0 p1 p2 hlt hs1
        exact bodyPost_ret (v := .tuple #[.agg #[.int .i64 oa, .int .i64 os, .slice A1 n1 c1], .bool true]) (by simp [results, Tryd.results91, go_sem, u0, u1, u2]) rfl ⟨(((hbw.setCell (by simp) _).setCell (by simp) _).setCell (by simp) _).alloc (by rw [set_size, set_size, set_size]; exact hbw.size) _, A1, n1, c1, rfl, hsf⟩
      · rw [if_neg (fun h => h2 h.2.2)]
        have e3 : (oa != a) = true := by simpa using h2
        unfold noSec
        clear h2
        dsimp only
        go_enter Tryd.func91, Tryd.ntmps91
        go_wp2_with fail
        refine HOP.out.mono ?_
        rintro e w1 ⟨A1, n1, c1, rfl, hs1, hb1⟩
        obtain ⟨p0, p1, p2, f0, f1, f2, hbw⟩ := BX.out w1 hb1
        have hlt : w.heap.size + 1 < w1.heap.size := by have := hb1.size; simp at this; omega
        go_wp2_with fail
        obtain ⟨u0, u1, u2, hsf⟩ := put3 (A := none) (n := 0) (c := 0) (y0 := 0) (y1 := 0) (e := 122) (cs := #[.int .i64 oa, .int .i64 os, .slice A1 n1 c1]) p0 p1 p2 hlt (Sl.nil_ _)
        exact bodyPost_ret (v := .tuple #[.agg #[.int .i64 0, .int .i64 0, .slice none 0 0], .bool false]) (by simp [results, Tryd.results91, go_sem, u0, u1, u2]) rfl ⟨(((hbw.setCell (by simp) _).setCell (by simp) _).setCell (by simp) _).alloc (by rw [set_size, set_size, set_size]; exact hbw.size) _, none, 0, 0, rfl, hsf⟩
    · rw [if_neg (fun h => h1 h.2.1)]
      have e3 : (oe != 0) = true := by simpa using h1
      unfold noSec
      clear h1
      dsimp only
      go_enter Tryd.func91, Tryd.ntmps91
      go_wp2_with fail
      refine HOP.out.mono ?_
      rintro e w1 ⟨A1, n1, c1, rfl, hs1, hb1⟩
      obtain ⟨p0, p1, p2, f0, f1, f2, hbw⟩ := BX.out w1 hb1
      have hlt : w.heap.size + 1 < w1.heap.size := by have := hb1.size; simp at this; omega
      go_wp2_with fail
      obtain ⟨u0, u1, u2, hsf⟩ := put3 (A := none) (n := 0) (c := 0) (y0 := 0) (y1 := 0) (e := 122) (cs := #[.int .i64 oa, .int .i64 os, .slice A1 n1 c1]) p0 p1 p2 hlt (Sl.nil_ _)
      exact bodyPost_ret (v := .tuple #[.agg #[.int .i64 0, .int .i64 0, .slice none 0 0], .bool false]) (by simp [results, Tryd.results91, go_sem, u0, u1, u2]) rfl ⟨(((hbw.setCell (by simp) _).setCell (by simp) _).setCell (by simp) _).alloc (by rw [set_size, set_size, set_size]; exact hbw.size) _, none, 0, 0, rfl, hsf⟩
  · rw [if_neg (fun h => h0 h.1)]
    have e3 : (err != 0) = true := by simpa using h0
    unfold noSec
    clear h0
    dsimp only
    go_enter Tryd.func91, Tryd.ntmps91
    go_wp2_with fail
    exact bodyPost_ret (v := .tuple #[.agg #[.int .i64 0, .int .i64 0, .slice none 0 0], .bool false]) (by simp [results, Tryd.results91, go_sem]) rfl ⟨hb0, none, 0, 0, rfl, Sl.nil_ _⟩

end Go.Proofs.YtamgpbkakmffiaaDoor
