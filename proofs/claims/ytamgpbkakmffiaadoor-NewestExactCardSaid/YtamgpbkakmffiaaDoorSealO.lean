/-
  Contracts: seal.Open.
-/
import Derived.Test.YtamgpbkakmffiaaDoorSeal
import Derived.Test.YtamgpbkakmffiaaDoorPackU
namespace Go.Proofs.YtamgpbkakmffiaaDoor
open Go.RowKit
set_option linter.unusedVariables false
set_option maxRecDepth 100000

def OpenPost (w : World) (l : List UInt8) (e : Ending) (w' : World) : Prop :=
  ∃ A n c, e = .returned (.tuple #[.agg #[.int .i64 (openS l).1.addr, .int .i64 (openS l).1.stamp, .slice A n c], .int .i64 (openS l).2]) ∧ Bs w' A n c (openS l).1.load ∧ Below w.heap.size w w'

/-- A literal of two ints just made. -/
theorem lit_ints2 {w : World} {a b : Int} (e : TypeId) (ha : InI a) (hb : InI b) : Is (w.alloc (.cells #[.int .i64 a, .int .i64 b] e)) (some ⟨w.heap.size, 0, none⟩) 2 2 [a, b] :=
  (Ow.made (R := intR) (s := 1) (lo := 0) (e := e) (n := 2) (L := [a, b]) w #[.int .i64 a, .int .i64 b] (by simp only [maxLen]; omega) rfl rfl (by simp [Value.oneCell']) (fun i x hx => by
    have hi := (List.getElem?_eq_some_iff.1 hx).1
    simp at hi
    obtain rfl | rfl : i = 0 ∨ i = 1 := by omega
    · simp at hx
      subst hx
      exact ⟨rfl, ha⟩
    · simp at hx
      subst hx
      exact ⟨rfl, hb⟩) intR_fine).read intR_fine

set_option maxHeartbeats 1000000 in
theorem open_any {A : Option Addr} {n c : Nat} {l : List UInt8} {w : World} (hl : Bs w A n c l) (hn : n ≤ 65536) :
    Calls Tryd.prog 88 #[.slice A n c] w (OpenPost w l) := by
  have hlen := hl.len
  have hcap := hl.cap
  by_cases h1 : n < 11
  · have hO : openS l = (noSec, 4) := by unfold openS; rw [if_pos (by omega)]
    unfold OpenPost
    rw [hO]
    clear hlen hcap hO
    go_enter Tryd.func88, Tryd.ntmps88
    go_wp2_with fail
    refine bodyPost_ret (v := .tuple #[.agg #[.int .i64 0, .int .i64 0, .slice none 0 0], .int .i64 4]) (by simp [results, Tryd.results88, go_sem]) rfl ⟨none, 0, 0, rfl, Sl.nil_ _, alloc_below _ _⟩
  by_cases h2 : 107 < n
  · have hO : openS l = (noSec, 4) := by unfold openS; rw [if_pos (by omega)]
    unfold OpenPost
    rw [hO]
    clear hlen hcap hO
    go_enter Tryd.func88, Tryd.ntmps88
    go_wp2_with fail
    refine bodyPost_ret (v := .tuple #[.agg #[.int .i64 0, .int .i64 0, .slice none 0 0], .int .i64 4]) (by simp [results, Tryd.results88, go_sem]) rfl ⟨none, 0, 0, rfl, Sl.nil_ _, alloc_below _ _⟩
  obtain ⟨q, rfl⟩ : ∃ q, n = q + 4 := ⟨n - 4, by omega⟩
  obtain ⟨ad, x, rfl, hadl, hx, _⟩ := at_byte hl (show 0 < q + 4 by omega)
  have hck : ¬ c = q := by omega
  have hqc : q ≤ c := by omega
  have ht := rest1 hl (i := q) (by omega) hck
  rw [Nat.add_sub_cancel_left] at ht
  have hi := hl.init_ (j := q) (by omega)
  have hb0 := alloc_below w (.cells #[.int .i64 0, .int .i64 0, .slice none 0 0] 122)
  have ht0 := ht.on byteR_fine hb0
  have hi0 := hi.on byteR_fine hb0
  have htl : (l.drop q).take 4 = l.drop q := List.take_of_length_le (by rw [List.length_drop]; omega)
  by_cases h3 : num (l.drop q) ≠ crc (l.take q)
  · have hO : openS l = (noSec, 5) := by unfold openS; rw [if_neg (by omega), hlen, show q + 4 - 4 = q by omega, if_pos h3]
    unfold OpenPost
    rw [hO]
    obtain ⟨T, hT⟩ : ∃ T, T = num (l.drop q) := ⟨_, rfl⟩
    obtain ⟨S, hS⟩ : ∃ S, S = crc (l.take q) := ⟨_, rfl⟩
    rw [← hT, ← hS] at h3
    have h4 : ((T : Int) != (S : Int)) = true := by simp; omega
    have HT := hide hT
    have HS := hide hS
    have HTL := hide htl
    clear hlen hcap hO hx hT hS htl
    go_enter Tryd.func88, Tryd.ntmps88
    go_wp2_with fail
    refine (get_ok ht0 (by omega) 4 (by omega) (by omega)).mono ?_
    rintro e w1 ⟨V1, c1, rfl, ho1, hb1⟩
    rw [HTL.out, ← HT.out]
    go_wp2_with fail
    refine (sum_of (hi0.on byteR_fine hb1) (by omega)).mono ?_
    rintro e w2 ⟨rfl, rfl⟩
    rw [← HS.out]
    have k0 := box_cell hb1 0 _ rfl
    have k1 := box_cell hb1 1 _ rfl
    have k2 := box_cell hb1 2 _ rfl
    have f0 := box_free hb1 0
    have f1 := box_free hb1 1
    have f2 := box_free hb1 2
    go_wp2_with fail
    refine bodyPost_ret (v := .tuple #[.agg #[.int .i64 0, .int .i64 0, .slice none 0 0], .int .i64 5]) (by simp [results, Tryd.results88, go_sem, k0, k1, k2]) rfl ⟨none, 0, 0, rfl, Sl.nil_ _, hb0.trans (((hb1.mono hb0.size).setCell (Nat.le_refl _) _).setCell (Nat.le_refl _) _ |>.setCell (Nat.le_refl _) _)⟩
  have h3' := Decidable.not_not.1 h3
  obtain ⟨T, hT⟩ : ∃ T, T = num (l.drop q) := ⟨_, rfl⟩
  have hS : T = crc (l.take q) := hT.trans h3'
  obtain ⟨x', l', hxl⟩ : ∃ x' l', l = x' :: l' := by
    cases l with
    | nil => simp at hlen
    | cons a b => exact ⟨a, b, rfl⟩
  obtain rfl : x' = x := by rw [hxl] at hx; simpa using hx
  have hl0 : Bs (w.alloc (.cells #[.int .i64 0, .int .i64 0, .slice none 0 0] 122)) (some ad) (q + 4) c (x' :: l') := by rw [← hxl]; exact hl.on byteR_fine hb0
  have hx256 := x'.toNat_lt
  have hq7 : 7 ≤ q := by omega
  have hq103 : q ≤ 103 := by omega
  have HT := hide hT
  have HS := hide hS
  have HTL := hide htl
  have HLEN := hide hlen
  have HXL := hide hxl
  clear hcap hx hT hS htl h3' h3 hlen hxl h1 h2
  by_cases h5 : x'.toNat + 7 = q
  · have hO : openS l = (⟨num ((l.drop (q - 6)).take 2), num ((l.drop (q - 4)).take 4), (l.drop 1).take (q - 7)⟩, 0) := by
      unfold openS
      rw [if_neg (by rw [HLEN.out]; omega), HLEN.out, show q + 4 - 4 = q by omega, ← HT.out, ← HS.out, if_neg (by simp), if_neg (by rw [HXL.out]; simp; omega)]
      rw [show q + 4 - 10 = q - 6 by omega, show q + 4 - 8 = q - 4 by omega, show q + 4 - 11 = q - 7 by omega]
    have e1 : ((x'.toNat : Int) != (q : Int) + 4 - 11) = false := by simp; omega
    have hd1 : l'.drop x'.toNat = l.drop (q - 6) := by rw [HXL.out, show q - 6 = x'.toNat + 1 by omega, List.drop_succ_cons]
    have hd2 : (l'.drop x'.toNat).drop 2 = l.drop (q - 4) := by rw [hd1, List.drop_drop, show q - 6 + 2 = q - 4 by omega]
    have hp : l'.take x'.toNat = (l.drop 1).take (q - 7) := by rw [HXL.out, List.drop_succ_cons, List.drop_zero, show q - 7 = x'.toNat by omega]
    unfold OpenPost
    rw [hO]
    have hu : unrowI [2, 4] (l'.drop x'.toNat) = [(num ((l.drop (q - 6)).take 2) : Int), (num ((l.drop (q - 4)).take 4) : Int)] := by
      simp only [unrowI]
      rw [show Int.toNat 2 = 2 from rfl, show Int.toNat 4 = 4 from rfl, hd2, hd1]
    obtain ⟨P1, hP1⟩ : ∃ P1, P1 = num ((l.drop (q - 6)).take 2) := ⟨_, rfl⟩
    obtain ⟨P2, hP2⟩ : ∃ P2, P2 = num ((l.drop (q - 4)).take 4) := ⟨_, rfl⟩
    rw [← hP1, ← hP2] at hu ⊢
    have hll : (l'.drop x'.toNat).length = 10 := by
      have := HLEN.out
      rw [HXL.out] at this
      simp at this ⊢
      omega
    have HU := hide hu
    have HP := hide hp
    have HLL := hide hll
    clear hO hd1 hd2 hp hu hll hP1 hP2
    go_enter Tryd.func88, Tryd.ntmps88
    go_wp2_with fail
    refine (get_ok ht0 (by omega) 4 (by omega) (by omega)).mono ?_
    rintro e w1 ⟨V1, c1, rfl, ho1, hb1⟩
    rw [HTL.out, ← HT.out]
    go_wp2_with fail
    refine (sum_of (hi0.on byteR_fine hb1) (by omega)).mono ?_
    rintro e w2 ⟨rfl, rfl⟩
    rw [← HS.out]
    go_wp2_with fail
    refine (unpart_ok (hl0.on byteR_fine hb1) (by omega) (by omega)).mono ?_
    rintro e w2 ⟨V2, c2, V3, c3, rfl, hs2, hs3n, hb2⟩
    have hs3 := hs3n.old_ byteR_fine
    rw [show q + 4 - (1 + x'.toNat) = 10 by omega] at hs3 ⊢
    go_wp2_with fail
    have hb3 := alloc_below w2 (.cells #[.int .i64 2, .int .i64 4] 3)
    refine (unrow_any (hs3.on byteR_fine hb3) (lit_ints2 _ ⟨by omega, by omega⟩ ⟨by omega, by omega⟩) (by omega) (by omega) (by intro z hz; simp at hz; rcases hz with rfl | rfl; exact .inr (.inl rfl); exact .inr (.inr rfl))).mono ?_
    rintro e w4 ⟨hb4, ⟨_, V4, c4, R4, cr4, rfl, hs4, hr4⟩ | ⟨hlt, _⟩⟩
    · rw [HU.out] at hs4
      have hbb := th hb1 (th hb2 (th hb3 hb4))
      have k0 := box_cell hbb 0 _ rfl
      have k1 := box_cell hbb 1 _ rfl
      have k2 := box_cell hbb 2 _ rfl
      have f0 := box_free hbb 0
      have f1 := box_free hbb 1
      have f2 := box_free hbb 2
      obtain ⟨bd, y0, rfl, _, hy0, _, hc0⟩ := at_int hs4 (k := 0) (by simp)
      obtain ⟨_, y1, hh, _, hy1, _, hc1⟩ := at_int hs4 (k := 1) (by simp)
      cases hh
      simp at hy0 hy1
      subst hy0; subst hy1
      have hp4 := hs2.new_on byteR_fine (th hb3 hb4)
      rw [HP.out] at hp4
      go_wp2_with fail
      rw [add_zero'] at hc0
      have hc1 : w4.cell? ⟨bd.block, bd.off + 1, none⟩ = some (.int .i64 P2) := hc1
      go_region
      all_goals go_wp2_with fail
      have hN : w.heap.size < w1.heap.size := Nat.lt_of_lt_of_le (by simp) hb1.size
      refine bodyPost_ret (v := .tuple #[.agg #[.int .i64 P1, .int .i64 P2, .slice V2 x'.toNat c2], .int .i64 0]) (by simp [results, Tryd.results88, go_sem, k0, k1, k2]) rfl ⟨V2, x'.toNat, c2, rfl, ?_, ?_⟩
      · exact (((((hp4.new_set byteR_fine _ _ hN).new_set byteR_fine _ _ hN).new_set byteR_fine _ _ hN).new_drew byteR_fine)).old_ byteR_fine
      · exact ((hb0.trans ((((hbb.mono hb0.size).setCell (Nat.le_refl _) _).setCell (Nat.le_refl _) _).setCell (Nat.le_refl _) _))).drew
    · rw [HLL.out] at hlt
      exact absurd hlt (by decide)
  have hO : openS l = (noSec, 4) := by
    unfold openS
    rw [if_neg (by rw [HLEN.out]; omega), HLEN.out, show q + 4 - 4 = q by omega, ← HT.out, ← HS.out, if_neg (by simp), if_pos (by rw [HXL.out]; simp; omega)]
  unfold OpenPost
  rw [hO]
  have HO := hide hO
  clear hO
  by_cases h6 : q + 4 < 1 + x'.toNat
  · go_enter Tryd.func88, Tryd.ntmps88
    go_wp2_with fail
    refine (get_ok ht0 (by omega) 4 (by omega) (by omega)).mono ?_
    rintro e w1 ⟨V1, c1, rfl, ho1, hb1⟩
    rw [HTL.out, ← HT.out]
    go_wp2_with fail
    refine (sum_of (hi0.on byteR_fine hb1) (by omega)).mono ?_
    rintro e w2 ⟨rfl, rfl⟩
    rw [← HS.out]
    go_wp2_with fail
    refine (unpart_short (hl0.on byteR_fine hb1) h6).mono ?_
    rintro e w2 ⟨rfl, rfl⟩
    have hbb := hb1
    have k0 := box_cell hbb 0 _ rfl
    have k1 := box_cell hbb 1 _ rfl
    have k2 := box_cell hbb 2 _ rfl
    have f0 := box_free hbb 0
    have f1 := box_free hbb 1
    have f2 := box_free hbb 2
    go_wp2_with fail
    refine bodyPost_ret (v := .tuple #[.agg #[.int .i64 0, .int .i64 0, .slice none 0 0], .int .i64 4]) (by simp [results, Tryd.results88, go_sem, k0, k1, k2]) rfl ⟨none, 0, 0, rfl, Sl.nil_ _, hb0.trans (((((hbb).mono hb0.size).setCell (Nat.le_refl _) _).setCell (Nat.le_refl _) _).setCell (Nat.le_refl _) _)⟩
  · have e1 : ((x'.toNat : Int) != (q : Int) + 4 - 11) = true := by simp; omega
    go_enter Tryd.func88, Tryd.ntmps88
    go_wp2_with fail
    refine (get_ok ht0 (by omega) 4 (by omega) (by omega)).mono ?_
    rintro e w1 ⟨V1, c1, rfl, ho1, hb1⟩
    rw [HTL.out, ← HT.out]
    go_wp2_with fail
    refine (sum_of (hi0.on byteR_fine hb1) (by omega)).mono ?_
    rintro e w2 ⟨rfl, rfl⟩
    rw [← HS.out]
    go_wp2_with fail
    refine (unpart_ok (hl0.on byteR_fine hb1) (by omega) (by omega)).mono ?_
    rintro e w2 ⟨V2, c2, V3, c3, rfl, hs2, hs3n, hb2⟩
    have hs3 := hs3n.old_ byteR_fine
    have hbb := th hb1 hb2
    have k0 := box_cell hbb 0 _ rfl
    have k1 := box_cell hbb 1 _ rfl
    have k2 := box_cell hbb 2 _ rfl
    have f0 := box_free hbb 0
    have f1 := box_free hbb 1
    have f2 := box_free hbb 2
    go_wp2_with fail
    refine bodyPost_ret (v := .tuple #[.agg #[.int .i64 0, .int .i64 0, .slice none 0 0], .int .i64 4]) (by simp [results, Tryd.results88, go_sem, k0, k1, k2]) rfl ⟨none, 0, 0, rfl, Sl.nil_ _, hb0.trans (((((hbb).mono hb0.size).setCell (Nat.le_refl _) _).setCell (Nat.le_refl _) _).setCell (Nat.le_refl _) _)⟩

end Go.Proofs.YtamgpbkakmffiaaDoor
