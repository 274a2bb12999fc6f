/-
  Contract: casematekeep.Anchor.
  Contract: casematelaw08.Heavy.
  Plain: the numbers that stand in an anchor's bytes.
  Contract: casemateref08.in, Anchor.
-/
import Derived.Test.YtdcoholjnlndgaaDoorAncW
import Derived.Test.YtdcoholjnlndgaaDoorPackU
import Derived.WideShapes
import Derived.Lib.Strings
import Derived.Test.YtdcoholjnlndgaaDoorLabT
import Derived.Deep.QuietTactic
import Derived.BigQuiet
namespace Go.Proofs.YtdcoholjnlndgaaDoor
open Go.RowKit Go.Lib
set_option linter.unusedVariables false
set_option maxRecDepth 100000

theorem anc_eq_iff (a b : Anc) : a = b ↔ a.gen = b.gen ∧ a.epoch = b.epoch ∧ a.pos = b.pos ∧ a.seq = b.seq ∧ a.last = b.last ∧ a.label = b.label ∧ a.homes = b.homes := by
  constructor
  · rintro rfl; exact ⟨rfl, rfl, rfl, rfl, rfl, rfl, rfl⟩
  · obtain ⟨a0, a1, a2, a3, a4, a5, a6⟩ := a
    obtain ⟨b0, b1, b2, b3, b4, b5, b6⟩ := b
    rintro ⟨h0, h1, h2, h3, h4, h5, h6⟩
    dsimp only at *
    subst h0; subst h1; subst h2; subst h3; subst h4; subst h5; subst h6
    rfl
instance : DecidableEq Anc := fun a b => decidable_of_iff _ (anc_eq_iff a b).symm
theorem hom_eq_iff (a b : Hom) : a = b ↔ a.places = b.places ∧ a.next = b.next ∧ a.root = b.root := by
  constructor
  · rintro rfl; exact ⟨rfl, rfl, rfl⟩
  · obtain ⟨a0, a1, a2⟩ := a
    obtain ⟨b0, b1, b2⟩ := b
    rintro ⟨h0, h1, h2⟩
    dsimp only at *
    subst h0; subst h1; subst h2
    rfl
theorem ibne_t {x y : Int} (h : x ≠ y) : (x != y) = true := by simpa using h
theorem ibne_f {x y : Int} (h : x = y) : (x != y) = false := by simpa using h

end Go.Proofs.YtdcoholjnlndgaaDoor

namespace Go.Proofs.YtdcoholjnlndgaaDoor
open Go.RowKit Go.Lib
set_option linter.unusedVariables false
set_option maxRecDepth 100000

/-- More than is played? -/
def heavyA (a : Anc) : Bool := decide (10 < a.homes.length) || decide (200 < a.label.size) || a.homes.any (fun h => decide (20 < h.places.length))
theorem heavyA_no {a : Anc} (h : heavyA a = false) : a.homes.length ≤ 10 ∧ a.label.size ≤ 200 ∧ ∀ x ∈ a.homes, x.places.length ≤ 20 := by
  unfold heavyA at h
  rw [Bool.or_eq_false_iff, Bool.or_eq_false_iff, List.any_eq_false] at h
  obtain ⟨⟨h1, h2⟩, h3⟩ := h
  refine ⟨by have := of_decide_eq_false h1; omega, by have := of_decide_eq_false h2; omega, fun x hx => ?_⟩
  have := h3 x hx
  simp at this
  omega
theorem heavyA_light {a : Anc} (h : heavyA a = false) : Light a := by
  obtain ⟨h1, h2, h3⟩ := heavyA_no h
  exact ⟨by omega, by omega, fun x hx => by have := h3 x hx; omega⟩

set_option maxHeartbeats 2000000 in
theorem heavya_any (a : Anc) (A : Option Addr) (n c : Nat) (w : World) (ha : Sl homR 3 w (Old w) A n c a.homes) :
    Calls Tryd.prog 6 #[a.v (.slice A n c)] w fun e w' => e = .returned (.bool (heavyA a)) ∧ Below w.heap.size w w' := by
  have hlen := ha.len
  obtain ⟨gen, epoch, pos, seq, last, label, homes⟩ := a
  dsimp only at *
  obtain ⟨R, hR⟩ : ∃ R, R = heavyA ⟨gen, epoch, pos, seq, last, label, homes⟩ := ⟨_, rfl⟩
  rw [← hR]
  unfold Anc.v
  dsimp only
  obtain ⟨W0, hW0⟩ : ∃ W0, W0 = w.alloc (.cells #[.int .i64 gen, .int .i64 epoch, .int .i64 pos, .int .i64 seq, .int .i64 last, .string label, .slice A n c] 26) := ⟨_, rfl⟩
  have hb0 : Below w.heap.size w W0 := by rw [hW0]; exact alloc_below w _
  have ha0 := ha.on homR_fine hb0
  have hsv : Sev W0 w.heap.size (.int .i64 gen) (.int .i64 epoch) (.int .i64 pos) (.int .i64 seq) (.int .i64 last) (.string label) (.slice A n c) := by rw [hW0]; exact Sev.new rfl (Below.refl _ _)
  rw [hW0] at hsv
  obtain ⟨q0, q1, q2, q3, q4, q5, q6⟩ := hsv
  unfold heavyA at hR
  dsimp only at hR
  rw [hlen] at hR
  by_cases h10 : n ≤ 10
  · have b1 : decide (10 < n) = false := decide_eq_false (by omega)
    have t1 : ¬ (10 : Int) < (n : Int) := by omega
    by_cases h200 : label.size ≤ 200
    · have b2 : decide (200 < label.size) = false := decide_eq_false (by omega)
      have t2 : ¬ (200 : Int) < (label.size : Int) := by omega
      rw [b1, b2, Bool.false_or, Bool.false_or] at hR
      have HR := hide hR
      clear hR b1 b2
      go_enter Tryd.func6, Tryd.ntmps6
      go_wp2_with fail
      rw [← hW0] at q6 ⊢
      clear q0 q1 q2 q3 q4 q5 hW0
      go_loopw [3] (fun i wr => ∃ k : Nat, k ≤ n ∧ i = .int .i64 k ∧ wr = W0 ∧ ∀ j x, homes[j]? = some x → j < k → x.places.length ≤ 20) (fun i _ => n - (RowKit.intOf i).toNat)
      case atStart => exact ⟨0, Nat.zero_le _, rfl, rfl, fun j x _ h => absurd h (Nat.not_lt_zero _)⟩
      case round =>
        obtain ⟨k, hk, rfl, rfl, hall⟩ := hrel
        have HALL := hide hall
        clear hall
        by_cases hlt : k < n
        · obtain ⟨ad, x, A', m, c', rfl, hadl, hx, _, _, hs, d0, d1, d2⟩ := at_hom ha0 hlt
          have hm := hs.len
          have HX := hide hx
          clear hx
          by_cases h20 : m ≤ 20
          · have t3 : ¬ (20 : Int) < (m : Int) := by omega
            go_wp2_with fail
            go_roundw
            case rel =>
              refine ⟨k + 1, by omega, by go_num, by (first | rfl | trivial), fun j y hy hj => ?_⟩
              by_cases hjk : j < k
              · exact HALL.out j y hy hjk
              · obtain rfl : j = k := by omega
                have := HX.out
                rw [hy] at this
                injection this with this
                subst this
                omega
            case measure => (first | omega | (simp [RowKit.intOf]; omega) | (unfold RowKit.intOf; simp; omega) | go_num)
          · have t3 : (20 : Int) < (m : Int) := by omega
            have hRt : R = true := by
              rw [HR.out, List.any_eq_true]
              exact ⟨x, List.mem_of_getElem? HX.out, decide_eq_true (by omega)⟩
            subst hRt
            go_wp2_with fail
            go_ret
            exact ⟨rfl, hb0⟩
        · obtain rfl : k = n := by omega
          have hRf : R = false := by
            rw [HR.out, List.any_eq_false]
            intro x hx
            obtain ⟨j, hj, e⟩ := List.mem_iff_getElem.1 hx
            have := HALL.out j x (by rw [List.getElem?_eq_getElem hj, e]) (by omega)
            simp
            omega
          subst hRf
          go_wp2_with fail
          go_ret
          exact ⟨rfl, hb0⟩
    · have b2 : decide (200 < label.size) = true := decide_eq_true (by omega)
      have t2 : (200 : Int) < (label.size : Int) := by omega
      rw [b1, b2, Bool.false_or, Bool.true_or] at hR
      subst hR
      go_enter Tryd.func6, Tryd.ntmps6
      go_wp2_with fail
      rw [← hW0]
      go_ret
      exact ⟨rfl, hb0⟩
  · have b1 : decide (10 < n) = true := decide_eq_true (by omega)
    have t1 : (10 : Int) < (n : Int) := by omega
    rw [b1, Bool.true_or, Bool.true_or] at hR
    subst hR
    go_enter Tryd.func6, Tryd.ntmps6
    go_wp2_with fail
    rw [← hW0]
    go_ret
    exact ⟨rfl, hb0⟩

end Go.Proofs.YtdcoholjnlndgaaDoor

namespace Go.Proofs.YtdcoholjnlndgaaDoor
set_option linter.unusedVariables false

theorem homsL_append (l r : List Hom) : homsL (l ++ r) = homsL l ++ homsL r := by simp [homsL]
theorem num_one (x : UInt8) : num [x] = x.toNat := by simp [num]
theorem take_one {l : List UInt8} {i : Nat} (h : i < l.length) : (l.drop i).take 1 = [l[i]] := by
  rw [List.drop_eq_getElem_cons h]
  rfl

/-- The numbers at the front. -/
theorem anc_front {g : Geo} {a : Anc} (hG : GeoOk g) (h : AncOk g a) :
    a.gen = (num ((ancL a).take 4) : Int) ∧ a.epoch = (num (((ancL a).drop 4).take 4) : Int) ∧ a.seq = (num (((ancL a).drop 8).take 4) : Int) ∧ a.last = (num (((ancL a).drop 12).take 4) : Int) ∧ a.pos = (num (((ancL a).drop 16).take 1) : Int) := by
  have hb := anc_back hG h
  unfold ancOf at hb
  cases hr : readLab ((ancL a).drop 17) with
  | none => rw [hr] at hb; cases hb
  | some s =>
    rw [hr] at hb
    dsimp only at hb
    split at hb
    · injection hb with hb
      rw [Anc.mk.injEq] at hb
      obtain ⟨h1, h2, h3, h4, h5, _⟩ := hb
      exact ⟨h1.symm, h2.symm, h4.symm, h5.symm, h3.symm⟩
    · cases hb
theorem anc_size {g : Geo} {a : Anc} (hG : GeoOk g) (h : AncOk g a) : ((ancL a).length : Int) = 18 + a.label.size + g.zones * (g.data + 6) := by
  obtain ⟨_, _, hz, hh⟩ := h
  have hds := hG.2.1
  have hzs := hG.1
  have hpl : ∀ h ∈ a.homes, h.places.length = g.data.toNat + 1 := fun h hm => by have := (hh h hm).1; omega
  rw [ancL_len hpl, ← hz]
  have : (sL a.label).length = a.label.size := by simp [sL]
  rw [this]
  obtain ⟨d, hd⟩ : ∃ d : Nat, g.data = (d : Int) := ⟨g.data.toNat, by omega⟩
  rw [hd, Int.toNat_natCast]
  push_cast
  rfl
theorem anc_labAt (a : Anc) : (ancL a)[17]? = some (UInt8.ofNat a.label.size) := by
  have e : ancL a = headL a ++ (UInt8.ofNat (sL a.label).length :: (sL a.label ++ homsL a.homes)) := by simp [ancL, labB]
  have hs : (sL a.label).length = a.label.size := by simp [sL]
  rw [e, List.getElem?_append_right (by rw [headL_len]; omega), headL_len, hs]
  rfl
theorem anc_root {g : Geo} {a : Anc} {x : Hom} {m : Nat} (h : AncOk g a) (hm : a.homes.length = m + 1) (hx : a.homes[m]? = some x) : 4 ≤ (ancL a).length ∧ (num (((ancL a).drop ((ancL a).length - 4)).take 4) : Int) = x.root := by
  obtain ⟨_, _, _, hh⟩ := h
  obtain ⟨hm2, ex⟩ := List.getElem?_eq_some_iff.1 hx
  obtain ⟨_, _, ⟨r1, r2⟩, _⟩ := hh x (by rw [← ex]; exact List.getElem_mem _)
  have e0 : a.homes = a.homes.take m ++ [x] := by
    conv => lhs; rw [← List.take_append_drop m a.homes, List.drop_eq_getElem_cons hm2, ex, List.drop_of_length_le (by omega)]
  have e1 : ancL a = (headL a ++ labB (sL a.label) ++ homsL (a.homes.take m) ++ ((x.places.map fun p => UInt8.ofNat p.toNat) ++ le 1 x.next.toNat)) ++ le 4 x.root.toNat := by
    rw [ancL]
    conv => lhs; rw [e0, homsL_append]
    simp [homsL, homL, List.append_assoc]
  have e2 : (ancL a).length = (headL a ++ labB (sL a.label) ++ homsL (a.homes.take m) ++ ((x.places.map fun p => UInt8.ofNat p.toNat) ++ le 1 x.next.toNat)).length + 4 := by
    conv => lhs; rw [e1, List.length_append, le_len]
  refine ⟨by omega, ?_⟩
  have e3 : (ancL a).drop ((ancL a).length - 4) = le 4 x.root.toNat := by
    rw [e2, Nat.add_sub_cancel]
    conv => lhs; rw [e1]
    exact List.drop_left' rfl
  rw [e3, List.take_of_length_le (by rw [le_len]; omega), num_le, Nat.mod_eq_of_lt (by omega), Int.toNat_of_nonneg r1]

end Go.Proofs.YtdcoholjnlndgaaDoor

namespace Go.Proofs.YtdcoholjnlndgaaDoor
open Go.RowKit Go.Lib
set_option linter.unusedVariables false
set_option maxRecDepth 100000

theorem rin8_any (n lo hi : Int) (w : World) : Calls Tryd.prog 19 #[.int .i64 n, .int .i64 lo, .int .i64 hi] w fun e w' => e = .returned (.bool (decide (lo ≤ n ∧ n ≤ hi))) ∧ w = w' := by
  by_cases h1 : lo ≤ n
  · by_cases h2 : n ≤ hi
    · have e1 : decide (lo ≤ n ∧ n ≤ hi) = true := by simp [h1, h2]
      rw [e1]
      go_enter Tryd.func19, Tryd.ntmps19
      go_wp2_with fail
      go_ret
      exact ⟨rfl, rfl⟩
    · have e1 : decide (lo ≤ n ∧ n ≤ hi) = false := by simp [h2]
      rw [e1]
      go_enter Tryd.func19, Tryd.ntmps19
      go_wp2_with fail
      go_ret
      exact ⟨rfl, rfl⟩
  · have e1 : decide (lo ≤ n ∧ n ≤ hi) = false := by simp [h1]
    rw [e1]
    go_enter Tryd.func19, Tryd.ntmps19
    go_wp2_with fail
    go_ret
    exact ⟨rfl, rfl⟩


set_option maxHeartbeats 4000000 in
theorem ranchor_any (g : Geo) (hG : GeoOk g) (a : Anc) (A : Option Addr) (n c : Nat) (w : World) (ha : Sl homR 3 w (Old w) A n c a.homes) (hin : a.In) (hl : Light a) :
    Calls Tryd.prog 8 #[g.v, a.v (.slice A n c)] w fun e w' => e = .returned (.bool (decide (AncOk g a))) ∧ Below w.heap.size w w' := by
  obtain ⟨l1, l2, l3⟩ := hl
  have hlen := ha.len
  have hn : n ≤ 6000 := by omega
  obtain ⟨⟨g1, g2⟩, ⟨ep1, ep2⟩, ⟨po1, po2⟩, ⟨sq1, sq2⟩, ⟨la1, la2⟩, lb⟩ := hin
  obtain ⟨gen, epoch, pos, seq, last, label, homes⟩ := a
  obtain ⟨⟨z1, z4⟩, ⟨d1, d4⟩, ⟨s0, s2⟩, ⟨sl1, sl2⟩, an1, an3⟩ := id hG
  obtain ⟨z, d, s, sl, an⟩ := g
  dsimp only at *
  obtain ⟨R, hR⟩ : ∃ R, R = decide (AncOk ⟨z, d, s, sl, an⟩ ⟨gen, epoch, pos, seq, last, label, homes⟩) := ⟨_, rfl⟩
  rw [← hR]
  unfold Geo.v Anc.v
  dsimp only
  obtain ⟨W0, hW0⟩ : ∃ W0, W0 = (w.alloc (.cells #[.int .i64 z, .int .i64 d, .int .i64 s, .int .i64 sl, .int .i64 an] 23)).alloc (.cells #[.int .i64 gen, .int .i64 epoch, .int .i64 pos, .int .i64 seq, .int .i64 last, .string label, .slice A n c] 26) := ⟨_, rfl⟩
  have hb0 : Below w.heap.size w W0 := by rw [hW0]; exact (alloc_below w _).alloc (by simp) _
  have ha0 := ha.on homR_fine hb0
  have hgb : GeoAt W0 w.heap.size ⟨z, d, s, sl, an⟩ := by rw [hW0]; exact (GeoAt.new w ⟨z, d, s, sl, an⟩ 23).on (alloc_below _ _)
  have hsv : Sev W0 (w.heap.size + 1) (.int .i64 gen) (.int .i64 epoch) (.int .i64 pos) (.int .i64 seq) (.int .i64 last) (.string label) (.slice A n c) := by rw [hW0]; exact Sev.new (by simp) (Below.refl _ _)
  have hN1 : w.heap.size + 1 < W0.heap.size := by rw [hW0]; simp
  have HSV := hide hsv
  have HGB := hide hgb
  have hpq := hgb.2
  rw [hW0] at hpq hsv
  obtain ⟨p0, p1, p2, p3, p4⟩ := hpq
  obtain ⟨q0, q1, q2, q3, q4, q5, q6⟩ := hsv
  have hno : ¬ AncOk ⟨z, d, s, sl, an⟩ ⟨gen, epoch, pos, seq, last, label, homes⟩ → R = false := fun h => by rw [hR]; exact decide_eq_false h
  have hyes : AncOk ⟨z, d, s, sl, an⟩ ⟨gen, epoch, pos, seq, last, label, homes⟩ → R = true := fun h => by rw [hR]; exact decide_eq_true h
  have HNO := hide hno
  have HYES := hide hyes
  have HLEN := hide hlen
  have HL3 := hide l3
  have hlb := fun w => rlabel_any label (by omega) w
  obtain ⟨E, hE⟩ : ∃ E, E = labE (sL label) := ⟨_, rfl⟩
  rw [← hE] at hlb
  have HLB := hide hlb
  have HE := hide hE
  have i1 := fun w => rin8_any gen 0 4294967295 w
  have i2 := fun w => rin8_any epoch 0 4294967295 w
  have i3 := fun w => rin8_any seq 1 4294967295 w
  have i4 := fun w => rin8_any last 0 4294967295 w
  have i5 := fun w => rin8_any pos 0 (sl - 1) w
  obtain ⟨b1, e1⟩ : ∃ b, b = decide (0 ≤ gen ∧ gen ≤ 4294967295) := ⟨_, rfl⟩
  obtain ⟨b2, e2⟩ : ∃ b, b = decide (0 ≤ epoch ∧ epoch ≤ 4294967295) := ⟨_, rfl⟩
  obtain ⟨b3, e3⟩ : ∃ b, b = decide (1 ≤ seq ∧ seq ≤ 4294967295) := ⟨_, rfl⟩
  obtain ⟨b4, e4⟩ : ∃ b, b = decide (0 ≤ last ∧ last ≤ 4294967295) := ⟨_, rfl⟩
  obtain ⟨b5, e5⟩ : ∃ b, b = decide (0 ≤ pos ∧ pos ≤ sl - 1) := ⟨_, rfl⟩
  rw [← e1] at i1
  rw [← e2] at i2
  rw [← e3] at i3
  rw [← e4] at i4
  rw [← e5] at i5
  have I1 := hide i1
  have I2 := hide i2
  have I3 := hide i3
  have I4 := hide i4
  have I5 := hide i5
  have E1 := hide e1
  have E2 := hide e2
  have E3 := hide e3
  have E4 := hide e4
  have E5 := hide e5
  have HG := hide hG
  clear hno hyes hR hlen l3 hlb hE i1 i2 i3 i4 i5 e1 e2 e3 e4 e5 hG hgb
  cases b1 with
  | false =>
    obtain rfl := HNO.out (fun h => by have := of_decide_eq_false E1.out.symm; exact this h.1.1)
    go_enter Tryd.func8, Tryd.ntmps8
    go_wp2_with fail
    refine (I1.out _).mono ?_
    rintro e w1 ⟨rfl, rfl⟩
    go_wp2_with fail
    rw [← hW0]
    go_ret
    exact ⟨rfl, hb0⟩
  | true =>
    cases b2 with
    | false =>
      obtain rfl := HNO.out (fun h => by have := of_decide_eq_false E2.out.symm; exact this h.1.2.1)
      go_enter Tryd.func8, Tryd.ntmps8
      go_wp2_with fail
      refine (I1.out _).mono ?_
      rintro e w1 ⟨rfl, rfl⟩
      go_wp2_with fail
      refine (I2.out _).mono ?_
      rintro e w1 ⟨rfl, rfl⟩
      go_wp2_with fail
      rw [← hW0]
      go_ret
      exact ⟨rfl, hb0⟩
    | true =>
      cases b3 with
      | false =>
        obtain rfl := HNO.out (fun h => by have := of_decide_eq_false E3.out.symm; exact this ⟨h.1.2.2.2.2.1, h.1.2.2.1.2⟩)
        go_enter Tryd.func8, Tryd.ntmps8
        go_wp2_with fail
        refine (I1.out _).mono ?_
        rintro e w1 ⟨rfl, rfl⟩
        go_wp2_with fail
        refine (I2.out _).mono ?_
        rintro e w1 ⟨rfl, rfl⟩
        go_wp2_with fail
        refine (I3.out _).mono ?_
        rintro e w1 ⟨rfl, rfl⟩
        go_wp2_with fail
        rw [← hW0]
        go_ret
        exact ⟨rfl, hb0⟩
      | true =>
        cases b4 with
        | false =>
          obtain rfl := HNO.out (fun h => by have := of_decide_eq_false E4.out.symm; exact this h.1.2.2.2.1)
          go_enter Tryd.func8, Tryd.ntmps8
          go_wp2_with fail
          refine (I1.out _).mono ?_
          rintro e w1 ⟨rfl, rfl⟩
          go_wp2_with fail
          refine (I2.out _).mono ?_
          rintro e w1 ⟨rfl, rfl⟩
          go_wp2_with fail
          refine (I3.out _).mono ?_
          rintro e w1 ⟨rfl, rfl⟩
          go_wp2_with fail
          refine (I4.out _).mono ?_
          rintro e w1 ⟨rfl, rfl⟩
          go_wp2_with fail
          rw [← hW0]
          go_ret
          exact ⟨rfl, hb0⟩
        | true =>
          obtain ⟨n3, n3'⟩ := of_decide_eq_true E3.out.symm
          obtain ⟨n4, n4'⟩ := of_decide_eq_true E4.out.symm
          by_cases c2 : last < seq - 1
          · have hz : ¬ (seq - 1 ≤ last) := by omega
            obtain rfl := HNO.out (fun h => absurd h.1.2.2.2.2.2.1 hz)
            clear hz
            go_enter Tryd.func8, Tryd.ntmps8
            go_wp2_with fail
            refine (I1.out _).mono ?_
            rintro e w1 ⟨rfl, rfl⟩
            go_wp2_with fail
            refine (I2.out _).mono ?_
            rintro e w1 ⟨rfl, rfl⟩
            go_wp2_with fail
            refine (I3.out _).mono ?_
            rintro e w1 ⟨rfl, rfl⟩
            go_wp2_with fail
            refine (I4.out _).mono ?_
            rintro e w1 ⟨rfl, rfl⟩
            go_wp2_with fail
            rw [← hW0]
            go_ret
            exact ⟨rfl, hb0⟩
          · cases b5 with
            | false =>
              obtain rfl := HNO.out (fun h => by have := of_decide_eq_false E5.out.symm; exact this h.1.2.2.2.2.2.2)
              go_enter Tryd.func8, Tryd.ntmps8
              go_wp2_with fail
              refine (I1.out _).mono ?_
              rintro e w1 ⟨rfl, rfl⟩
              go_wp2_with fail
              refine (I2.out _).mono ?_
              rintro e w1 ⟨rfl, rfl⟩
              go_wp2_with fail
              refine (I3.out _).mono ?_
              rintro e w1 ⟨rfl, rfl⟩
              go_wp2_with fail
              refine (I4.out _).mono ?_
              rintro e w1 ⟨rfl, rfl⟩
              go_wp2_with fail
              refine (I5.out _).mono ?_
              rintro e w1 ⟨rfl, rfl⟩
              go_wp2_with fail
              rw [← hW0]
              go_ret
              exact ⟨rfl, hb0⟩
            | true =>
              by_cases c3 : E = 0
              · obtain rfl := c3
                by_cases c4 : (n : Int) = z
                · have e4 : ((n : Int) != z) = false := by simpa using c4
                  have HHEAD : Hid (HeadOk ⟨z, d, s, sl, an⟩ ⟨gen, epoch, pos, seq, last, label, homes⟩) := hide ⟨of_decide_eq_true E1.out.symm, of_decide_eq_true E2.out.symm, ⟨by show 0 ≤ seq; omega, n3'⟩, ⟨n4, n4'⟩, n3, by show seq - 1 ≤ last; omega, of_decide_eq_true E5.out.symm⟩
                  have HALL : Hid ((∀ h ∈ homes, HomOk ⟨z, d, s, sl, an⟩ h) → R = true) := hide fun h => HYES.out ⟨HHEAD.out, HE.out.symm, by show (homes.length : Int) = z; rw [HLEN.out]; exact c4, h⟩
                  have HBADH : Hid (∀ h, h ∈ homes → ¬ HomOk ⟨z, d, s, sl, an⟩ h → R = false) := hide fun h hm hx => HNO.out fun hk => hx (hk.2.2.2 h hm)
                  clear c4
                  go_enter Tryd.func8, Tryd.ntmps8
                  go_wp2_with fail
                  refine (I1.out _).mono ?_
                  rintro e w1 ⟨rfl, rfl⟩
                  go_wp2_with fail
                  refine (I2.out _).mono ?_
                  rintro e w1 ⟨rfl, rfl⟩
                  go_wp2_with fail
                  refine (I3.out _).mono ?_
                  rintro e w1 ⟨rfl, rfl⟩
                  go_wp2_with fail
                  refine (I4.out _).mono ?_
                  rintro e w1 ⟨rfl, rfl⟩
                  go_wp2_with fail
                  refine (I5.out _).mono ?_
                  rintro e w1 ⟨rfl, rfl⟩
                  go_wp2_with fail
                  rw [← hW0]
                  clear hW0
                  refine (HLB.out _).mono ?_
                  rintro e w2 ⟨rfl, hb2⟩
                  obtain ⟨_, p0, p1, p2, p3, p4⟩ := HGB.out.on hb2
                  obtain ⟨q0, q1, q2, q3, q4, q5, q6⟩ := HSV.out.onB hN1 hb2
                  go_wp2_with fail
                  go_loopw [5] (fun i wr => ∃ k : Nat, k ≤ n ∧ i = .int .i64 k ∧ Hid (∀ x ∈ homes.take k, HomOk ⟨z, d, s, sl, an⟩ x) ∧ Below W0.heap.size W0 wr) (fun i _ => n - (RowKit.intOf i).toNat)
                  case atStart => exact ⟨0, Nat.zero_le _, rfl, hide (by intro x hx; simp at hx), hb2⟩
                  case round =>
                    obtain ⟨k, hk, rfl, hall, hb⟩ := hrel
                    obtain ⟨wo, rfl⟩ : ∃ wo : World, wo = wr := ⟨_, rfl⟩
                    obtain ⟨_, p0, p1, p2, p3, p4⟩ := HGB.out.on hb
                    obtain ⟨q0, q1, q2, q3, q4, q5, q6⟩ := HSV.out.onB hN1 hb
                    by_cases hlt : k < n
                    · obtain ⟨ad, h, A', m, c', rfl, hadl, hx, j1, j2, hs, dd0, dd1, dd2⟩ := at_hom (ha0.on homR_fine hb) hlt
                      have HBH : Hid (¬ HomOk ⟨z, d, s, sl, an⟩ h → R = false) := hide (HBADH.out h (List.mem_of_getElem? hx))
                      have hm6 : m ≤ 6000 := by have h1 := HL3.out h (List.mem_of_getElem? hx); have h2 := hs.len; omega
                      obtain ⟨nx1, nx2⟩ := j1
                      obtain ⟨rt1, rt2⟩ := j2
                      obtain ⟨P, nx, rt⟩ := h
                      dsimp only at *
                      obtain ⟨WH, hWH⟩ : ∃ WH, WH = wo.alloc (.cells #[.slice A' m c', .int .i64 nx, .int .i64 rt] 59) := ⟨_, rfl⟩
                      have hbh : Below wo.heap.size wo WH := by rw [hWH]; exact alloc_below _ _
                      have bh : ∀ W, Below WH.heap.size WH W → W.cell? ⟨wo.heap.size, 0, none⟩ = some (.slice A' m c') ∧ W.cell? ⟨wo.heap.size, 1, none⟩ = some (.int .i64 nx) ∧ W.cell? ⟨wo.heap.size, 2, none⟩ = some (.int .i64 rt) := fun W hW => by
                        subst hWH
                        exact ⟨box_cell hW 0 _ rfl, box_cell hW 1 _ rfl, box_cell hW 2 _ rfl⟩
                      have BH := hide bh
                      have hbH := th hb hbh
                      have hsH := hs.on intR_fine hbh
                      have hpH := (HGB.out.on hbH).2
                      rw [hWH] at hpH
                      obtain ⟨pp0, pp1, pp2, pp3, pp4⟩ := hpH
                      have i6 := fun w => rin8_any nx (d + 1) (d + 1 + s) w
                      have i7 := fun w => rin8_any rt 0 4294967295 w
                      have hok : HomOk ⟨z, d, s, sl, an⟩ ⟨P, nx, rt⟩ ↔ (m : Int) = d + 1 ∧ (d + 1 ≤ nx ∧ nx ≤ d + 1 + s) ∧ (0 ≤ rt ∧ rt ≤ 4294967295) ∧ PlOk nx P := by
                        unfold HomOk NumOk
                        dsimp only
                        rw [hs.len]
                      have HOK := hide hok
                      have HML := hide hs.len
                      clear bh hok
                      by_cases ea : (m : Int) = d + 1
                      · have ea' : ((m : Int) != d + 1) = false := by simpa using ea
                        by_cases eb : d + 1 ≤ nx ∧ nx ≤ d + 1 + s
                        · rw [decide_eq_true eb] at i6
                          by_cases ec : 0 ≤ rt ∧ rt ≤ 4294967295
                          · rw [decide_eq_true ec] at i7
                            have I6 := hide i6
                            have I7 := hide i7
                            have HPB : Hid (¬ PlOk nx P → R = false) := hide fun h => HBH.out fun h2 => h (HOK.out.1 h2).2.2.2
                            have HPG : Hid (PlOk nx P → ∀ x ∈ homes.take (k + 1), HomOk ⟨z, d, s, sl, an⟩ x) := hide fun hp => by
                              obtain ⟨h1, e1⟩ := List.getElem?_eq_some_iff.1 hx
                              rw [List.take_succ_eq_append_getElem h1, e1]
                              intro y hy
                              rcases List.mem_append.1 hy with hy | hy
                              · exact hall.out y hy
                              · obtain rfl := List.mem_singleton.1 hy
                                exact HOK.out.2 ⟨ea, eb, ec, hp⟩
                            obtain ⟨eb1, eb2⟩ := eb
                            obtain ⟨N1, hN1⟩ : ∃ N1 : Int, N1 = nx - 1 := ⟨_, rfl⟩
                            have hwr : IntKind.i64.wrap (nx - 1) = N1 := by rw [hN1]; exact IntWalk.i64_in _ (by omega)
                            have HN1 := hide hN1
                            clear ea ec i6 i7 hx hN1
                            go_wp2_with fail
                            refine (I6.out _).mono ?_
                            rintro e w1 ⟨rfl, rfl⟩
                            go_wp2_with fail
                            refine (I7.out _).mono ?_
                            rintro e w1 ⟨rfl, rfl⟩
                            go_wp2_with fail
                            rw [← hWH]
                            clear hWH
                            go_loopw [7] (fun i wr => ∃ j : Nat, j ≤ m ∧ i = .int .i64 j ∧ Hid (∀ (q : Nat) (p : Int), q < j → P[q]? = some p → (0 ≤ p ∧ p ≤ nx - 1) ∧ p ∉ P.take q) ∧ Below WH.heap.size WH wr) (fun i _ => m - (RowKit.intOf i).toNat)
                            case atStart => exact ⟨0, Nat.zero_le _, rfl, hide (fun q p hq => absurd hq (by omega)), Below.refl _ _⟩
                            case round =>
                              obtain ⟨j, hj, rfl, hpl, hbj⟩ := hrel
                              obtain ⟨wi, rfl⟩ : ∃ wi : World, wi = wr := ⟨_, rfl⟩
                              obtain ⟨u0, u1, u2⟩ := BH.out _ hbj
                              by_cases hltj : j < m
                              · have hsj := hsH.on intR_fine hbj
                                obtain ⟨pd, p, rfl, hpdl, hp, hpi, hpc⟩ := at_int hsj hltj
                                have i8 := fun r => (rin8_any p 0 N1 (wi.drewN r)).mono fun e w' (h : e = .returned (.bool (decide (0 ≤ p ∧ p ≤ N1))) ∧ wi.drewN r = w') => (⟨h.1, h.2.symm⟩ : e = .returned (.bool (decide (0 ≤ p ∧ p ≤ N1))) ∧ w' = wi.drewN r)
                                rw [HN1.out] at i8
                                have ij0 : (0 : Int) ≤ (j : Int) := by omega
                                have ij1 : (j : Int) < (m : Int) := by omega
                                by_cases ef : 0 ≤ p ∧ p ≤ nx - 1
                                · rw [decide_eq_true ef] at i8
                                  rw [← HN1.out] at i8
                                  have I8 := hide i8
                                  have HEF := hide ef
                                  have HP := hide hp
                                  clear i8 ef hp hpi
                                  go_wp2_with fail
                                  go_quiet ((go_at_call 19; exact Calls.quiet_of_same (I8.out _)))
                                  go_wp2_with fail
                                  go_loopw [8] (fun i wr => ∃ r : Nat, r ≤ j ∧ i = .int .i64 r ∧ Hid (∀ q, q < r → P[q]? ≠ some p) ∧ Below wi.heap.size wi wr) (fun i _ => j - (RowKit.intOf i).toNat)
                                  case atStart => exact ⟨0, Nat.zero_le _, rfl, hide (fun q hq => absurd hq (by omega)), drewN_below _ _⟩
                                  case round =>
                                    obtain ⟨r, hr, rfl, hne, hbr⟩ := hrel
                                    have hbjr := hbj.trans (hbr.mono hbj.size)
                                    obtain ⟨v0, v1, v2⟩ := BH.out _ hbjr
                                    by_cases hltr : r < j
                                    · obtain ⟨pd', p2, hpd', _, hp2, hpi2, hpc2⟩ := at_int (hsH.on intR_fine hbjr) (show r < m by omega)
                                      injection hpd' with hpd'
                                      subst hpd'
                                      have hpcr : wr.cell? (pd.add j) = some (.int .i64 p) := (hbr.cell (by rw [block_of_add]; exact hpdl)).trans hpc
                                      have ir0 : (0 : Int) ≤ (r : Int) := by omega
                                      have ir1 : (r : Int) < (m : Int) := by omega
                                      have ir2 : r < m := by omega
                                      by_cases eq : p2 = p
                                      · have ee : (p2 == p) = true := by simpa using eq
                                        obtain rfl := HPB.out (fun h => by
                                          have h1 := (h j p HP.out).2
                                          refine h1 ?_
                                          have h2 : (P.take j)[r]? = some p := by rw [List.getElem?_take, if_pos hltr, hp2, eq]
                                          exact List.mem_of_getElem? h2)
                                        clear eq hp2 hpi2
                                        go_wp2_with fail
                                        go_quiet (fail)
                                        go_wp2_with fail
                                        go_ret
                                        exact ⟨rfl, th hb0 (th hbH (hbjr.trans ((drewN_below _ _).mono hbjr.size)))⟩
                                      · have ee : (p2 == p) = false := by simpa using eq
                                        have HNE : Hid (∀ q, q < r + 1 → P[q]? ≠ some p) := hide fun q hq h => by
                                          rcases Nat.lt_or_ge q r with h1 | h1
                                          · exact hne.out q h1 h
                                          · obtain rfl : q = r := by omega
                                            rw [hp2] at h
                                            injection h with h
                                            exact eq h
                                        clear eq hp2 hpi2
                                        go_wp2_with fail
                                        go_quiet (fail)
                                        go_wp2_with fail
                                        go_roundw
                                        case rel => exact ⟨r + 1, by omega, by go_num, HNE, hbr.trans ((drewN_below _ _).mono hbr.size)⟩
                                        case measure => (first | omega | (simp [RowKit.intOf]; omega) | (unfold RowKit.intOf; simp; omega) | go_num)
                                    · obtain rfl : r = j := by omega
                                      have hnext : ∀ (q : Nat) (p' : Int), q < r + 1 → P[q]? = some p' → (0 ≤ p' ∧ p' ≤ nx - 1) ∧ p' ∉ P.take q := fun q p' hq hp' => by
                                        rcases Nat.lt_or_ge q r with h1 | h1
                                        · exact hpl.out q p' h1 hp'
                                        · obtain rfl : q = r := by omega
                                          rw [HP.out] at hp'
                                          injection hp' with hp'
                                          subst hp'
                                          refine ⟨HEF.out, fun hm => ?_⟩
                                          obtain ⟨y, hy, e⟩ := List.mem_iff_getElem.1 hm
                                          have hy2 : y < q := by rw [List.length_take] at hy; omega
                                          have h3 : (P.take q)[y]? = some p := by rw [List.getElem?_eq_getElem hy, e]
                                          rw [List.getElem?_take, if_pos hy2] at h3
                                          exact hne.out y hy2 h3
                                      have HNEXT := hide hnext
                                      clear hnext
                                      go_wp2_with fail
                                      go_roundw
                                      case rel => exact ⟨r + 1, by omega, by go_num, HNEXT, hbjr⟩
                                      case measure => (first | omega | (simp [RowKit.intOf]; omega) | (unfold RowKit.intOf; simp; omega) | go_num)
                                · rw [decide_eq_false ef] at i8
                                  rw [← HN1.out] at i8
                                  obtain rfl := HPB.out (fun h => ef (h j p hp).1)
                                  have I8 := hide i8
                                  clear i8 ef hp hpi
                                  go_wp2_with fail
                                  go_quiet ((go_at_call 19; exact Calls.quiet_of_same (I8.out _)))
                                  go_wp2_with fail
                                  go_ret
                                  exact ⟨rfl, th hb0 (th hbH (hbj.trans ((drewN_below _ _).mono hbj.size)))⟩
                              · obtain rfl : j = m := by omega
                                have hfin : PlOk nx P := fun q p hp => hpl.out q p (by rw [← HML.out]; exact (List.getElem?_eq_some_iff.1 hp).1) hp
                                have HNX := hide (HPG.out hfin)
                                clear hfin
                                go_wp2_with fail
                                go_roundw
                                case rel => exact ⟨k + 1, by omega, by go_num, HNX, th hbH hbj⟩
                                case measure => (first | omega | (simp [RowKit.intOf]; omega) | (unfold RowKit.intOf; simp; omega) | go_num)
                          · rw [decide_eq_false ec] at i7
                            have I6 := hide i6
                            have I7 := hide i7
                            obtain rfl := HBH.out (fun h => ec (HOK.out.1 h).2.2.1)
                            clear i6 i7 ea eb ec hx
                            go_wp2_with fail
                            refine (I6.out _).mono ?_
                            rintro e w1 ⟨rfl, rfl⟩
                            go_wp2_with fail
                            refine (I7.out _).mono ?_
                            rintro e w1 ⟨rfl, rfl⟩
                            go_wp2_with fail
                            rw [← hWH]
                            go_ret
                            exact ⟨rfl, th hb0 hbH⟩
                        · rw [decide_eq_false eb] at i6
                          have I6 := hide i6
                          obtain rfl := HBH.out (fun h => eb (HOK.out.1 h).2.1)
                          clear i6 i7 ea eb hx
                          go_wp2_with fail
                          refine (I6.out _).mono ?_
                          rintro e w1 ⟨rfl, rfl⟩
                          go_wp2_with fail
                          rw [← hWH]
                          go_ret
                          exact ⟨rfl, th hb0 hbH⟩
                      · have ea' : ((m : Int) != d + 1) = true := by simpa using ea
                        obtain rfl := HBH.out (fun h => ea (HOK.out.1 h).1)
                        clear i6 i7 ea hx
                        go_wp2_with fail
                        rw [← hWH]
                        go_ret
                        exact ⟨rfl, th hb0 hbH⟩
                    · obtain rfl : k = n := by omega
                      have hfin : ∀ h ∈ homes, HomOk ⟨z, d, s, sl, an⟩ h := by
                        have h := hall.out
                        rwa [List.take_of_length_le (by rw [HLEN.out]; exact Nat.le_refl _)] at h
                      obtain rfl := HALL.out hfin
                      clear hfin
                      go_wp2_with fail
                      go_ret
                      exact ⟨rfl, th hb0 hb⟩
                · have e4 : ((n : Int) != z) = true := by simpa using c4
                  have hz : ¬ (homes.length : Int) = z := by rw [HLEN.out]; exact c4
                  obtain rfl := HNO.out (fun h => hz h.2.2.1)
                  clear hz c4
                  go_enter Tryd.func8, Tryd.ntmps8
                  go_wp2_with fail
                  refine (I1.out _).mono ?_
                  rintro e w1 ⟨rfl, rfl⟩
                  go_wp2_with fail
                  refine (I2.out _).mono ?_
                  rintro e w1 ⟨rfl, rfl⟩
                  go_wp2_with fail
                  refine (I3.out _).mono ?_
                  rintro e w1 ⟨rfl, rfl⟩
                  go_wp2_with fail
                  refine (I4.out _).mono ?_
                  rintro e w1 ⟨rfl, rfl⟩
                  go_wp2_with fail
                  refine (I5.out _).mono ?_
                  rintro e w1 ⟨rfl, rfl⟩
                  go_wp2_with fail
                  rw [← hW0]
                  clear hW0
                  refine (HLB.out _).mono ?_
                  rintro e w2 ⟨rfl, hb2⟩
                  obtain ⟨_, p0, p1, p2, p3, p4⟩ := HGB.out.on hb2
                  obtain ⟨q0, q1, q2, q3, q4, q5, q6⟩ := HSV.out.onB hN1 hb2
                  go_wp2_with fail
                  go_ret
                  exact ⟨rfl, th hb0 hb2⟩
              · have e3 : (E != 0) = true := by simpa using c3
                have hz : ¬ labE (sL label) = 0 := by rw [← HE.out]; exact c3
                obtain rfl := HNO.out (fun h => hz h.2.1)
                clear hz c3
                go_enter Tryd.func8, Tryd.ntmps8
                go_wp2_with fail
                refine (I1.out _).mono ?_
                rintro e w1 ⟨rfl, rfl⟩
                go_wp2_with fail
                refine (I2.out _).mono ?_
                rintro e w1 ⟨rfl, rfl⟩
                go_wp2_with fail
                refine (I3.out _).mono ?_
                rintro e w1 ⟨rfl, rfl⟩
                go_wp2_with fail
                refine (I4.out _).mono ?_
                rintro e w1 ⟨rfl, rfl⟩
                go_wp2_with fail
                refine (I5.out _).mono ?_
                rintro e w1 ⟨rfl, rfl⟩
                go_wp2_with fail
                rw [← hW0]
                clear hW0
                refine (HLB.out _).mono ?_
                rintro e w2 ⟨rfl, hb2⟩
                obtain ⟨_, p0, p1, p2, p3, p4⟩ := HGB.out.on hb2
                obtain ⟨q0, q1, q2, q3, q4, q5, q6⟩ := HSV.out.onB hN1 hb2
                go_wp2_with fail
                go_ret
                exact ⟨rfl, th hb0 hb2⟩

end Go.Proofs.YtdcoholjnlndgaaDoor
