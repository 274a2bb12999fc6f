/-
  The walk of the law LabelRunes.
-/
import Derived.Test.YtnjbnhljnmemdaaDoorLawL4
namespace Go.Proofs.YtnjbnhljnmemdaaDoor
open Go.RowKit Go.Lib
set_option linter.unusedVariables false
set_option maxRecDepth 100000

def ltr : Nat → List UInt8
  | 0 => [97]
  | 1 => [195, 169]
  | 2 => [195, 159]
  | 3 => [230, 176, 180]
  | 4 => [240, 159, 152, 128]
  | 5 => [32]
  | _ => [126]
def RunesOk (l : List UInt8) (j : Nat) : Prop := (decs l).length = j ∧ ∀ x ∈ decs l, Good x
theorem ltr_decs : ∀ k < 7, ∃ x, decs (ltr k) = [x] ∧ Good x ∧ (ltr k).length ≤ 4 := by
  intro k hk
  have h0 : decs (ltr 0) = [(97, 1)] := by rw [← decsF_eq 1 _ (by decide)]; decide +kernel
  have h1 : decs (ltr 1) = [(233, 2)] := by rw [← decsF_eq 2 _ (by decide)]; decide +kernel
  have h2 : decs (ltr 2) = [(223, 2)] := by rw [← decsF_eq 2 _ (by decide)]; decide +kernel
  have h3 : decs (ltr 3) = [(27700, 3)] := by rw [← decsF_eq 3 _ (by decide)]; decide +kernel
  have h4 : decs (ltr 4) = [(128512, 4)] := by rw [← decsF_eq 4 _ (by decide)]; decide +kernel
  have h5 : decs (ltr 5) = [(32, 1)] := by rw [← decsF_eq 1 _ (by decide)]; decide +kernel
  have h6 : decs (ltr 6) = [(126, 1)] := by rw [← decsF_eq 1 _ (by decide)]; decide +kernel
  have g : ∀ a b : Nat, a ≠ 65533 → 32 ≤ a → a ≠ 127 → Good (a, b) := fun a b h1 h2 h3 => ⟨fun h => h1 h.1, h2, h3⟩
  rcases k with _ | _ | _ | _ | _ | _ | _ | k
  · exact ⟨_, h0, g _ _ (by omega) (by omega) (by omega), by decide⟩
  · exact ⟨_, h1, g _ _ (by omega) (by omega) (by omega), by decide⟩
  · exact ⟨_, h2, g _ _ (by omega) (by omega) (by omega), by decide⟩
  · exact ⟨_, h3, g _ _ (by omega) (by omega) (by omega), by decide⟩
  · exact ⟨_, h4, g _ _ (by omega) (by omega) (by omega), by decide⟩
  · exact ⟨_, h5, g _ _ (by omega) (by omega) (by omega), by decide⟩
  · exact ⟨_, h6, g _ _ (by omega) (by omega) (by omega), by decide⟩
  · omega
theorem ok_nil : RunesOk [] 0 := ⟨by rw [decs_nil]; rfl, by rw [decs_nil]; intro x h; cases h⟩
theorem ok_decs {l : List UInt8} {j : Nat} (h : RunesOk l j) (b : List UInt8) : decs (l ++ b) = decs l ++ decs b := decs_append l (fun x hx => (h.2 x hx).1) b
theorem ok_step {l : List UInt8} {j k : Nat} (h : RunesOk l j) (hk : k < 7) : RunesOk (l ++ ltr k) (j + 1) := by
  obtain ⟨x, hx, hg, _⟩ := ltr_decs k hk
  refine ⟨by rw [ok_decs h, hx, List.length_append, h.1]; rfl, ?_⟩
  rw [ok_decs h, hx]
  intro y hy
  rcases List.mem_append.1 hy with hy | hy
  · exact h.2 y hy
  · obtain rfl := List.mem_singleton.1 hy
    exact hg
theorem ok_lab {l : List UInt8} {j : Nat} (h : RunesOk l j) : labE l = if 6 < j then 2 else 0 := by
  unfold labE
  rw [if_pos h.2, h.1]
theorem ok_bad {l : List UInt8} {j : Nat} (h : RunesOk l j) {b : List UInt8} {x : Nat × Nat} (hb : decs b = [x]) (hx : ¬ Good x) : labE (l ++ b) = 3 := by
  unfold labE
  rw [if_neg]
  intro h2
  exact hx (h2 x (by rw [ok_decs h, hb]; simp))
theorem bad_127 : decs [127] = [(127, 1)] := by rw [← decsF_eq 1 _ (by decide)]; decide +kernel
theorem bad_255 : decs [255] = [(65533, 1)] := by rw [← decsF_eq 1 _ (by decide)]; decide +kernel

set_option maxHeartbeats 1000000 in
theorem law_labelRunes {w : World} (hT : Tabs w) {A : Option Addr} {n c : Nat} {L : List Int} (ha : Is w A n c L) :
    Calls Tryd.prog 6 #[.slice A n c] w fun e w' => e = .returned (.bool true) ∧ Below w.heap.size w w' := by
  by_cases h12 : n ≤ 12
  · have hi0 : ¬ (12 : Int) < (n : Int) := by omega
    obtain ⟨w0, hw0⟩ : ∃ w0, w0 = w.alloc (.cells #[.string ⟨#[97]⟩, .string ⟨#[195, 169]⟩, .string ⟨#[195, 159]⟩, .string ⟨#[230, 176, 180]⟩, .string ⟨#[240, 159, 152, 128]⟩, .string ⟨#[32]⟩, .string ⟨#[126]⟩] 9) := ⟨_, rfl⟩
    have hb0 : Below w.heap.size w w0 := by rw [hw0]; exact alloc_below _ _
    have hT0 := hT.below hb0
    have ha0 := ha.on intR_fine hb0
    have hcell : ∀ k < 7, w0.cell? ⟨w.heap.size, k, none⟩ = some (.string (mkS (ltr k))) := by
      intro k hk
      rw [hw0]
      refine bx_cellL (Below.refl _ _) k _ ?_
      rcases k with _ | _ | _ | _ | _ | _ | _ | k
      all_goals first | rfl | omega
    have HCELL := hide hcell
    have HA := hide ha0
    clear hcell ha0
    go_enter Tryd.func6, Tryd.ntmps6
    go_wp2_with fail
    rw [← hw0]
    clear hw0
    go_loop [4, 5] (fun v i => ∃ (k : Nat) (t : ByteArray), k ≤ n ∧ i = .int .i64 k ∧ v = .string t ∧ t.size ≤ 4 * k ∧ Hid (RunesOk (sL t) k)) (fun _ i => n - (RowKit.intOf i).toNat)
    case atStart => exact ⟨0, ⟨#[]⟩, Nat.zero_le _, rfl, rfl, Nat.zero_le _, hide ok_nil⟩
    case round =>
      obtain ⟨k, t, hk, rfl, rfl, ht, hok⟩ := hrel
      by_cases hlt : k < n
      · obtain ⟨ad, x, rfl, hadl, hx, hxi, hxc⟩ := at_int HA.out hlt
        obtain ⟨q, hq, hq1, hq2⟩ := um_of x 7 (by omega) (by omega)
        have hq1 : IntKind.u64.wrap x % 7 = (q : Int) := hq1
        have hq2 : (IntKind.u64.wrap x).tmod 7 = (q : Int) := hq2
        have hq3 : ((IntKind.u64.wrap x).tmod 7).toNat = q := by rw [hq2]; rfl
        obtain ⟨u, hu⟩ : ∃ u, u = mkS (ltr q) := ⟨_, rfl⟩
        have hcq := HCELL.out q hq
        rw [← hu] at hcq
        obtain ⟨_, _, _, hlen⟩ := ltr_decs q hq
        have hus : u.size ≤ 4 := by rw [hu, ← sL_len, sL_mk]; exact hlen
        have hstep := hide (ok_step hok.out hq)
        have HU := hide hu
        clear hlen hu hx
        go_wp2_with fail
        go_round
        case rel => exact ⟨k + 1, t ++ u, by omega, by go_num, rfl, by rw [ByteArray.size_append]; omega, hide (by rw [sL_append, HU.out, sL_mk]; exact hstep.out)⟩
        case measure => (first | omega | (simp [RowKit.intOf]; omega) | (unfold RowKit.intOf; simp; omega) | go_num)
      · obtain rfl : k = n := by omega
        have hck := fun w hT => lcheck_any t (by omega) w hT
        rw [ok_lab hok.out] at hck
        have hru := fun w => runes_any t (by omega) w
        rw [hok.out.1] at hru
        have hc1 := fun w hT => lcheck_any (t ++ ⟨#[127]⟩) (by rw [ByteArray.size_append]; show t.size + 1 ≤ _; omega) w hT
        rw [sL_append, ok_bad hok.out bad_127 (fun h => h.2.2 rfl)] at hc1
        have hc2 := fun w hT => lcheck_any (t ++ ⟨#[255]⟩) (by rw [ByteArray.size_append]; show t.size + 1 ≤ _; omega) w hT
        rw [sL_append, ok_bad hok.out bad_255 (fun h => h.1 ⟨rfl, rfl⟩)] at hc2
        have HCK := hide hck
        have HRU := hide hru
        have HC1 := hide hc1
        have HC2 := hide hc2
        clear hck hru hc1 hc2
        by_cases h6 : 6 < k
        · have hi6 : (6 : Int) < (k : Int) := by omega
          have hck := HCK.out
          rw [if_pos h6] at hck
          have HCK := hide hck
          clear hck h6
          go_wp2_with fail
          refine (HRU.out _).mono ?_
          rintro e w1 ⟨rfl, hb1⟩
          go_wp2_with fail
          refine (HCK.out _ (hT0.below hb1)).mono ?_
          rintro e w2 ⟨rfl, hb2⟩
          go_wp2_with fail
          refine (HC1.out _ (hT0.below (th hb1 hb2))).mono ?_
          rintro e w3 ⟨rfl, hb3⟩
          go_wp2_with fail
          refine (HC2.out _ (hT0.below (th hb1 (th hb2 hb3)))).mono ?_
          rintro e w4 ⟨rfl, hb4⟩
          have hbb := th hb1 (th hb2 (th hb3 hb4))
          go_wp2_with fail
          refine (wakes01 _ (hT0.below hbb)).mono ?_
          rintro e w5 ⟨rfl, hb5⟩
          go_wp2_with fail
          go_ret
          exact ⟨rfl, th hb0 (th hbb hb5)⟩
        · have hi6 : ¬ (6 : Int) < (k : Int) := by omega
          have hck := HCK.out
          rw [if_neg h6] at hck
          have HCK := hide hck
          clear hck h6
          go_wp2_with fail
          refine (HRU.out _).mono ?_
          rintro e w1 ⟨rfl, hb1⟩
          go_wp2_with fail
          refine (HCK.out _ (hT0.below hb1)).mono ?_
          rintro e w2 ⟨rfl, hb2⟩
          go_wp2_with fail
          refine (HC1.out _ (hT0.below (th hb1 hb2))).mono ?_
          rintro e w3 ⟨rfl, hb3⟩
          go_wp2_with fail
          refine (HC2.out _ (hT0.below (th hb1 (th hb2 hb3)))).mono ?_
          rintro e w4 ⟨rfl, hb4⟩
          have hbb := th hb1 (th hb2 (th hb3 hb4))
          go_wp2_with fail
          refine (wakes01 _ (hT0.below hbb)).mono ?_
          rintro e w5 ⟨rfl, hb5⟩
          go_wp2_with fail
          go_ret
          exact ⟨rfl, th hb0 (th hbb hb5)⟩
  · have hi0 : (12 : Int) < (n : Int) := by omega
    go_enter Tryd.func6, Tryd.ntmps6
    go_wp2_with fail
    go_ret
    exact ⟨rfl, Below.refl _ _⟩

end Go.Proofs.YtnjbnhljnmemdaaDoor
