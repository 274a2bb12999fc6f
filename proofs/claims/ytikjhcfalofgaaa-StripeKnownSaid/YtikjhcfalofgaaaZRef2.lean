/-
  Contracts: casemateref08.Table, Known; casematelaw13.Heavy.
-/
import Derived.Test.YtikjhcfalofgaaaZRef
import Derived.Test.YtikjhcfalofgaaaRefTwo
import Derived.Test.YtikjhcfalofgaaaMadeZ
import Derived.Test.YtikjhcfalofgaaaKnown
namespace Go.Proofs.Ytikjhcfalofgaaa
open Go.RowKit
set_option linter.unusedVariables false
set_option maxRecDepth 100000

set_option maxHeartbeats 1000000 in
theorem rtab_any (A : Option Addr) (n c : Nat) (L : List Ent) (g : Geo) (hg : GeoOk g) (w : World) (ha : Sl entR 3 w (Old w) A n c L) (hn : n ≤ 65536) :
    Calls Try.prog 16 #[g.v, .agg #[.slice A n c]] w fun e w' => e = .returned (.bool (decide (TabOk g.data L))) ∧ Below w.heap.size w w' := by
  have hlen := ha.len
  have hd := hg.2.1
  obtain ⟨z, d, s, l, a⟩ := g
  dsimp only at hd
  have hb0 : Below w.heap.size w ((w.alloc (.cells #[.int .i64 z, .int .i64 d, .int .i64 s, .int .i64 l, .int .i64 a] 23)).alloc (.cells #[.slice A n c] 26)) := (alloc_below w _).alloc (by simp) _
  have ha0 := ha.on entR_fine hb0
  obtain ⟨D, hD⟩ : ∃ D, D = decide (TabOk d L) := ⟨_, rfl⟩
  unfold Geo.v
  dsimp only
  rw [← hD]
  clear hg
  obtain ⟨q, hq⟩ : ∃ q : Nat, d = (q : Int) := ⟨d.toNat, by omega⟩
  subst hq
  by_cases hnd : n = q + 1
  · have e0 : ((n : Int) != (q : Int) + 1) = false := by simp; omega
    obtain ⟨ad, x, rfl, hadl, hx, _, _, _, _, c2⟩ := at_ent ha0 (show q < n by omega)
    have hql : (q : Int) < (n : Int) := by omega
    cases hxl : x.lost with
    | true =>
      rw [hxl] at c2
      obtain rfl := hD.trans (decide_eq_false fun h => by have := h.2.2 x (by rw [show ((q : Int)).toNat = q from rfl]; exact hx); rw [hxl] at this; cases this)
      clear hD hx hxl hlen hnd
      go_enter Try.func16, Try.ntmps16
      go_wp2_with fail
      go_ret
      exact ⟨rfl, hb0⟩
    | false =>
      rw [hxl] at c2
      have hT : (∀ x ∈ L, EntOk x) → D = true := fun h => hD.trans (decide_eq_true ⟨by rw [hlen]; omega, h, fun e he => by rw [show ((q : Int)).toNat = q from rfl, hx] at he; injection he with he; rw [← he, hxl]⟩)
      have hF : ∀ x ∈ L, ¬ EntOk x → D = false := fun x hx h => hD.trans (decide_eq_false fun hh => h (hh.2.1 x hx))
      have HT := hide hT
      have HF := hide hF
      have HLEN := hide hlen
      clear hT hF hD hlen hx hxl hnd
      go_enter Try.func16, Try.ntmps16
      go_wp2_with fail
      go_loop [5] (fun i => ∃ k : Nat, k ≤ n ∧ i = .int .i64 k ∧ Hid (∀ x ∈ L.take k, EntOk x)) (fun i => n - (intOf i).toNat)
      case atStart => exact ⟨0, Nat.zero_le _, rfl, by intro x hx; simp at hx⟩
      case round =>
        obtain ⟨k, hk, rfl, hall⟩ := hrel
        by_cases hlt : k < n
        · obtain ⟨ad', y, had, hadl', hy, _, _, c0', c1', c2'⟩ := at_ent ha0 hlt
          injection had with had
          subst had
          have i1 := fun w => geo_i8 y.stamp 0 4294967295 w
          have i2 := fun w => geo_i8 y.sum 0 4294967295 w
          by_cases h1 : 0 ≤ y.stamp ∧ y.stamp ≤ 4294967295
          · rw [decide_eq_true h1] at i1
            by_cases h2 : 0 ≤ y.sum ∧ y.sum ≤ 4294967295
            · rw [decide_eq_true h2] at i2
              have hnext : ∀ z ∈ L.take (k + 1), EntOk z := by
                obtain ⟨g1, e1⟩ := List.getElem?_eq_some_iff.1 hy
                rw [List.take_succ_eq_append_getElem g1, e1]
                intro z hz
                rcases List.mem_append.1 hz with hz | hz
                · exact hall.out z hz
                · simp at hz; subst hz; exact ⟨h1, h2⟩
              have HN := hide hnext
              have I1 := hide i1
              have I2 := hide i2
              clear hnext hy i1 i2 h1 h2
              go_wp2_with fail
              refine (I1.out _).mono ?_
              rintro e w1 ⟨rfl, rfl⟩
              go_wp2_with fail
              refine (I2.out _).mono ?_
              rintro e w1 ⟨rfl, rfl⟩
              go_wp2_with fail
              go_round
              case rel => exact ⟨k + 1, by omega, by go_num, HN⟩
              case measure => simp [intOf]; omega
            · rw [decide_eq_false h2] at i2
              obtain rfl := HF.out y (List.mem_of_getElem? hy) (fun h => h2 h.2)
              have I1 := hide i1
              have I2 := hide i2
              clear hy i1 i2 h1 h2
              go_wp2_with fail
              refine (I1.out _).mono ?_
              rintro e w1 ⟨rfl, rfl⟩
              go_wp2_with fail
              refine (I2.out _).mono ?_
              rintro e w1 ⟨rfl, rfl⟩
              go_wp2_with fail
              go_ret
              exact ⟨rfl, hb0⟩
          · rw [decide_eq_false h1] at i1
            obtain rfl := HF.out y (List.mem_of_getElem? hy) (fun h => h1 h.1)
            have I1 := hide i1
            clear hy i1 i2 h1
            go_wp2_with fail
            refine (I1.out _).mono ?_
            rintro e w1 ⟨rfl, rfl⟩
            go_wp2_with fail
            go_ret
            exact ⟨rfl, hb0⟩
        · obtain rfl : k = n := by omega
          have hh := hall.out
          rw [List.take_of_length_le (by rw [HLEN.out]; omega)] at hh
          obtain rfl := HT.out hh
          clear hh
          go_wp2_with fail
          go_ret
          exact ⟨rfl, hb0⟩
  · have e0 : ((n : Int) != (q : Int) + 1) = true := by simp; omega
    obtain rfl := hD.trans (decide_eq_false fun hh => hnd (by have := hh.1; rw [hlen] at this; omega))
    clear hD hlen hnd
    go_enter Try.func16, Try.ntmps16
    go_wp2_with fail
    go_ret
    exact ⟨rfl, hb0⟩

/-- More than is played. -/
def HeavyQ (b : Bool) (L : List Ent) (H : List (List UInt8)) : Prop := b = false → L.length ≤ 20 ∧ H.length ≤ 20 ∧ ∀ x ∈ H, x.length ≤ 100
def HeavyOut (e : Ending) (L : List Ent) (H : List (List UInt8)) : Prop := ∃ b, e = .returned (.bool b) ∧ HeavyQ b L H
def HeavyPost (w : World) (L : List Ent) (H : List (List UInt8)) (e : Ending) (w' : World) : Prop := Below w.heap.size w w' ∧ HeavyOut e L H
set_option maxHeartbeats 1000000 in
theorem heavy13 (A B : Option Addr) (n c m cb : Nat) (L : List Ent) (H : List (List UInt8)) (w : World) (ha : Sl entR 3 w (Old w) A n c L) (hh : Rs w B m cb H) :
    Calls Try.prog 8 #[.agg #[.slice A n c], .slice B m cb] w (HeavyPost w L H) := by
  unfold HeavyPost
  have hla := ha.len
  have hlh := hh.len
  have hb0 := alloc_below w (.cells #[.slice A n c] 26)
  have hh0 := hh.on bytesR_fine hb0
  have hQ : HeavyQ true L H := fun h => by cases h
  by_cases hn : 20 < n
  · clear hla hlh
    go_enter Try.func8, Try.ntmps8
    go_wp2_with fail
    go_ret
    refine ⟨hb0, ?_⟩
    unfold HeavyOut
    exact ⟨_, rfl, hQ⟩
  by_cases hm : 20 < m
  · clear hla hlh
    go_enter Try.func8, Try.ntmps8
    go_wp2_with fail
    go_ret
    refine ⟨hb0, ?_⟩
    unfold HeavyOut
    exact ⟨_, rfl, hQ⟩
  have HA := hide hla
  have HH := hide hlh
  have HQ := hide hQ
  clear hla hlh hQ
  go_enter Try.func8, Try.ntmps8
  go_wp2_with fail
  go_loop [5] (fun i => ∃ k : Nat, k ≤ m ∧ i = .int .i64 k ∧ Hid (∀ x ∈ H.take k, x.length ≤ 100)) (fun i => m - (intOf i).toNat)
  case atStart => exact ⟨0, Nat.zero_le _, rfl, by intro x hx; simp at hx⟩
  case round =>
    obtain ⟨k, hk, rfl, hall⟩ := hrel
    by_cases hlt : k < m
    · obtain ⟨ad, x, A1, n1, c1, rfl, hadl, hx, hs, hcell⟩ := at_row hh0 hlt
      have hxl := hs.len
      by_cases h1 : 100 < n1
      · clear hx hxl
        go_wp2_with fail
        go_ret
        refine ⟨hb0, ?_⟩
        unfold HeavyOut
        exact ⟨_, rfl, HQ.out⟩
      · have hnext : ∀ y ∈ H.take (k + 1), y.length ≤ 100 := by
          obtain ⟨h1, e1⟩ := List.getElem?_eq_some_iff.1 hx
          rw [List.take_succ_eq_append_getElem h1, e1]
          intro y hy
          rcases List.mem_append.1 hy with hy | hy
          · exact hall.out y hy
          · simp at hy; subst hy; omega
        have HN := hide hnext
        clear hnext hx hxl
        go_wp2_with fail
        go_round
        case rel => exact ⟨k + 1, by omega, by go_num, HN⟩
        case measure => simp [intOf]; omega
    · obtain rfl : k = m := by omega
      have h := hall.out
      rw [List.take_of_length_le (by rw [HH.out]; omega)] at h
      have hq : HeavyQ false L H := fun _ => ⟨by rw [HA.out]; omega, by rw [HH.out]; omega, h⟩
      have HQ2 := hide hq
      clear h hq
      go_wp2_with fail
      go_ret
      refine ⟨hb0, ?_⟩
      unfold HeavyOut
      exact ⟨_, rfl, HQ2.out⟩

end Go.Proofs.Ytikjhcfalofgaaa
