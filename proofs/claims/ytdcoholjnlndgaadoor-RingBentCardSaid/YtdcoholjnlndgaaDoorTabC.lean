/-
  Contracts: slices.IndexFunc and ContainsFunc over entries; table.Check.
-/
import Derived.Test.YtdcoholjnlndgaaDoorGeom
namespace Go.Proofs.YtdcoholjnlndgaaDoor
open Go.RowKit
set_option linter.unusedVariables false
set_option maxRecDepth 100000

/-- An entry's three cells. -/
theorem at_ent {w : World} {S : Nat → Prop} {A : Option Addr} {n c : Nat} {L : List Ent} (h : Sl entR 3 w S A n c L) {k : Nat} (hk : k < n) : ∃ ad e, A = some ad ∧ S ad.block ∧ L[k]? = some e ∧ InI e.stamp ∧ InI e.sum ∧
    w.cell? (ad.add (k * 3)) = some (.int .i64 e.stamp) ∧ w.cell? ⟨(ad.add (k * 3)).block, (ad.add (k * 3)).off + 1, none⟩ = some (.int .i64 e.sum) ∧ w.cell? ⟨(ad.add (k * 3)).block, (ad.add (k * 3)).off + 2, none⟩ = some (.bool e.lost) := by
  obtain ⟨ad, e, cs, rfl, hS, he, ⟨rfl, h1, h2⟩, hat⟩ := h.at_ hk
  refine ⟨ad, e, rfl, hS, he, h1, h2, ?_, hat 1 _ rfl, hat 2 _ rfl⟩
  have := hat 0 _ rfl
  rwa [add_zero'] at this

set_option maxHeartbeats 1000000 in
theorem indexe_any (A : Option Addr) (n c : Nat) (L : List Ent) (w : World) (ha : Sl entR 3 w (Old w) A n c L) (hn : n ≤ 65536) :
    Calls Tryd.prog 71 #[.slice A n c, .func (.func 66) #[] #[]] w fun e w' => Below w.heap.size w w' ∧
      (((∀ x ∈ L, EntOk x) ∧ e = .returned (.int .i64 (-1))) ∨ (¬ (∀ x ∈ L, EntOk x)) ∧ ∃ k : Nat, e = .returned (.int .i64 k)) := by
  have hlen := ha.len
  have HLEN := hide hlen
  clear hlen
  go_enter Tryd.func71, Tryd.ntmps71
  go_wp2_with fail
  go_loopw [8] (fun i wr => ∃ k : Nat, k ≤ n ∧ i = .int .i64 k ∧ Hid (∀ x ∈ L.take k, EntOk x) ∧ Below w.heap.size w wr) (fun i _ => n - (intOf i).toNat)
  case atStart => exact ⟨0, Nat.zero_le _, rfl, by intro x hx; simp at hx, Below.refl _ _⟩
  case round =>
    obtain ⟨k, hk, rfl, hall, hb⟩ := hrel
    by_cases hlt : k < n
    · obtain ⟨ad, x, rfl, hadl, hx, _, _, c0, c1, c2⟩ := at_ent (ha.on entR_fine hb) hlt
      have hw := fun w => wrong_any x w
      unfold Ent.v at hw
      by_cases hok : EntOk x
      · rw [show decide (¬ EntOk x) = false from decide_eq_false (fun h => h hok)] at hw
        have hnext : ∀ y ∈ L.take (k + 1), EntOk y := by
          obtain ⟨h1, e1⟩ := List.getElem?_eq_some_iff.1 hx
          rw [List.take_succ_eq_append_getElem h1, e1]
          intro y hy
          rcases List.mem_append.1 hy with hy | hy
          · exact hall.out y hy
          · simp at hy; subst hy; exact hok
        have HN := hide hnext
        have HW := hide hw
        clear hw hnext hok hx
        go_wp2_with fail
        refine (HW.out _).mono ?_
        rintro e w1 ⟨rfl, hb1⟩
        go_wp2_with fail
        go_roundw
        case rel => exact ⟨k + 1, by omega, by go_num, HN, th hb hb1⟩
        case measure => simp [intOf]; omega
      · rw [show decide (¬ EntOk x) = true from decide_eq_true hok] at hw
        have hbad : ¬ ∀ y ∈ L, EntOk y := fun h => hok (h x (List.mem_of_getElem? hx))
        have HB := hide hbad
        have HW := hide hw
        clear hw hbad hok hx
        go_wp2_with fail
        refine (HW.out _).mono ?_
        rintro e w1 ⟨rfl, hb1⟩
        go_wp2_with fail
        go_ret
        exact ⟨th hb hb1, .inr ⟨HB.out, k, rfl⟩⟩
    · obtain rfl : k = n := by omega
      go_wp2_with fail
      go_ret
      refine ⟨hb, .inl ⟨?_, rfl⟩⟩
      have h := hall.out
      rwa [List.take_of_length_le (by rw [HLEN.out]; omega)] at h

set_option maxHeartbeats 1000000 in
theorem conte_any (A : Option Addr) (n c : Nat) (L : List Ent) (w : World) (ha : Sl entR 3 w (Old w) A n c L) (hn : n ≤ 65536) :
    Calls Tryd.prog 68 #[.slice A n c, .func (.func 66) #[] #[]] w fun e w' => e = .returned (.bool (!L.all fun x => decide (EntOk x))) ∧ Below w.heap.size w w' := by
  have hi := indexe_any A n c L w ha hn
  obtain ⟨B, hB⟩ : ∃ B, B = !L.all fun x => decide (EntOk x) := ⟨_, rfl⟩
  have hB1 : (∀ x ∈ L, EntOk x) → B = false := fun h => by rw [hB, show (L.all fun x => decide (EntOk x)) = true by simpa using h]; rfl
  have hB2 : ¬ (∀ x ∈ L, EntOk x) → B = true := fun h => by rw [hB, show (L.all fun x => decide (EntOk x)) = false by rw [← Bool.not_eq_true]; simpa using h]; rfl
  rw [← hB]
  have HI := hide hi
  have H1 := hide hB1
  have H2 := hide hB2
  clear hi hB1 hB2 hB
  go_enter Tryd.func68, Tryd.ntmps68
  go_wp2_with fail
  refine HI.out.mono ?_
  rintro e w1 ⟨hb, ⟨h, rfl⟩ | ⟨h, k, rfl⟩⟩
  · obtain rfl := H1.out h
    clear h
    go_wp2_with fail
    go_ret
    exact ⟨rfl, hb⟩
  · obtain rfl := H2.out h
    clear h
    go_wp2_with fail
    go_ret
    exact ⟨by simp, hb⟩

set_option maxHeartbeats 1000000 in
theorem check_any (A : Option Addr) (n c : Nat) (L : List Ent) (g : Geo) (w : World) (ha : Sl entR 3 w (Old w) A n c L) (hn : n ≤ 65536) :
    Calls Tryd.prog 62 #[g.v, .agg #[.slice A n c]] w fun e w' => e = .returned (.int .i64 (if GeoOk g ∧ TabOk g.data L then 0 else 1)) ∧ Below w.heap.size w w' := by
  have hg := fun w => gcheck_any g w
  obtain ⟨z, d, s, l, a⟩ := g
  unfold Geo.v at hg ⊢
  dsimp only at hg ⊢
  have hlen := ha.len
  have hb0 : Below w.heap.size w ((w.alloc (.cells #[.int .i64 z, .int .i64 d, .int .i64 s, .int .i64 l, .int .i64 a] 23)).alloc (.cells #[.slice A n c] 65)) := (alloc_below w _).alloc (by simp) _
  have ha0 := ha.on entR_fine hb0
  have bx : ∀ W, Below ((w.alloc (.cells #[.int .i64 z, .int .i64 d, .int .i64 s, .int .i64 l, .int .i64 a] 23)).alloc (.cells #[.slice A n c] 65)).heap.size ((w.alloc (.cells #[.int .i64 z, .int .i64 d, .int .i64 s, .int .i64 l, .int .i64 a] 23)).alloc (.cells #[.slice A n c] 65)) W → W.cell? ⟨w.heap.size, 1, none⟩ = some (.int .i64 d) ∧ W.cell? ⟨w.heap.size + 1, 0, none⟩ = some (.slice A n c) := fun W hW =>
    ⟨box_cell (th (alloc_below _ _) hW) 1 _ rfl, by have h := box_cell hW 0 _ rfl; simpa using h⟩
  have BX := hide bx
  clear bx
  by_cases h1 : GeoOk ⟨z, d, s, l, a⟩
  · have hd := h1.2.1
    dsimp only at hd
    have he : geoErr ⟨z, d, s, l, a⟩ = 0 := if_pos h1
    rw [he] at hg
    have HG := hide hg
    clear hg
    by_cases h2 : (n : Int) = d + 1
    · obtain ⟨q, hq⟩ : ∃ q : Nat, d = (q : Int) := ⟨d.toNat, by omega⟩
      subst hq
      obtain ⟨ad, x, rfl, hadl, hx, _, _, _, _, c2⟩ := at_ent ha0 (show q < n by omega)
      by_cases h3 : ∀ x ∈ L, EntOk x
      · have hall : (L.all fun x => decide (EntOk x)) = true := by simpa using h3
        have hcc := fun w ha => conte_any (some ad) n c L w ha hn
        rw [hall] at hcc
        have hres : (if GeoOk ⟨z, q, s, l, a⟩ ∧ TabOk (q : Int) L then (0 : Int) else 1) = if x.lost then 1 else 0 := by
          cases hxl : x.lost
          · rw [if_pos ⟨h1, by rw [hlen]; exact h2, h3, fun e he' => by rw [show ((q : Int)).toNat = q from rfl, hx] at he'; injection he' with he'; rw [← he', hxl]⟩]
            rfl
          · rw [if_neg (fun h => by have := h.2.2.2 x (by rw [show ((q : Int)).toNat = q from rfl]; exact hx); rw [hxl] at this; cases this)]
            rfl
        rw [hres]
        have HC := hide hcc
        have hn1 : ((n : Int) != (q : Int) + 1) = false := by simp; omega
        have hql : (q : Int) < (n : Int) := by omega
        clear hcc hall hres hx h3 he hlen
        generalize x.lost = b at c2 ⊢
        cases b
        all_goals
          simp only [Bool.false_eq_true, if_true, if_false]
          go_enter Tryd.func62, Tryd.ntmps62
          go_wp2_with fail
          refine (HG.out _).mono ?_
          rintro e w1 ⟨rfl, hb1⟩
          obtain ⟨k1, k2⟩ := BX.out w1 hb1
          go_wp2_with fail
          refine (HC.out _ (ha0.on entR_fine hb1)).mono ?_
          rintro e w2 ⟨rfl, hb2⟩
          obtain ⟨k3, k4⟩ := BX.out w2 (th hb1 hb2)
          have c2' := ((th hb1 hb2).cell (p := ⟨(ad.add (q * 3)).block, (ad.add (q * 3)).off + 2, none⟩) (by show (ad.add (q * 3)).block < _; rw [block_of_add]; exact hadl)).trans c2
          go_wp2_with fail
          go_ret
          exact ⟨rfl, th hb0 (th hb1 hb2)⟩
      · have hall : (L.all fun x => decide (EntOk x)) = false := by rw [← Bool.not_eq_true]; simpa using h3
        have hcc := fun w ha => conte_any (some ad) n c L w ha hn
        rw [hall] at hcc
        rw [if_neg (fun h => h3 h.2.2.1)]
        have HC := hide hcc
        have hn1 : ((n : Int) != (q : Int) + 1) = false := by simp; omega
        clear hcc hall hx h3 he hlen
        go_enter Tryd.func62, Tryd.ntmps62
        go_wp2_with fail
        refine (HG.out _).mono ?_
        rintro e w1 ⟨rfl, hb1⟩
        obtain ⟨k1, k2⟩ := BX.out w1 hb1
        go_wp2_with fail
        refine (HC.out _ (ha0.on entR_fine hb1)).mono ?_
        rintro e w2 ⟨rfl, hb2⟩
        go_wp2_with fail
        go_ret
        exact ⟨rfl, th hb0 (th hb1 hb2)⟩
    · have hn1 : ((n : Int) != d + 1) = true := by simpa using h2
      rw [if_neg (fun h => h2 (by rw [← hlen]; exact h.2.1))]
      clear he hlen
      go_enter Tryd.func62, Tryd.ntmps62
      go_wp2_with fail
      refine (HG.out _).mono ?_
      rintro e w1 ⟨rfl, hb1⟩
      obtain ⟨k1, k2⟩ := BX.out w1 hb1
      go_wp2_with fail
      go_ret
      exact ⟨rfl, th hb0 hb1⟩
  · have he : geoErr ⟨z, d, s, l, a⟩ = 1 := if_neg h1
    rw [he] at hg
    rw [if_neg (fun h => h1 h.1)]
    have HG := hide hg
    clear hg he h1 hlen
    go_enter Tryd.func62, Tryd.ntmps62
    go_wp2_with fail
    refine (HG.out _).mono ?_
    rintro e w1 ⟨rfl, hb1⟩
    go_wp2_with fail
    go_ret
    exact ⟨rfl, th hb0 hb1⟩

end Go.Proofs.YtdcoholjnlndgaaDoor
