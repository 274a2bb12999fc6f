/-
  Contracts: anchor.Check's closure, slices.IndexFunc and ContainsFunc over homes, anchor.Check.
-/
import Derived.Test.YtdcoholjnlndgaaDoorAncH
import Derived.Test.YtdcoholjnlndgaaDoorLab
namespace Go.Proofs.YtdcoholjnlndgaaDoor
open Go.RowKit
set_option linter.unusedVariables false
set_option maxRecDepth 100000

/-- A geometry in a box. -/
def GeoAt (w : World) (G : Nat) (g : Geo) : Prop := G < w.heap.size ∧ w.cell? ⟨G, 0, none⟩ = some (.int .i64 g.zones) ∧ w.cell? ⟨G, 1, none⟩ = some (.int .i64 g.data) ∧ w.cell? ⟨G, 2, none⟩ = some (.int .i64 g.spares) ∧ w.cell? ⟨G, 3, none⟩ = some (.int .i64 g.slots) ∧ w.cell? ⟨G, 4, none⟩ = some (.int .i64 g.anchors)
theorem GeoAt.on {w w' : World} {G : Nat} {g : Geo} (h : GeoAt w G g) (hb : Below w.heap.size w w') : GeoAt w' G g :=
  ⟨Nat.lt_of_lt_of_le h.1 hb.size, (hb.cell h.1).trans h.2.1, (hb.cell h.1).trans h.2.2.1, (hb.cell h.1).trans h.2.2.2.1, (hb.cell h.1).trans h.2.2.2.2.1, (hb.cell h.1).trans h.2.2.2.2.2⟩
theorem GeoAt.new (w : World) (g : Geo) (e : TypeId) : GeoAt (w.alloc (.cells #[.int .i64 g.zones, .int .i64 g.data, .int .i64 g.spares, .int .i64 g.slots, .int .i64 g.anchors] e)) w.heap.size g :=
  ⟨by simp, box_cell (Below.refl _ _) 0 _ rfl, box_cell (Below.refl _ _) 1 _ rfl, box_cell (Below.refl _ _) 2 _ rfl, box_cell (Below.refl _ _) 3 _ rfl, box_cell (Below.refl _ _) 4 _ rfl⟩

/-- A home's three cells. -/
theorem at_hom {w : World} {S : Nat → Prop} {A : Option Addr} {n c : Nat} {L : List Hom} (h : Sl homR 3 w S A n c L) {k : Nat} (hk : k < n) : ∃ ad e A' n' c', A = some ad ∧ S ad.block ∧ L[k]? = some e ∧ InI e.next ∧ InI e.root ∧ Sl intR 1 w S A' n' c' e.places ∧
    w.cell? (ad.add (k * 3)) = some (.slice A' n' c') ∧ w.cell? ⟨(ad.add (k * 3)).block, (ad.add (k * 3)).off + 1, none⟩ = some (.int .i64 e.next) ∧ w.cell? ⟨(ad.add (k * 3)).block, (ad.add (k * 3)).off + 2, none⟩ = some (.int .i64 e.root) := by
  obtain ⟨ad, e, cs, rfl, hS, he, ⟨A', n', c', rfl, h1, h2, hs⟩, hat⟩ := h.at_ hk
  refine ⟨ad, e, A', n', c', rfl, hS, he, h1, h2, hs, ?_, hat 1 _ rfl, hat 2 _ rfl⟩
  have := hat 0 _ rfl
  rwa [add_zero'] at this

set_option maxHeartbeats 1000000 in
theorem checkc_any (g : Geo) (hG : GeoOk g) (h : Hom) (A : Option Addr) (n c : Nat) (w : World) (ha : Is w A n c h.places) (hn : n ≤ 6000) (hin : InI h.next ∧ InI h.root) (G : Nat) (hg : GeoAt w G g) :
    Calls Tryd.prog 39 #[.agg #[.slice A n c, .int .i64 h.next, .int .i64 h.root], .pointer (some ⟨G, 0, none⟩)] w fun e w' => e = .returned (.bool (!decide (HomOk g h))) ∧ Below w.heap.size w w' := by
  have hb := alloc_below w (.cells #[.slice A n c, .int .i64 h.next, .int .i64 h.root] 59)
  obtain ⟨_, p0, p1, p2, p3, p4⟩ := hg.on hb
  have hh := home_any g hG h A n c _ (ha.on intR_fine hb) hn hin
  unfold Geo.v at hh
  generalize decide (HomOk g h) = b at hh ⊢
  have HH := hide hh
  clear hh
  cases b
  all_goals
    go_enter Tryd.func39, Tryd.ntmps39
    go_wp2_with fail
    refine HH.out.mono ?_
    rintro e w1 ⟨rfl, hb1⟩
    go_wp2_with fail
    go_ret
    exact ⟨rfl, th hb hb1⟩

set_option maxHeartbeats 1000000 in
theorem indexh_any (g : Geo) (hG : GeoOk g) (A : Option Addr) (n c : Nat) (L : List Hom) (w : World) (ha : Sl homR 3 w (Old w) A n c L) (hn : n ≤ 65536) (hpl : ∀ h ∈ L, h.places.length ≤ 6000) (G : Nat) (hg : GeoAt w G g) :
    Calls Tryd.prog 52 #[.slice A n c, .func (.func 39) #[] #[.pointer (some ⟨G, 0, none⟩)]] w fun e w' => Below w.heap.size w w' ∧
      (((∀ x ∈ L, HomOk g x) ∧ e = .returned (.int .i64 (-1))) ∨ (¬ (∀ x ∈ L, HomOk g x)) ∧ ∃ k : Nat, e = .returned (.int .i64 k)) := by
  have hlen := ha.len
  have HLEN := hide hlen
  have HPL := hide hpl
  clear hlen hpl
  go_enter Tryd.func52, Tryd.ntmps52
  go_wp2_with fail
  go_loopw [8] (fun i wr => ∃ k : Nat, k ≤ n ∧ i = .int .i64 k ∧ Hid (∀ x ∈ L.take k, HomOk g x) ∧ Below w.heap.size w wr) (fun i _ => n - (intOf i).toNat)
  case atStart => exact ⟨0, Nat.zero_le _, rfl, hide (by intro x hx; simp at hx), Below.refl _ _⟩
  case round =>
    obtain ⟨k, hk, rfl, hall, hb⟩ := hrel
    by_cases hlt : k < n
    · obtain ⟨ad, x, A', n', c', rfl, hadl, hx, q1, q2, hs, c0, c1, c2⟩ := at_hom (ha.on homR_fine hb) hlt
      have hw := checkc_any g hG x A' n' c' wr hs (by rw [← hs.len]; exact HPL.out x (List.mem_of_getElem? hx)) ⟨q1, q2⟩ G (hg.on hb)
      by_cases hok : HomOk g x
      · rw [decide_eq_true hok] at hw
        have hnext : ∀ y ∈ L.take (k + 1), HomOk g y := by
          obtain ⟨h1, e1⟩ := List.getElem?_eq_some_iff.1 hx
          rw [List.take_succ_eq_append_getElem h1, e1]
          intro y hy
          rcases List.mem_append.1 hy with hy | hy
          · exact hall.out y hy
          · simp at hy; subst hy; exact hok
        have HN := hide hnext
        have HW := hide hw
        clear hw hnext hok hx
        go_wp2_with fail
        refine HW.out.mono ?_
        rintro e w1 ⟨rfl, hb1⟩
        go_wp2_with fail
        go_roundw
        case rel => exact ⟨k + 1, by omega, by go_num, HN, th hb hb1⟩
        case measure => simp [intOf]; omega
      · rw [decide_eq_false hok] at hw
        have hbad : ¬ ∀ y ∈ L, HomOk g y := fun h => hok (h x (List.mem_of_getElem? hx))
        have HB := hide hbad
        have HW := hide hw
        clear hw hbad hok hx
        go_wp2_with fail
        refine HW.out.mono ?_
        rintro e w1 ⟨rfl, hb1⟩
        go_wp2_with fail
        go_ret
        exact ⟨th hb hb1, .inr ⟨HB.out, k, rfl⟩⟩
    · obtain rfl : k = n := by omega
      go_wp2_with fail
      go_ret
      refine ⟨hb, .inl ⟨?_, rfl⟩⟩
      have h := hall.out
      rwa [List.take_of_length_le (by rw [HLEN.out]; omega)] at h

set_option maxHeartbeats 1000000 in
theorem conth_any (g : Geo) (hG : GeoOk g) (A : Option Addr) (n c : Nat) (L : List Hom) (w : World) (ha : Sl homR 3 w (Old w) A n c L) (hn : n ≤ 65536) (hpl : ∀ h ∈ L, h.places.length ≤ 6000) (G : Nat) (hg : GeoAt w G g) :
    Calls Tryd.prog 38 #[.slice A n c, .func (.func 39) #[] #[.pointer (some ⟨G, 0, none⟩)]] w fun e w' => e = .returned (.bool (!decide (∀ x ∈ L, HomOk g x))) ∧ Below w.heap.size w w' := by
  have hi := indexh_any g hG A n c L w ha hn hpl G hg
  obtain ⟨B, hB⟩ : ∃ B, B = !decide (∀ x ∈ L, HomOk g x) := ⟨_, rfl⟩
  have hB1 : (∀ x ∈ L, HomOk g x) → B = false := fun h => by rw [hB, decide_eq_true h]; rfl
  have hB2 : ¬ (∀ x ∈ L, HomOk g x) → B = true := fun h => by rw [hB, decide_eq_false h]; rfl
  rw [← hB]
  have HI := hide hi
  have H1 := hide hB1
  have H2 := hide hB2
  clear hi hB1 hB2 hB
  go_enter Tryd.func38, Tryd.ntmps38
  go_wp2_with fail
  refine HI.out.mono ?_
  rintro e w1 ⟨hb, ⟨h, rfl⟩ | ⟨h, k, rfl⟩⟩
  · obtain rfl := H1.out h
    clear h
    go_wp2_with fail
    go_ret
    exact ⟨rfl, hb⟩
  · obtain rfl := H2.out h
    clear h
    go_wp2_with fail
    go_ret
    exact ⟨by simp, hb⟩

/-- What anchor.Check says. -/
def ancErr (g : Geo) (a : Anc) : Int := if GeoOk g ∧ AncOk g a then 0 else 1
/-- Sizes that are played. -/
def Light (a : Anc) : Prop := a.label.size ≤ 60000 ∧ a.homes.length ≤ 6000 ∧ ∀ h ∈ a.homes, h.places.length ≤ 6000

set_option maxHeartbeats 4000000 in
theorem acheck_any (g : Geo) (a : Anc) (A : Option Addr) (n c : Nat) (w : World) (hT : Tabs w) (ha : Sl homR 3 w (Old w) A n c a.homes) (hin : a.In) (hl : Light a) :
    Calls Tryd.prog 23 #[g.v, a.v (.slice A n c)] w fun e w' => e = .returned (.int .i64 (ancErr g a)) ∧ Below w.heap.size w w' := by
  obtain ⟨l1, l2, l3⟩ := hl
  have hlen := ha.len
  have hn : n ≤ 6000 := by omega
  obtain ⟨⟨g1, g2⟩, ⟨ep1, ep2⟩, ⟨po1, po2⟩, ⟨sq1, sq2⟩, ⟨la1, la2⟩, lb⟩ := hin
  obtain ⟨gen, epoch, pos, seq, last, label, homes⟩ := a
  obtain ⟨z, d, s, sl, an⟩ := g
  dsimp only at *
  obtain ⟨R, hR⟩ : ∃ R, R = ancErr ⟨z, d, s, sl, an⟩ ⟨gen, epoch, pos, seq, last, label, homes⟩ := ⟨_, rfl⟩
  rw [← hR]
  unfold Geo.v Anc.v
  dsimp only
  obtain ⟨W0, hW0⟩ : ∃ W0, W0 = (w.alloc (.cells #[.int .i64 z, .int .i64 d, .int .i64 s, .int .i64 sl, .int .i64 an] 23)).alloc (.cells #[.int .i64 gen, .int .i64 epoch, .int .i64 pos, .int .i64 seq, .int .i64 last, .string label, .slice A n c] 26) := ⟨_, rfl⟩
  have hb0 : Below w.heap.size w W0 := by rw [hW0]; exact (alloc_below w _).alloc (by simp) _
  have ha0 := ha.on homR_fine hb0
  have hT0 := hT.below hb0
  have hgb : GeoAt W0 w.heap.size ⟨z, d, s, sl, an⟩ := by rw [hW0]; exact (GeoAt.new w ⟨z, d, s, sl, an⟩ 23).on (alloc_below _ _)
  have bx : ∀ W, Below W0.heap.size W0 W →
      W.cell? ⟨w.heap.size + 1, 0, none⟩ = some (.int .i64 gen) ∧ W.cell? ⟨w.heap.size + 1, 1, none⟩ = some (.int .i64 epoch) ∧ W.cell? ⟨w.heap.size + 1, 2, none⟩ = some (.int .i64 pos) ∧ W.cell? ⟨w.heap.size + 1, 3, none⟩ = some (.int .i64 seq) ∧ W.cell? ⟨w.heap.size + 1, 4, none⟩ = some (.int .i64 last) ∧ W.cell? ⟨w.heap.size + 1, 5, none⟩ = some (.string label) ∧ W.cell? ⟨w.heap.size + 1, 6, none⟩ = some (.slice A n c) := fun W hW => by
    subst hW0
    have q2 : ∀ k u, (#[.int .i64 gen, .int .i64 epoch, .int .i64 pos, .int .i64 seq, .int .i64 last, .string label, .slice A n c] : Array Value)[k]? = some u → W.cell? ⟨w.heap.size + 1, k, none⟩ = some u := fun k u hk => by have := box_cell hW k u hk; simpa using this
    exact ⟨q2 0 _ rfl, q2 1 _ rfl, q2 2 _ rfl, q2 3 _ rfl, q2 4 _ rfl, q2 5 _ rfl, q2 6 _ rfl⟩
  have BX := hide bx
  have HW0 := hide hW0
  have hck := fun w => gcheck_any ⟨z, d, s, sl, an⟩ w
  unfold Geo.v geoErr at hck
  dsimp only at hck
  have hno : ¬ (GeoOk ⟨z, d, s, sl, an⟩ ∧ AncOk ⟨z, d, s, sl, an⟩ ⟨gen, epoch, pos, seq, last, label, homes⟩) → R = 1 := fun h => by rw [hR]; exact if_neg h
  have hyes : (GeoOk ⟨z, d, s, sl, an⟩ ∧ AncOk ⟨z, d, s, sl, an⟩ ⟨gen, epoch, pos, seq, last, label, homes⟩) → R = 0 := fun h => by rw [hR]; exact if_pos h
  have HNO := hide hno
  have HYES := hide hyes
  have HLEN := hide hlen
  have HL3 := hide l3
  clear bx hno hyes hR hlen l3
  by_cases hG : GeoOk ⟨z, d, s, sl, an⟩
  · rw [if_pos hG] at hck
    have HCK := hide hck
    clear hck
    have hsl : 14 ≤ sl ∧ sl ≤ 30 := hG.2.2.2.1
    obtain ⟨hsl1, hsl2⟩ := hsl
    obtain ⟨bN, hbN⟩ : ∃ b, b = ([gen, epoch, seq, last].all fun x => decide (NumOk x)) := ⟨_, rfl⟩
    have hnum : ∀ w : World, Calls Tryd.prog 35 #[.slice (some ⟨w.heap.size, 0, none⟩) 4 4] (w.alloc (.cells #[.int .i64 gen, .int .i64 epoch, .int .i64 seq, .int .i64 last] 3)) fun e w' => e = .returned (.bool bN) ∧ w.alloc (.cells #[.int .i64 gen, .int .i64 epoch, .int .i64 seq, .int .i64 last] 3) = w' := fun w => by
      rw [hbN]
      exact anum_any _ 4 4 [gen, epoch, seq, last] _ (lit_ints_at (w := w) (e := 3) (n := 4) (l := [gen, epoch, seq, last]) rfl rfl (by omega) (fun x hx => by simp at hx; rcases hx with rfl | rfl | rfl | rfl <;> exact ⟨by omega, by omega⟩) rfl) (by omega)
    have HNUM := hide hnum
    clear hnum
    have hbN2 : bN = true ↔ NumOk gen ∧ NumOk epoch ∧ NumOk seq ∧ NumOk last := by rw [hbN]; simp
    have HBN := hide hbN2
    have HG := hide hG
    clear hbN hbN2 hG
    cases bN with
    | false =>
      obtain rfl := HNO.out (fun h => by have h1 := h.2.1; have := HBN.out.2 ⟨h1.1, h1.2.1, h1.2.2.1, h1.2.2.2.1⟩; cases this)
      go_enter Tryd.func23, Tryd.ntmps23
      go_wp2_with fail
      rw [← hW0]
      clear hW0
      refine (HCK.out _).mono ?_
      rintro e w1 ⟨rfl, hb1⟩
      obtain ⟨_, p0, p1, p2, p3, p4⟩ := hgb.on hb1
      obtain ⟨q0, q1, q2, q3, q4, q5, q6⟩ := BX.out _ hb1
      go_wp2_with fail
      refine (HNUM.out _).mono ?_
      rintro e w2 ⟨rfl, rfl⟩
      have hb2 := th hb1 (alloc_below w1 (.cells #[.int .i64 gen, .int .i64 epoch, .int .i64 seq, .int .i64 last] 3))
      obtain ⟨_, p0, p1, p2, p3, p4⟩ := hgb.on hb2
      obtain ⟨q0, q1, q2, q3, q4, q5, q6⟩ := BX.out _ hb2
      go_wp2_with fail
      go_ret
      exact ⟨rfl, th hb0 hb2⟩
    | true =>
      obtain ⟨n1, n2, ⟨n3, n3'⟩, ⟨n4, n4'⟩⟩ := HBN.out.1 rfl
      have N1 := hide n1
      have N2 := hide n2
      clear n1 n2
      by_cases c1 : seq < 1
      · have hz : ¬ (1 ≤ seq) := by omega
        obtain rfl := HNO.out (fun h => absurd h.2.1.2.2.2.2.1 hz)
        clear hz
        go_enter Tryd.func23, Tryd.ntmps23
        go_wp2_with fail
        rw [← hW0]
        clear hW0
        refine (HCK.out _).mono ?_
        rintro e w1 ⟨rfl, hb1⟩
        obtain ⟨_, p0, p1, p2, p3, p4⟩ := hgb.on hb1
        obtain ⟨q0, q1, q2, q3, q4, q5, q6⟩ := BX.out _ hb1
        go_wp2_with fail
        refine (HNUM.out _).mono ?_
        rintro e w2 ⟨rfl, rfl⟩
        have hb2 := th hb1 (alloc_below w1 (.cells #[.int .i64 gen, .int .i64 epoch, .int .i64 seq, .int .i64 last] 3))
        obtain ⟨_, p0, p1, p2, p3, p4⟩ := hgb.on hb2
        obtain ⟨q0, q1, q2, q3, q4, q5, q6⟩ := BX.out _ hb2
        go_wp2_with fail
        go_ret
        exact ⟨rfl, th hb0 hb2⟩
      · by_cases c2 : last < seq - 1
        · have hz : ¬ (seq - 1 ≤ last) := by omega
          obtain rfl := HNO.out (fun h => absurd h.2.1.2.2.2.2.2.1 hz)
          clear hz
          go_enter Tryd.func23, Tryd.ntmps23
          go_wp2_with fail
          rw [← hW0]
          clear hW0
          refine (HCK.out _).mono ?_
          rintro e w1 ⟨rfl, hb1⟩
          obtain ⟨_, p0, p1, p2, p3, p4⟩ := hgb.on hb1
          obtain ⟨q0, q1, q2, q3, q4, q5, q6⟩ := BX.out _ hb1
          go_wp2_with fail
          refine (HNUM.out _).mono ?_
          rintro e w2 ⟨rfl, rfl⟩
          have hb2 := th hb1 (alloc_below w1 (.cells #[.int .i64 gen, .int .i64 epoch, .int .i64 seq, .int .i64 last] 3))
          obtain ⟨_, p0, p1, p2, p3, p4⟩ := hgb.on hb2
          obtain ⟨q0, q1, q2, q3, q4, q5, q6⟩ := BX.out _ hb2
          go_wp2_with fail
          go_ret
          exact ⟨rfl, th hb0 hb2⟩
        · have hin2 := fun w => ain_any pos 0 (sl - 1) w
          obtain ⟨bP, hbP⟩ : ∃ b, b = decide (0 ≤ pos ∧ pos ≤ sl - 1) := ⟨_, rfl⟩
          rw [← hbP] at hin2
          have HIN := hide hin2
          have HBP := hide hbP
          clear hin2 hbP
          cases bP with
          | false =>
            obtain rfl := HNO.out (fun h => by have h1 := h.2.1.2.2.2.2.2.2; have h2 := of_decide_eq_false HBP.out.symm; exact h2 h1)
            go_enter Tryd.func23, Tryd.ntmps23
            go_wp2_with fail
            rw [← hW0]
            clear hW0
            refine (HCK.out _).mono ?_
            rintro e w1 ⟨rfl, hb1⟩
            obtain ⟨_, p0, p1, p2, p3, p4⟩ := hgb.on hb1
            obtain ⟨q0, q1, q2, q3, q4, q5, q6⟩ := BX.out _ hb1
            go_wp2_with fail
            refine (HNUM.out _).mono ?_
            rintro e w2 ⟨rfl, rfl⟩
            have hb2 := th hb1 (alloc_below w1 (.cells #[.int .i64 gen, .int .i64 epoch, .int .i64 seq, .int .i64 last] 3))
            obtain ⟨_, p0, p1, p2, p3, p4⟩ := hgb.on hb2
            obtain ⟨q0, q1, q2, q3, q4, q5, q6⟩ := BX.out _ hb2
            go_wp2_with fail
            refine (HIN.out _).mono ?_
            rintro e w3 ⟨rfl, rfl⟩
            go_wp2_with fail
            go_ret
            exact ⟨rfl, th hb0 hb2⟩
          | true =>
            have hlb := fun w hT => lcheck_any label (by omega) w hT
            obtain ⟨E, hE⟩ : ∃ E, E = labE (sL label) := ⟨_, rfl⟩
            rw [← hE] at hlb
            have HLB := hide hlb
            have HE := hide hE
            clear hlb hE
            by_cases c3 : E = 0
            · obtain rfl := c3
              by_cases c4 : (n : Int) = z
              · have e4 : ((n : Int) != z) = false := by simpa using c4
                have hch : ∀ W, Below W0.heap.size W0 W → _ := fun W hW => conth_any ⟨z, d, s, sl, an⟩ HG.out A n c homes W (ha0.on homR_fine hW) (by omega) HL3.out w.heap.size (hgb.on hW)
                obtain ⟨bH, hbH⟩ : ∃ b, b = decide (∀ x ∈ homes, HomOk ⟨z, d, s, sl, an⟩ x) := ⟨_, rfl⟩
                rw [← hbH] at hch
                have HCH := hide hch
                have HBH := hide hbH
                have C4 := hide c4
                clear hch hbH c4
                cases bH with
                | false =>
                  obtain rfl := HNO.out (fun h => by have h1 := h.2.2.2.2; have h2 := of_decide_eq_false HBH.out.symm; exact h2 h1)
                  go_enter Tryd.func23, Tryd.ntmps23
                  go_wp2_with fail
                  rw [← hW0]
                  clear hW0
                  refine (HCK.out _).mono ?_
                  rintro e w1 ⟨rfl, hb1⟩
                  obtain ⟨_, p0, p1, p2, p3, p4⟩ := hgb.on hb1
                  obtain ⟨q0, q1, q2, q3, q4, q5, q6⟩ := BX.out _ hb1
                  go_wp2_with fail
                  refine (HNUM.out _).mono ?_
                  rintro e w2 ⟨rfl, rfl⟩
                  have hb2 := th hb1 (alloc_below w1 (.cells #[.int .i64 gen, .int .i64 epoch, .int .i64 seq, .int .i64 last] 3))
                  obtain ⟨_, p0, p1, p2, p3, p4⟩ := hgb.on hb2
                  obtain ⟨q0, q1, q2, q3, q4, q5, q6⟩ := BX.out _ hb2
                  go_wp2_with fail
                  refine (HIN.out _).mono ?_
                  rintro e w3 ⟨rfl, rfl⟩
                  go_wp2_with fail
                  refine (HLB.out _ (hT0.below hb2)).mono ?_
                  rintro e w4 ⟨rfl, hb4⟩
                  have hb5 := th hb2 hb4
                  obtain ⟨_, p0, p1, p2, p3, p4⟩ := hgb.on hb5
                  obtain ⟨q0, q1, q2, q3, q4, q5, q6⟩ := BX.out _ hb5
                  go_wp2_with fail
                  refine (HCH.out _ hb5).mono ?_
                  rintro e w6 ⟨rfl, hb6⟩
                  go_wp2_with fail
                  go_ret
                  exact ⟨rfl, th hb0 (th hb5 hb6)⟩
                | true =>
                  obtain rfl := HYES.out ⟨HG.out, ⟨N1.out, N2.out, ⟨n3, n3'⟩, ⟨n4, n4'⟩, by show 1 ≤ seq; omega, by show seq - 1 ≤ last; omega, of_decide_eq_true HBP.out.symm⟩, HE.out.symm, by show (homes.length : Int) = z; rw [HLEN.out]; exact C4.out, of_decide_eq_true HBH.out.symm⟩
                  go_enter Tryd.func23, Tryd.ntmps23
                  go_wp2_with fail
                  rw [← hW0]
                  clear hW0
                  refine (HCK.out _).mono ?_
                  rintro e w1 ⟨rfl, hb1⟩
                  obtain ⟨_, p0, p1, p2, p3, p4⟩ := hgb.on hb1
                  obtain ⟨q0, q1, q2, q3, q4, q5, q6⟩ := BX.out _ hb1
                  go_wp2_with fail
                  refine (HNUM.out _).mono ?_
                  rintro e w2 ⟨rfl, rfl⟩
                  have hb2 := th hb1 (alloc_below w1 (.cells #[.int .i64 gen, .int .i64 epoch, .int .i64 seq, .int .i64 last] 3))
                  obtain ⟨_, p0, p1, p2, p3, p4⟩ := hgb.on hb2
                  obtain ⟨q0, q1, q2, q3, q4, q5, q6⟩ := BX.out _ hb2
                  go_wp2_with fail
                  refine (HIN.out _).mono ?_
                  rintro e w3 ⟨rfl, rfl⟩
                  go_wp2_with fail
                  refine (HLB.out _ (hT0.below hb2)).mono ?_
                  rintro e w4 ⟨rfl, hb4⟩
                  have hb5 := th hb2 hb4
                  obtain ⟨_, p0, p1, p2, p3, p4⟩ := hgb.on hb5
                  obtain ⟨q0, q1, q2, q3, q4, q5, q6⟩ := BX.out _ hb5
                  go_wp2_with fail
                  refine (HCH.out _ hb5).mono ?_
                  rintro e w6 ⟨rfl, hb6⟩
                  go_wp2_with fail
                  go_ret
                  exact ⟨rfl, th hb0 (th hb5 hb6)⟩
              · have e4 : ((n : Int) != z) = true := by simpa using c4
                have hz : ¬ (homes.length : Int) = z := by rw [HLEN.out]; exact c4
                obtain rfl := HNO.out (fun h => hz h.2.2.2.1)
                clear hz c4
                go_enter Tryd.func23, Tryd.ntmps23
                go_wp2_with fail
                rw [← hW0]
                clear hW0
                refine (HCK.out _).mono ?_
                rintro e w1 ⟨rfl, hb1⟩
                obtain ⟨_, p0, p1, p2, p3, p4⟩ := hgb.on hb1
                obtain ⟨q0, q1, q2, q3, q4, q5, q6⟩ := BX.out _ hb1
                go_wp2_with fail
                refine (HNUM.out _).mono ?_
                rintro e w2 ⟨rfl, rfl⟩
                have hb2 := th hb1 (alloc_below w1 (.cells #[.int .i64 gen, .int .i64 epoch, .int .i64 seq, .int .i64 last] 3))
                obtain ⟨_, p0, p1, p2, p3, p4⟩ := hgb.on hb2
                obtain ⟨q0, q1, q2, q3, q4, q5, q6⟩ := BX.out _ hb2
                go_wp2_with fail
                refine (HIN.out _).mono ?_
                rintro e w3 ⟨rfl, rfl⟩
                go_wp2_with fail
                refine (HLB.out _ (hT0.below hb2)).mono ?_
                rintro e w4 ⟨rfl, hb4⟩
                have hb5 := th hb2 hb4
                obtain ⟨_, p0, p1, p2, p3, p4⟩ := hgb.on hb5
                obtain ⟨q0, q1, q2, q3, q4, q5, q6⟩ := BX.out _ hb5
                go_wp2_with fail
                go_ret
                exact ⟨rfl, th hb0 hb5⟩
            · have e3 : (E != 0) = true := by simpa using c3
              have hz : ¬ labE (sL label) = 0 := by rw [← HE.out]; exact c3
              obtain rfl := HNO.out (fun h => hz h.2.2.1)
              clear hz c3
              go_enter Tryd.func23, Tryd.ntmps23
              go_wp2_with fail
              rw [← hW0]
              clear hW0
              refine (HCK.out _).mono ?_
              rintro e w1 ⟨rfl, hb1⟩
              obtain ⟨_, p0, p1, p2, p3, p4⟩ := hgb.on hb1
              obtain ⟨q0, q1, q2, q3, q4, q5, q6⟩ := BX.out _ hb1
              go_wp2_with fail
              refine (HNUM.out _).mono ?_
              rintro e w2 ⟨rfl, rfl⟩
              have hb2 := th hb1 (alloc_below w1 (.cells #[.int .i64 gen, .int .i64 epoch, .int .i64 seq, .int .i64 last] 3))
              obtain ⟨_, p0, p1, p2, p3, p4⟩ := hgb.on hb2
              obtain ⟨q0, q1, q2, q3, q4, q5, q6⟩ := BX.out _ hb2
              go_wp2_with fail
              refine (HIN.out _).mono ?_
              rintro e w3 ⟨rfl, rfl⟩
              go_wp2_with fail
              refine (HLB.out _ (hT0.below hb2)).mono ?_
              rintro e w4 ⟨rfl, hb4⟩
              have hb5 := th hb2 hb4
              obtain ⟨_, p0, p1, p2, p3, p4⟩ := hgb.on hb5
              obtain ⟨q0, q1, q2, q3, q4, q5, q6⟩ := BX.out _ hb5
              go_wp2_with fail
              go_ret
              exact ⟨rfl, th hb0 hb5⟩
  · rw [if_neg hG] at hck
    have HCK := hide hck
    clear hck
    obtain rfl := HNO.out (fun h => hG h.1)
    clear hG
    go_enter Tryd.func23, Tryd.ntmps23
    go_wp2_with fail
    rw [← hW0]
    clear hW0
    refine (HCK.out _).mono ?_
    rintro e w1 ⟨rfl, hb1⟩
    go_wp2_with fail
    go_ret
    exact ⟨rfl, th hb0 hb1⟩

end Go.Proofs.YtdcoholjnlndgaaDoor
