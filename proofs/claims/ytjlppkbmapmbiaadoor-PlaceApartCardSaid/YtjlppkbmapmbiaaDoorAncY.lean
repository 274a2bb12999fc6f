/-
  Plain: stores into homes that the call owns whole.
-/
import Derived.Test.YtjlppkbmapmbiaaDoorAncT
namespace Go.Proofs.YtjlppkbmapmbiaaDoor
open Go.RowKit Go.Lib
set_option linter.unusedVariables false
set_option maxRecDepth 100000

theorem zip_set {α β : Type} {L : List α} {t : List β} {k : Nat} {a : α} {o : β} (h : t[k]? = some o) : (L.zip t).set k (a, o) = (L.set k a).zip t := by
  refine List.ext_getElem? fun i => ?_
  by_cases hi : i = k
  · subst hi
    by_cases hl : i < L.length
    · have ht := (List.getElem?_eq_some_iff.1 h).1
      rw [List.getElem?_set_self (by rw [List.length_zip]; omega)]
      exact (List.getElem?_zip_eq_some.2 ⟨List.getElem?_set_self hl, h⟩).symm
    · rw [List.getElem?_eq_none (by simp; omega), List.getElem?_eq_none (by simp; omega)]
  · rw [List.getElem?_set_ne (by omega)]
    unfold List.zip
    rw [List.getElem?_zipWith, List.getElem?_zipWith, List.getElem?_set_ne (by omega)]

/-- A home that is owned: its cells, and what stores make of it. -/
theorem HOwn.spot {eH eI : TypeId} {w : World} {B : Nat} {A : Option Addr} {n c : Nat} {L : List Hom} (h : HOwn eH eI w B (.slice A n c) n L) {k : Nat} (hk : k < n) :
    ∃ g x A' n' c', A = some ⟨g, 0, none⟩ ∧ B ≤ g ∧ g < w.heap.size ∧ L[k]? = some x ∧ InI x.next ∧ InI x.root ∧ Is w A' n' c' x.places ∧
      w.cell? ⟨g, k * 3, none⟩ = some (.slice A' n' c') ∧ w.cell? ⟨g, k * 3 + 1, none⟩ = some (.int .i64 x.next) ∧ w.cell? ⟨g, k * 3 + 2, none⟩ = some (.int .i64 x.root) ∧ w.frozen? ⟨g, k * 3 + 1, none⟩ = false ∧
      (∀ v, InI v → HOwn eH eI (w.setCell ⟨g, k * 3 + 1, none⟩ (.int .i64 v)) B (.slice A n c) n (L.set k { x with next := v })) ∧
      (∀ p, p < n' → ∃ g', A' = some ⟨g', 0, none⟩ ∧ B ≤ g' ∧ g' < w.heap.size ∧ g' ≠ g ∧ (∃ y, x.places[p]? = some y ∧ InI y ∧ w.cell? ⟨g', p, none⟩ = some (.int .i64 y)) ∧ w.frozen? ⟨g', p, none⟩ = false ∧
        ∀ v, InI v → HOwn eH eI (w.setCell ⟨g', p, none⟩ (.int .i64 v)) B (.slice A n c) n (L.set k { x with places := x.places.set p v })) := by
  obtain ⟨t, ht, ho, hp⟩ := h
  have hll : L.length = n := by have := ho.len; rw [List.length_zip] at this; omega
  obtain ⟨g, ⟨x, o⟩, cs, u, rfl, hg, hgl, hy, hr, hu, hcell, hfr, hst⟩ := ho.spotN (homO_fine eI) hk (show 1 < 3 by omega)
  obtain ⟨g0, ⟨x0, o0⟩, cs0, u0, e0, _, _, hy0, hr0, hu0, hcell0, hfr0, _⟩ := ho.spotN (homO_fine eI) hk (show 0 < 3 by omega)
  obtain ⟨g2, ⟨x2, o2⟩, cs2, u2, e2, _, _, hy2, hr2, hu2, hcell2, hfr2, _⟩ := ho.spotN (homO_fine eI) hk (show 2 < 3 by omega)
  injection e0 with e0; injection e0 with e0; subst e0
  injection e2 with e2; injection e2 with e2; subst e2
  rw [hy] at hy0 hy2
  injection hy0 with hy0; injection hy0 with hy0 hy0'; subst hy0; subst hy0'
  injection hy2 with hy2; injection hy2 with hy2 hy2'; subst hy2; subst hy2'
  have hy' := List.getElem?_zip_eq_some.1 hy
  obtain ⟨hLk, htk⟩ := hy'
  dsimp only at hLk htk
  obtain ⟨A1, n1, c1, rfl, i1, i2, hoI1, hown1, hS1⟩ := hr
  obtain ⟨A', n', c', rfl, _, _, hoI, hown, hS⟩ := hr0
  obtain ⟨A2, n2, c2, rfl, _, _, _, _, _⟩ := hr2
  dsimp only at i1 i2 hoI1 hown1 hS1 hoI hown hS
  simp only [List.getElem?_cons_zero, List.getElem?_cons_succ] at hu hu0 hu2
  injection hu with hu; injection hu0 with hu0; injection hu2 with hu2
  subst hu; subst hu0; subst hu2
  refine ⟨g, x, A', n', c', rfl, hg, hgl, hLk, i1, i2, hoI.read intR_fine, hcell0, hcell, hcell2, hfr, fun v hv => ?_, fun p hpn => ?_⟩
  · have hfin := hst (.int .i64 v) ({ x with next := v }, o) rfl ⟨A1, n1, c1, rfl, hv, i2, hoI1, hown1, hS1⟩
    rw [zip_set htk] at hfin
    exact ⟨t, by rw [List.length_set]; exact ht, hfin, hp⟩
  · obtain ⟨g', y, cs', u', rfl, _, hgl', hy', hr', hu', hcell', hfr', hst'⟩ := hoI.spotN intR_fine hpn (show 0 < 1 by omega)
    have hgB := hS g' (by rw [← hown]; rfl)
    have hgg : g' ≠ g := fun e => hgB.2.2 (by rw [e]; rfl)
    obtain ⟨rfl, iy⟩ : cs' = [.int .i64 y] ∧ InI y := hr'
    simp only [List.getElem?_cons_zero] at hu'
    injection hu' with hu'
    subst hu'
    simp only [Nat.mul_one, Nat.add_zero] at hcell' hfr' hst'
    refine ⟨g', rfl, hgB.1, hgl', hgg, ⟨y, hy', iy, hcell'⟩, hfr', fun v hv => ⟨t, by rw [List.length_set]; exact ht, ?_, hp⟩⟩
    have hin := hst' (.int .i64 v) v rfl ⟨rfl, hv⟩
    have hto : o = some g' := by rw [← hown]; rfl
    obtain ⟨hl, xs, hx, h1, hel⟩ := ho
    have hgr := put_grown w ⟨g', p, none⟩ (.int .i64 v)
    refine ⟨by rw [List.length_zip, List.length_set, ht]; omega, xs, hx.kept hgr (.inr fun e => by simp [Value.ownBlock] at e; exact hgg e.symm), h1, fun i z hi => ?_⟩
    obtain ⟨z, oz⟩ := z
    rw [List.getElem?_zip_eq_some] at hi
    obtain ⟨hzi, hti⟩ := hi
    dsimp only at hzi hti
    by_cases hik : i = k
    · subst hik
      rw [List.getElem?_set_self (by omega)] at hzi
      injection hzi with hzi
      subst hzi
      rw [htk] at hti
      injection hti with hti
      subst hti
      have h3 := hel i (x, o) (List.getElem?_zip_eq_some.2 ⟨hLk, htk⟩)
      obtain ⟨A3, n3, c3, e3, j1, j2, hoI3, hown3, hS3⟩ := h3
      dsimp only at j1 j2 hoI3 hown3 hS3
      have hc3 := hx.cellAt (g := g) (i * 3) (by omega)
      have hw0 : xs[i * 3]? = some (.slice A3 n3 c3) := by
        have := congrArg (fun l => l[0]?) e3
        simp only [List.getElem?_cons_zero] at this
        rw [List.getElem?_take, if_pos (by omega), List.getElem?_drop, Nat.add_zero] at this
        exact this
      have hsame : (some (Value.slice A3 n3 c3)) = some (.slice (some ⟨g', 0, none⟩) n' c') := by
        rw [← hw0]
        exact hc3.symm.trans hcell0
      injection hsame with hsame
      rw [hsame] at e3 hown3
      refine ⟨some ⟨g', 0, none⟩, n', c', e3, j1, j2, hin, hown3, fun b e => ?_⟩
      have := hS3 b e
      exact ⟨this.1, by rw [set_size]; exact this.2.1, this.2.2⟩
    · rw [List.getElem?_set_ne (by omega)] at hzi
      have h3 := hel i (z, oz) (List.getElem?_zip_eq_some.2 ⟨hzi, hti⟩)
      obtain ⟨A3, n3, c3, e3, j1, j2, hoI3, hown3, hS3⟩ := h3
      dsimp only at j1 j2 hoI3 hown3 hS3
      refine ⟨A3, n3, c3, e3, j1, j2, ow_int_move hoI3 (fun b e => put_blk _ _ _ _ (fun e2 => hik (hp i k g' ?_ ?_))), hown3, fun b e => ?_⟩
      · dsimp only at e2
        rw [hti, ← hown3, e, e2]
      · rw [htk, hto]
      · have := hS3 b e
        exact ⟨this.1, by rw [set_size]; exact this.2.1, this.2.2⟩

end Go.Proofs.YtjlppkbmapmbiaaDoor
