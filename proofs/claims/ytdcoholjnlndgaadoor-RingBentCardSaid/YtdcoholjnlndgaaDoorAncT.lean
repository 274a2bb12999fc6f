/-
  Homes that are owned, each with its own places; slices.Clone over homes and ints; contract: anchor.Twin.
-/
import Derived.Test.YtdcoholjnlndgaaDoorAncW
import Derived.Deep.RegionLaw
import Derived.Deep.DeepCutAuto
namespace Go.Proofs.YtdcoholjnlndgaaDoor
open Go.RowKit Go.Lib
set_option linter.unusedVariables false
set_option maxRecDepth 100000

theorem ow_int_move {w w' : World} {base lo : Nat} {e : TypeId} {V : Value} {n : Nat} {L : List Int} (h : Ow intR 1 w base lo e V n L) (hk : ∀ k, V.ownBlock = some k → w'.heap[k]? = w.heap[k]?) : Ow intR 1 w' base lo e V n L := by
  obtain ⟨hl, xs, ⟨h0, h1⟩, h2, h3⟩ := h
  refine ⟨hl, xs, ⟨h0, ?_⟩, h2, fun i x hx => h3 i x hx⟩
  rcases h1 with h1 | ⟨g, cap, cur, hv, hb, hg, r⟩
  · exact .inl h1
  · exact .inr ⟨g, cap, cur, hv, hb, (hk g (by rw [hv]; rfl)).trans hg, r⟩

/-- A home whose places are the call's own, and the block where they lie. -/
def homO (eI : TypeId) : Rp (Hom × Option Nat) := fun w S cs x => ∃ A n c, cs = [.slice A n c, .int .i64 x.1.next, .int .i64 x.1.root] ∧ InI x.1.next ∧ InI x.1.root ∧ Ow intR 1 w 0 0 eI (.slice A n c) n x.1.places ∧ (Value.slice A n c).ownBlock = x.2 ∧ ∀ k, x.2 = some k → S k
theorem homO_fine (eI : TypeId) : Fine (homO eI) 3 where
  size := by rintro _ _ _ _ ⟨A, n, c, rfl, _⟩; rfl
  one := by rintro _ _ _ _ ⟨A, n, c, rfl, _⟩ u hu; simp at hu; rcases hu with rfl | rfl | rfl <;> rfl
  move := by
    rintro w w' S S' _ x ⟨A, n, c, rfl, h1, h2, ho, hx, hk⟩ hm hS
    exact ⟨A, n, c, rfl, h1, h2, ow_int_move ho (fun k e => hm k (hk k (by rw [← hx, e]))), hx, fun k e => hS k (hk k e)⟩
/-- The same, or a home that is not the call's own. -/
def homM (eI : TypeId) (B0 : Nat) : Rp (Hom × Option (Option Nat)) := fun w S cs x => match x.2 with
  | none => homR w (fun b => S b ∧ b < B0) cs x.1
  | some o => homO eI w S cs (x.1, o)
theorem homM_fine (eI : TypeId) (B0 : Nat) : Fine (homM eI B0) 3 where
  size := by
    rintro w S cs ⟨h, o⟩ hr
    cases o with
    | none => exact homR_fine.size hr
    | some o => exact (homO_fine eI).size hr
  one := by
    rintro w S cs ⟨h, o⟩ hr
    cases o with
    | none => exact homR_fine.one hr
    | some o => exact (homO_fine eI).one hr
  move := by
    rintro w w' S S' cs ⟨h, o⟩ hr hm hS
    cases o with
    | none => exact homR_fine.move hr (fun b hb => hm b hb.1) (fun b hb => ⟨hS b hb.1, hb.2⟩)
    | some o => exact (homO_fine eI).move hr hm hS

/-- Homes, the first ones with their own places. -/
def mixL : List Hom → List (Option Nat) → List (Hom × Option (Option Nat))
  | h :: L, o :: t => (h, some o) :: mixL L t
  | h :: L, [] => (h, none) :: mixL L []
  | [], _ => []
theorem mixL_len (L : List Hom) (t : List (Option Nat)) : (mixL L t).length = L.length := by
  induction L generalizing t with
  | nil => rfl
  | cons h L ih => cases t <;> simp [mixL, ih]
theorem mixL_nil (L : List Hom) : mixL L [] = L.map fun h => (h, none) := by
  induction L with
  | nil => rfl
  | cons h L ih => simp [mixL, ih]
theorem mixL_ge {L : List Hom} {t : List (Option Nat)} {k : Nat} {h : Hom} (hk : t.length ≤ k) (hx : L[k]? = some h) : (mixL L t)[k]? = some (h, none) := by
  induction L generalizing t k with
  | nil => simp at hx
  | cons a L ih =>
    cases t with
    | nil => rw [mixL_nil, List.getElem?_map, hx]; rfl
    | cons o t =>
      cases k with
      | zero => simp at hk
      | succ k => exact ih (by simpa using hk) (by simpa using hx)
theorem mixL_lt {L : List Hom} {t : List (Option Nat)} {k : Nat} {h : Hom} {o : Option Nat} (ht : t[k]? = some o) (hx : L[k]? = some h) : (mixL L t)[k]? = some (h, some o) := by
  induction L generalizing t k with
  | nil => simp at hx
  | cons a L ih =>
    cases t with
    | nil => simp at ht
    | cons o' t =>
      cases k with
      | zero => simp at ht hx; subst ht; subst hx; rfl
      | succ k => exact ih (by simpa using ht) (by simpa using hx)
theorem mixL_set {L : List Hom} {t : List (Option Nat)} {k : Nat} {h : Hom} (o : Option Nat) (hk : t.length = k) (hx : L[k]? = some h) : (mixL L t).set k (h, some o) = mixL L (t ++ [o]) := by
  induction L generalizing t k with
  | nil => simp at hx
  | cons a L ih =>
    cases t with
    | nil =>
      simp at hk
      subst hk
      simp at hx
      subst hx
      rfl
    | cons o' t =>
      cases k with
      | zero => simp at hk
      | succ k =>
        show (a, some o') :: (mixL L t).set k (h, some o) = (a, some o') :: mixL L (t ++ [o])
        rw [ih (by simpa using hk) (by simpa using hx)]

/-- The owned blocks, no two alike. -/
def PartedH (t : List (Option Nat)) : Prop := ∀ (i j b : Nat), t[i]? = some (some b) → t[j]? = some (some b) → i = j
theorem PartedH.nil_ : PartedH [] := by intro i j b h; simp at h
theorem PartedH.snoc {t : List (Option Nat)} (h : PartedH t) {o : Option Nat} (ho : ∀ b, o = some b → some b ∉ t) : PartedH (t ++ [o]) := by
  have key : ∀ i b, (t ++ [o])[i]? = some (some b) → (i < t.length ∧ t[i]? = some (some b)) ∨ (i = t.length ∧ o = some b) := fun i b hi => by
    by_cases hl : i < t.length
    · rw [List.getElem?_append_left hl] at hi; exact .inl ⟨hl, hi⟩
    · rw [List.getElem?_append_right (by omega)] at hi
      have h1 := (List.getElem?_eq_some_iff.1 hi).1
      simp at h1
      have h2 : i - t.length = 0 := by omega
      rw [h2] at hi
      simp at hi
      exact .inr ⟨by omega, hi⟩
  intro i j b hi hj
  rcases key i b hi with ⟨_, h1⟩ | ⟨h1, e1⟩
  · rcases key j b hj with ⟨_, h2⟩ | ⟨h2, e2⟩
    · exact h i j b h1 h2
    · exact absurd (List.mem_of_getElem? h1) (ho b e2)
  · rcases key j b hj with ⟨_, h2⟩ | ⟨h2, e2⟩
    · exact absurd (List.mem_of_getElem? h2) (ho b e1)
    · omega

/-- Homes that the call owns whole, from block B on. -/
def HOwn (eH eI : TypeId) (w : World) (B : Nat) (V : Value) (n : Nat) (L : List Hom) : Prop := ∃ t, t.length = L.length ∧ Ow (homO eI) 3 w B B eH V n (L.zip t) ∧ PartedH t
theorem mix_done {eH eI : TypeId} {w : World} {B B0 : Nat} {V : Value} {n : Nat} {L : List Hom} {t : List (Option Nat)} (h : Ow (homM eI B0) 3 w B 0 eH V n (mixL L t)) (ht : t.length = L.length) (hB : ∀ b, some b ∈ t → B ≤ b) (hp : PartedH t) : HOwn eH eI w B V n L := by
  refine ⟨t, ht, ?_, hp⟩
  obtain ⟨hl, xs, hx, h1, hel⟩ := h
  rw [mixL_len] at hl
  refine ⟨by rw [List.length_zip, ht]; omega, xs, hx, h1, fun i x hi => ?_⟩
  obtain ⟨y, o⟩ := x
  rw [List.getElem?_zip_eq_some] at hi
  have h2 := hel i (y, some o) (mixL_lt hi.2 hi.1)
  have h3 : homO eI w (But w 0 V) _ (y, o) := h2
  obtain ⟨A, m, c, e, i1, i2, ho, hx, hk⟩ := h3
  exact ⟨A, m, c, e, i1, i2, ho, hx, fun k e => ⟨hB k (by have := List.mem_of_getElem? hi.2; simp only at e; rw [e] at this; exact this), (hk k e).2.1, (hk k e).2.2⟩⟩
theorem mixPut {eH eI : TypeId} {w : World} {B B0 : Nat} {V : Value} {n : Nat} {L : List Hom} (h : Ow (homM eI B0) 3 w B 0 eH V n (mixL L [])) (p : Addr) (v : Value) (hp : p.block < B) (hp0 : B0 ≤ p.block) : Ow (homM eI B0) 3 (w.setCell p v) B 0 eH V n (mixL L []) := by
  obtain ⟨hl, xs, hx, h1, hel⟩ := h
  have hlt := hx.lt
  refine ⟨hl, xs, hx.kept (put_grown w p v) (.inr fun e => by have := (hlt _ e).1; omega), h1, fun i x hi => ?_⟩
  have h2 := hel i x hi
  rw [mixL_nil, List.getElem?_map] at hi
  cases hL : L[i]? with
  | none => rw [hL] at hi; cases hi
  | some y =>
    rw [hL] at hi
    simp at hi
    subst hi
    have h3 : homR w (fun b => But w 0 V b ∧ b < B0) _ y := h2
    exact homR_fine.move h3 (fun b hb => put_blk _ _ _ _ (by have := hb.2; omega)) (fun b hb => ⟨⟨hb.1.1, by rw [set_size]; exact hb.1.2.1, hb.1.2.2⟩, hb.2⟩)
theorem zip_fst {L : List Hom} {t : List (Option Nat)} (ht : t.length = L.length) {i : Nat} {h : Hom} (hi : L[i]? = some h) : ∃ o, t[i]? = some o ∧ (L.zip t)[i]? = some (h, o) := by
  have hl := (List.getElem?_eq_some_iff.1 hi).1
  obtain ⟨o, ho⟩ : ∃ o, t[i]? = some o := ⟨_, List.getElem?_eq_getElem (by omega)⟩
  exact ⟨o, ho, by rw [List.getElem?_zip_eq_some]; exact ⟨hi, ho⟩⟩
/-- What is owned reads. -/
theorem HOwn.read {eH eI : TypeId} {w : World} {B : Nat} {A : Option Addr} {n c : Nat} {L : List Hom} (h : HOwn eH eI w B (.slice A n c) n L) : Sl homR 3 w (New B w) A n c L := by
  obtain ⟨t, ht, ho, _⟩ := h
  have hr := ho.new_ (homO_fine eI) (Nat.le_refl _) (Nat.le_refl _)
  have hl : L.length = n := by have := hr.len; rw [List.length_zip, ht] at this; omega
  refine ⟨hl, hr.cap, fun hn => ?_⟩
  obtain ⟨ad, e, hb, hc⟩ := hr.at0 hn
  refine ⟨ad, e, hb, fun i x hx => ?_⟩
  obtain ⟨o, _, ho2⟩ := zip_fst ht hx
  obtain ⟨cs, ⟨A', n', c', e1, i1, i2, hoI, hown, hk⟩, hat⟩ := hc i (x, o) ho2
  refine ⟨cs, ⟨A', n', c', e1, i1, i2, ?_⟩, hat⟩
  have hrI := hoI.read intR_fine
  refine ⟨hrI.len, hrI.cap, fun hn' => ?_⟩
  obtain ⟨ad', e', hb', hc'⟩ := hrI.at0 hn'
  refine ⟨ad', e', hk ad'.block (by rw [← hown, e']; rfl), hc'⟩
theorem HOwn.below {eH eI : TypeId} {w w' : World} {B : Nat} {V : Value} {n : Nat} {L : List Hom} (h : HOwn eH eI w B V n L) (hb : Below w.heap.size w w') : HOwn eH eI w' B V n L := by
  obtain ⟨t, ht, ho, hp⟩ := h
  exact ⟨t, ht, ho.below (homO_fine eI) hb, hp⟩
theorem HOwn.put {eH eI : TypeId} {w : World} {B : Nat} {V : Value} {n : Nat} {L : List Hom} (h : HOwn eH eI w B V n L) (p : Addr) (v : Value) (hp : p.block < B) : HOwn eH eI (w.setCell p v) B V n L := by
  obtain ⟨t, ht, ho, hp2⟩ := h
  exact ⟨t, ht, ho.kept (rw := some p.block) (homO_fine eI) (put_grown w p v) (.inr fun e => by have := (ho.lt _ e).1; omega) (fun b hb => put_blk _ _ _ _ (by have := hb.1; omega)), hp2⟩
theorem HOwn.put7 {eH eI : TypeId} {w : World} {B N : Nat} {V : Value} {n : Nat} {L : List Hom} (h : HOwn eH eI w B V n L) (hN : N < B) (v0 v1 v2 v3 v4 v5 v6 : Value) : HOwn eH eI (put7 w N v0 v1 v2 v3 v4 v5 v6) B V n L :=
  ((((((h.put ⟨N, 0, none⟩ v0 hN).put ⟨N, 1, none⟩ v1 hN).put ⟨N, 2, none⟩ v2 hN).put ⟨N, 3, none⟩ v3 hN).put ⟨N, 4, none⟩ v4 hN).put ⟨N, 5, none⟩ v5 hN).put ⟨N, 6, none⟩ v6 hN
theorem HOwn.less {eH eI : TypeId} {w : World} {B B' : Nat} {V : Value} {n : Nat} {L : List Hom} (h : HOwn eH eI w B V n L) (hb : B' ≤ B) : HOwn eH eI w B' V n L := by
  obtain ⟨t, ht, ho, hp⟩ := h
  exact ⟨t, ht, ho.less (homO_fine eI) hb hb, hp⟩
theorem HOwn.nil_ (eH eI : TypeId) (w : World) (B : Nat) : HOwn eH eI w B (.slice none 0 0) 0 [] := ⟨[], rfl, Ow.nil_ _ _ _ _, PartedH.nil_⟩
theorem HOwn.form {eH eI : TypeId} {w : World} {B : Nat} {V : Value} {n : Nat} {L : List Hom} (h : HOwn eH eI w B V n L) : ∃ A c, V = .slice A n c := by
  obtain ⟨t, ht, ho, hp⟩ := h
  exact ho.form

end Go.Proofs.YtdcoholjnlndgaaDoor

namespace Go.Proofs.YtdcoholjnlndgaaDoor
open Go.RowKit Go.Lib
set_option linter.unusedVariables false
set_option maxRecDepth 100000

theorem put_cell_other {w : World} {p q : Addr} {v u : Value} (hne : q.block ≠ p.block) (h : w.cell? q = some u) : (w.setCell p v).cell? q = some u :=
  (World.cell?_of_block (put_blk w p v q.block hne)).trans h

/-- One home of the clone is given places of its own. -/
theorem spot_home {w : World} {B B0 : Nat} {e eI : TypeId} {A : Option Addr} {n c : Nat} {L : List Hom} {t : List (Option Nat)} (h : Ow (homM eI B0) 3 w B 0 e (.slice A n c) n (mixL L t)) {k : Nat} (hk : k < n) (ht : t.length = k) :
    ∃ g x A0 n0 c0, A = some ⟨g, 0, none⟩ ∧ B ≤ g ∧ g < w.heap.size ∧ L[k]? = some x ∧ Is w A0 n0 c0 x.places ∧ w.cell? ⟨g, k * 3, none⟩ = some (.slice A0 n0 c0) ∧ w.frozen? ⟨g, k * 3, none⟩ = false ∧
      ∀ w', Below w.heap.size w w' → ∀ U cu o, Ow intR 1 w' 0 0 eI (.slice U n0 cu) n0 x.places → (Value.slice U n0 cu).ownBlock = o → (∀ b, o = some b → w.heap.size ≤ b ∧ b < w'.heap.size) → Ow (homM eI B0) 3 (w'.setCell ⟨g, k * 3, none⟩ (.slice U n0 cu)) B 0 e (.slice A n c) n (mixL L (t ++ [o])) := by
  have hl := h.len
  rw [mixL_len] at hl
  have hx : L[k]? = some (L[k]'(by omega)) := List.getElem?_eq_getElem (by omega)
  obtain ⟨g, y, cs, u, rfl, hg, hgl, hy, hr, hu, hcell, hfr, _⟩ := h.spotN (homM_fine eI B0) hk (show 0 < 3 by omega)
  rw [mixL_ge (by omega) hx] at hy
  injection hy with hy
  subst hy
  obtain ⟨A0, n0, c0, rfl, i1, i2, hs⟩ : homR w (fun b => But w 0 (.slice (some ⟨g, 0, none⟩) n c) b ∧ b < B0) cs L[k] := hr
  simp at hu
  subst hu
  refine ⟨g, _, A0, n0, c0, rfl, hg, hgl, hx, hs.move intR_fine (fun _ _ => rfl) (fun b hb => hb.1.2.1), hcell, hfr, fun w' hb U cu o hU ho hob => ?_⟩
  have h' := h.below (homM_fine eI B0) hb
  obtain ⟨g', y', cs', u', e', _, _, hy', hr', hu', hcell', _, hst⟩ := h'.spotN (homM_fine eI B0) hk (show 0 < 3 by omega)
  injection e' with e'
  injection e' with e'
  subst e'
  rw [mixL_ge (by omega) hx] at hy'
  injection hy' with hy'
  subst hy'
  obtain ⟨A1, n1, c1, rfl, _, _, hs1⟩ : homR w' (fun b => But w' 0 (.slice (some ⟨g, 0, none⟩) n c) b ∧ b < B0) cs' L[k] := hr'
  have hfin := hst (.slice U n0 cu) (L[k], some o) rfl ⟨U, n0, cu, rfl, i1, i2, hU, ho, fun b hb2 => ⟨Nat.zero_le _, (hob b hb2).2, by have := (hob b hb2).1; simp [Value.ownBlock]; omega⟩⟩
  rwa [mixL_set o ht hx] at hfin

/-- What anchor.Twin hands back. -/
def ATwinPost (w : World) (a : Anc) (n : Nat) (e : Ending) (w' : World) : Prop := Below w.heap.size w w' ∧ ∃ V c, e = .returned (a.v (.slice V n c)) ∧ HOwn 59 3 w' (w.heap.size + 2) (.slice V n c) n a.homes

end Go.Proofs.YtdcoholjnlndgaaDoor
