/-
  Homes that are owned, each with its own places; slices.Clone over homes and ints; contract: anchor.Twin.
-/
import Derived.Test.YtjlppkbmapmbiaaDoorAncW
import Derived.Deep.RegionLaw
import Derived.Deep.DeepCutAuto
namespace Go.Proofs.YtjlppkbmapmbiaaDoor
open Go.RowKit Go.Lib
set_option linter.unusedVariables false
set_option maxRecDepth 100000

theorem ow_int_move {w w' : World} {base lo : Nat} {e : TypeId} {V : Value} {n : Nat} {L : List Int} (h : Ow intR 1 w base lo e V n L) (hk : ∀ k, V.ownBlock = some k → w'.heap[k]? = w.heap[k]?) : Ow intR 1 w' base lo e V n L := by
  obtain ⟨hl, xs, ⟨h0, h1⟩, h2, h3⟩ := h
  refine ⟨hl, xs, ⟨h0, ?_⟩, h2, fun i x hx => h3 i x hx⟩
  rcases h1 with h1 | ⟨g, cap, cur, hv, hb, hg, r⟩
  · exact .inl h1
  · exact .inr ⟨g, cap, cur, hv, hb, (hk g (by rw [hv]; rfl)).trans hg, r⟩

/-- A home whose places are the call's own, and the block where they lie. -/
def homO (eI : TypeId) : Rp (Hom × Option Nat) := fun w S cs x => ∃ A n c, cs = [.slice A n c, .int .i64 x.1.next, .int .i64 x.1.root] ∧ InI x.1.next ∧ InI x.1.root ∧ Ow intR 1 w 0 0 eI (.slice A n c) n x.1.places ∧ (Value.slice A n c).ownBlock = x.2 ∧ ∀ k, x.2 = some k → S k
theorem homO_fine (eI : TypeId) : Fine (homO eI) 3 where
  size := by rintro _ _ _ _ ⟨A, n, c, rfl, _⟩; rfl
  one := by rintro _ _ _ _ ⟨A, n, c, rfl, _⟩ u hu; simp at hu; rcases hu with rfl | rfl | rfl <;> rfl
  move := by
    rintro w w' S S' _ x ⟨A, n, c, rfl, h1, h2, ho, hx, hk⟩ hm hS
    exact ⟨A, n, c, rfl, h1, h2, ow_int_move ho (fun k e => hm k (hk k (by rw [← hx, e]))), hx, fun k e => hS k (hk k e)⟩
/-- The same, or a home that is not the call's own. -/
def homM (eI : TypeId) (B0 : Nat) : Rp (Hom × Option (Option Nat)) := fun w S cs x => match x.2 with
  | none => homR w (fun b => S b ∧ b < B0) cs x.1
  | some o => homO eI w S cs (x.1, o)
theorem homM_fine (eI : TypeId) (B0 : Nat) : Fine (homM eI B0) 3 where
  size := by
    rintro w S cs ⟨h, o⟩ hr
    cases o with
    | none => exact homR_fine.size hr
    | some o => exact (homO_fine eI).size hr
  one := by
    rintro w S cs ⟨h, o⟩ hr
    cases o with
    | none => exact homR_fine.one hr
    | some o => exact (homO_fine eI).one hr
  move := by
    rintro w w' S S' cs ⟨h, o⟩ hr hm hS
    cases o with
    | none => exact homR_fine.move hr (fun b hb => hm b hb.1) (fun b hb => ⟨hS b hb.1, hb.2⟩)
    | some o => exact (homO_fine eI).move hr hm hS

/-- Homes, the first ones with their own places. -/
def mixL : List Hom → List (Option Nat) → List (Hom × Option (Option Nat))
  | h :: L, o :: t => (h, some o) :: mixL L t
  | h :: L, [] => (h, none) :: mixL L []
  | [], _ => []
theorem mixL_len (L : List Hom) (t : List (Option Nat)) : (mixL L t).length = L.length := by
  induction L generalizing t with
  | nil => rfl
  | cons h L ih => cases t <;> simp [mixL, ih]
theorem mixL_nil (L : List Hom) : mixL L [] = L.map fun h => (h, none) := by
  induction L with
  | nil => rfl
  | cons h L ih => simp [mixL, ih]
theorem mixL_ge {L : List Hom} {t : List (Option Nat)} {k : Nat} {h : Hom} (hk : t.length ≤ k) (hx : L[k]? = some h) : (mixL L t)[k]? = some (h, none) := by
  induction L generalizing t k with
  | nil => simp at hx
  | cons a L ih =>
    cases t with
    | nil => rw [mixL_nil, List.getElem?_map, hx]; rfl
    | cons o t =>
      cases k with
      | zero => simp at hk
      | succ k => exact ih (by simpa using hk) (by simpa using hx)
theorem mixL_lt {L : List Hom} {t : List (Option Nat)} {k : Nat} {h : Hom} {o : Option Nat} (ht : t[k]? = some o) (hx : L[k]? = some h) : (mixL L t)[k]? = some (h, some o) := by
  induction L generalizing t k with
  | nil => simp at hx
  | cons a L ih =>
    cases t with
    | nil => simp at ht
    | cons o' t =>
      cases k with
      | zero => simp at ht hx; subst ht; subst hx; rfl
      | succ k => exact ih (by simpa using ht) (by simpa using hx)
theorem mixL_set {L : List Hom} {t : List (Option Nat)} {k : Nat} {h : Hom} (o : Option Nat) (hk : t.length = k) (hx : L[k]? = some h) : (mixL L t).set k (h, some o) = mixL L (t ++ [o]) := by
  induction L generalizing t k with
  | nil => simp at hx
  | cons a L ih =>
    cases t with
    | nil =>
      simp at hk
      subst hk
      simp at hx
      subst hx
      rfl
    | cons o' t =>
      cases k with
      | zero => simp at hk
      | succ k =>
        show (a, some o') :: (mixL L t).set k (h, some o) = (a, some o') :: mixL L (t ++ [o])
        rw [ih (by simpa using hk) (by simpa using hx)]

/-- The owned blocks, no two alike. -/
def PartedH (t : List (Option Nat)) : Prop := ∀ (i j b : Nat), t[i]? = some (some b) → t[j]? = some (some b) → i = j
theorem PartedH.nil_ : PartedH [] := by intro i j b h; simp at h
theorem PartedH.snoc {t : List (Option Nat)} (h : PartedH t) {o : Option Nat} (ho : ∀ b, o = some b → some b ∉ t) : PartedH (t ++ [o]) := by
  have key : ∀ i b, (t ++ [o])[i]? = some (some b) → (i < t.length ∧ t[i]? = some (some b)) ∨ (i = t.length ∧ o = some b) := fun i b hi => by
    by_cases hl : i < t.length
    · rw [List.getElem?_append_left hl] at hi; exact .inl ⟨hl, hi⟩
    · rw [List.getElem?_append_right (by omega)] at hi
      have h1 := (List.getElem?_eq_some_iff.1 hi).1
      simp at h1
      have h2 : i - t.length = 0 := by omega
      rw [h2] at hi
      simp at hi
      exact .inr ⟨by omega, hi⟩
  intro i j b hi hj
  rcases key i b hi with ⟨_, h1⟩ | ⟨h1, e1⟩
  · rcases key j b hj with ⟨_, h2⟩ | ⟨h2, e2⟩
    · exact h i j b h1 h2
    · exact absurd (List.mem_of_getElem? h1) (ho b e2)
  · rcases key j b hj with ⟨_, h2⟩ | ⟨h2, e2⟩
    · exact absurd (List.mem_of_getElem? h2) (ho b e1)
    · omega

/-- Homes that the call owns whole, from block B on. -/
def HOwn (eH eI : TypeId) (w : World) (B : Nat) (V : Value) (n : Nat) (L : List Hom) : Prop := ∃ t, t.length = L.length ∧ Ow (homO eI) 3 w B B eH V n (L.zip t) ∧ PartedH t
theorem mix_done {eH eI : TypeId} {w : World} {B B0 : Nat} {V : Value} {n : Nat} {L : List Hom} {t : List (Option Nat)} (h : Ow (homM eI B0) 3 w B 0 eH V n (mixL L t)) (ht : t.length = L.length) (hB : ∀ b, some b ∈ t → B ≤ b) (hp : PartedH t) : HOwn eH eI w B V n L := by
  refine ⟨t, ht, ?_, hp⟩
  obtain ⟨hl, xs, hx, h1, hel⟩ := h
  rw [mixL_len] at hl
  refine ⟨by rw [List.length_zip, ht]; omega, xs, hx, h1, fun i x hi => ?_⟩
  obtain ⟨y, o⟩ := x
  rw [List.getElem?_zip_eq_some] at hi
  have h2 := hel i (y, some o) (mixL_lt hi.2 hi.1)
  have h3 : homO eI w (But w 0 V) _ (y, o) := h2
  obtain ⟨A, m, c, e, i1, i2, ho, hx, hk⟩ := h3
  exact ⟨A, m, c, e, i1, i2, ho, hx, fun k e => ⟨hB k (by have := List.mem_of_getElem? hi.2; simp only at e; rw [e] at this; exact this), (hk k e).2.1, (hk k e).2.2⟩⟩
theorem mixPut {eH eI : TypeId} {w : World} {B B0 : Nat} {V : Value} {n : Nat} {L : List Hom} (h : Ow (homM eI B0) 3 w B 0 eH V n (mixL L [])) (p : Addr) (v : Value) (hp : p.block < B) (hp0 : B0 ≤ p.block) : Ow (homM eI B0) 3 (w.setCell p v) B 0 eH V n (mixL L []) := by
  obtain ⟨hl, xs, hx, h1, hel⟩ := h
  have hlt := hx.lt
  refine ⟨hl, xs, hx.kept (put_grown w p v) (.inr fun e => by have := (hlt _ e).1; omega), h1, fun i x hi => ?_⟩
  have h2 := hel i x hi
  rw [mixL_nil, List.getElem?_map] at hi
  cases hL : L[i]? with
  | none => rw [hL] at hi; cases hi
  | some y =>
    rw [hL] at hi
    simp at hi
    subst hi
    have h3 : homR w (fun b => But w 0 V b ∧ b < B0) _ y := h2
    exact homR_fine.move h3 (fun b hb => put_blk _ _ _ _ (by have := hb.2; omega)) (fun b hb => ⟨⟨hb.1.1, by rw [set_size]; exact hb.1.2.1, hb.1.2.2⟩, hb.2⟩)
theorem zip_fst {L : List Hom} {t : List (Option Nat)} (ht : t.length = L.length) {i : Nat} {h : Hom} (hi : L[i]? = some h) : ∃ o, t[i]? = some o ∧ (L.zip t)[i]? = some (h, o) := by
  have hl := (List.getElem?_eq_some_iff.1 hi).1
  obtain ⟨o, ho⟩ : ∃ o, t[i]? = some o := ⟨_, List.getElem?_eq_getElem (by omega)⟩
  exact ⟨o, ho, by rw [List.getElem?_zip_eq_some]; exact ⟨hi, ho⟩⟩
/-- What is owned reads. -/
theorem HOwn.read {eH eI : TypeId} {w : World} {B : Nat} {A : Option Addr} {n c : Nat} {L : List Hom} (h : HOwn eH eI w B (.slice A n c) n L) : Sl homR 3 w (New B w) A n c L := by
  obtain ⟨t, ht, ho, _⟩ := h
  have hr := ho.new_ (homO_fine eI) (Nat.le_refl _) (Nat.le_refl _)
  have hl : L.length = n := by have := hr.len; rw [List.length_zip, ht] at this; omega
  refine ⟨hl, hr.cap, fun hn => ?_⟩
  obtain ⟨ad, e, hb, hc⟩ := hr.at0 hn
  refine ⟨ad, e, hb, fun i x hx => ?_⟩
  obtain ⟨o, _, ho2⟩ := zip_fst ht hx
  obtain ⟨cs, ⟨A', n', c', e1, i1, i2, hoI, hown, hk⟩, hat⟩ := hc i (x, o) ho2
  refine ⟨cs, ⟨A', n', c', e1, i1, i2, ?_⟩, hat⟩
  have hrI := hoI.read intR_fine
  refine ⟨hrI.len, hrI.cap, fun hn' => ?_⟩
  obtain ⟨ad', e', hb', hc'⟩ := hrI.at0 hn'
  refine ⟨ad', e', hk ad'.block (by rw [← hown, e']; rfl), hc'⟩
theorem HOwn.below {eH eI : TypeId} {w w' : World} {B : Nat} {V : Value} {n : Nat} {L : List Hom} (h : HOwn eH eI w B V n L) (hb : Below w.heap.size w w') : HOwn eH eI w' B V n L := by
  obtain ⟨t, ht, ho, hp⟩ := h
  exact ⟨t, ht, ho.below (homO_fine eI) hb, hp⟩
theorem HOwn.put {eH eI : TypeId} {w : World} {B : Nat} {V : Value} {n : Nat} {L : List Hom} (h : HOwn eH eI w B V n L) (p : Addr) (v : Value) (hp : p.block < B) : HOwn eH eI (w.setCell p v) B V n L := by
  obtain ⟨t, ht, ho, hp2⟩ := h
  exact ⟨t, ht, ho.kept (rw := some p.block) (homO_fine eI) (put_grown w p v) (.inr fun e => by have := (ho.lt _ e).1; omega) (fun b hb => put_blk _ _ _ _ (by have := hb.1; omega)), hp2⟩
theorem HOwn.put7 {eH eI : TypeId} {w : World} {B N : Nat} {V : Value} {n : Nat} {L : List Hom} (h : HOwn eH eI w B V n L) (hN : N < B) (v0 v1 v2 v3 v4 v5 v6 : Value) : HOwn eH eI (put7 w N v0 v1 v2 v3 v4 v5 v6) B V n L :=
  ((((((h.put ⟨N, 0, none⟩ v0 hN).put ⟨N, 1, none⟩ v1 hN).put ⟨N, 2, none⟩ v2 hN).put ⟨N, 3, none⟩ v3 hN).put ⟨N, 4, none⟩ v4 hN).put ⟨N, 5, none⟩ v5 hN).put ⟨N, 6, none⟩ v6 hN
theorem HOwn.less {eH eI : TypeId} {w : World} {B B' : Nat} {V : Value} {n : Nat} {L : List Hom} (h : HOwn eH eI w B V n L) (hb : B' ≤ B) : HOwn eH eI w B' V n L := by
  obtain ⟨t, ht, ho, hp⟩ := h
  exact ⟨t, ht, ho.less (homO_fine eI) hb hb, hp⟩
theorem HOwn.nil_ (eH eI : TypeId) (w : World) (B : Nat) : HOwn eH eI w B (.slice none 0 0) 0 [] := ⟨[], rfl, Ow.nil_ _ _ _ _, PartedH.nil_⟩
theorem HOwn.form {eH eI : TypeId} {w : World} {B : Nat} {V : Value} {n : Nat} {L : List Hom} (h : HOwn eH eI w B V n L) : ∃ A c, V = .slice A n c := by
  obtain ⟨t, ht, ho, hp⟩ := h
  exact ho.form

set_option maxHeartbeats 1000000 in
theorem cloneh_any (A : Option Addr) (n c : Nat) (L : List Hom) (w : World) (B0 : Nat) (ha : Sl homR 3 w (fun b => b < B0) A n c L) (hB0 : B0 ≤ w.heap.size) (hn : n ≤ 65536) :
    Calls Tryd.prog 21 #[.slice A n c] w fun e w' => ∃ A' c', e = .returned (.slice A' n c') ∧ Ow (homM 3 B0) 3 w' w.heap.size 0 45 (.slice A' n c') n (mixL L []) ∧ Below w.heap.size w w' := by
  obtain ⟨i0, hi0, hz0, hz1, hz2⟩ := info_parts hom_info
  have heq := fun W => Lib.run_eql_slice_nil (P := Tryd.prog) W 26 45 A n c 0 0 Tryd.underlying26
  cases A with
  | none =>
    obtain ⟨rfl, rfl⟩ := sl_none ha
    go_enter Tryd.func21, Tryd.ntmps21
    go_wp2
    go_ret
    exact ⟨none, 0, rfl, Ow.nil_ _ _ _ _, Below.refl _ _⟩
  | some ad =>
    have hb0 : Below w.heap.size w (w.alloc (.cells #[] 45)) := (Below.refl _ _).alloc (Nat.le_refl _) _
    have ho0 : Ow (homM 3 B0) 3 (w.alloc (.cells #[] 45)) w.heap.size 0 45 (.slice (some ⟨w.heap.size, 0, none⟩) 0 0) 0 [] := Ow.made w #[] (by simp) (by simp) rfl (by simp) (fun i x hx => by simp at hx) (homM_fine _ _)
    have ha0 : Sl (homM 3 B0) 3 (w.alloc (.cells #[] 45)) (fun b => b < w.heap.size) (some ad) n c (mixL L []) := by
      rw [mixL_nil]
      have h1 := ha.move (w' := w.alloc (.cells #[] 45)) (S' := fun b => b < w.heap.size ∧ b < B0) homR_fine (fun b hb => hb0.block b (Nat.lt_of_lt_of_le hb hB0)) (fun b hb => ⟨Nat.lt_of_lt_of_le hb hB0, hb⟩)
      refine ⟨by rw [List.length_map]; exact h1.len, h1.cap, fun hn => ?_⟩
      obtain ⟨ad', e, hb, hc⟩ := h1.at0 hn
      refine ⟨ad', e, hb.1, fun i x hx => ?_⟩
      rw [List.getElem?_map] at hx
      cases hL : L[i]? with
      | none => rw [hL] at hx; cases hx
      | some h =>
        rw [hL] at hx
        simp at hx
        subst hx
        exact hc i h hL
    have hel : ∀ cs x, x ∈ mixL L [] → homM 3 B0 (w.alloc (.cells #[] 45)) (fun b => b < w.heap.size) cs x → homM 3 B0 (w.alloc (.cells #[] 45)) (But (w.alloc (.cells #[] 45)) 0 (.slice (some ⟨w.heap.size, 0, none⟩) 0 0)) cs x := fun cs x _ hr => (homM_fine _ _).move hr (fun _ _ => rfl) (fun b hb => ⟨Nat.zero_le _, by simp; omega, by simp [Value.ownBlock]; omega⟩)
    go_enter Tryd.func21, Tryd.ntmps21
    go_wp2_with (at_builtin; go_loud (refine wpList_append_ow _ rfl (.tmp 5) (.tmp 6) _ rfl (homM_fine _ _) w.heap.size 0 45 i0 _ 40 Tryd.underlying26 hi0 hz0 hz1 hz2 rfl (by omega) (.slice (some ⟨w.heap.size, 0, none⟩) 0 0) 0 [] rfl ho0 _ (some ad) n c (mixL L []) rfl ha0 hel (by simp only [maxLen]; omega) (by omega) hb0.size ?_); intro v1 w1 hown1 hg1 hat1)
    go_ret
    rw [Nat.zero_add, List.nil_append] at hown1
    obtain ⟨A', c', rfl⟩ := hown1.form
    exact ⟨A', c', rfl, hown1, hb0.trans (below_grown hg1 ho0.lt hb0.size)⟩

set_option maxHeartbeats 1000000 in
theorem clonei_any (A : Option Addr) (n c : Nat) (L : List Int) (w : World) (ha : Is w A n c L) (hn : n ≤ 65536) :
    Calls Tryd.prog 22 #[.slice A n c] w fun e w' => ∃ A' c', e = .returned (.slice A' n c') ∧ Ow intR 1 w' w.heap.size w.heap.size 3 (.slice A' n c') n L ∧ Below w.heap.size w w' := by
  obtain ⟨i0, hi0, hz0, hz1, hz2⟩ := info_parts int_info
  have heq := fun W => Lib.run_eql_slice_nil (P := Tryd.prog) W 30 3 A n c 0 0 Tryd.underlying30
  cases A with
  | none =>
    obtain ⟨rfl, rfl⟩ := sl_none ha
    go_enter Tryd.func22, Tryd.ntmps22
    go_wp2
    go_ret
    exact ⟨none, 0, rfl, Ow.nil_ _ _ _ _, Below.refl _ _⟩
  | some ad =>
    have hb0 : Below w.heap.size w (w.alloc (.cells #[] 3)) := (Below.refl _ _).alloc (Nat.le_refl _) _
    have ho0 : Ow intR 1 (w.alloc (.cells #[] 3)) w.heap.size w.heap.size 3 (.slice (some ⟨w.heap.size, 0, none⟩) 0 0) 0 [] := Ow.made w #[] (by simp) (by simp) rfl (by simp) (fun i x hx => by simp at hx) intR_fine
    have ha0 := ha.on intR_fine hb0
    go_enter Tryd.func22, Tryd.ntmps22
    go_wp2_with (at_builtin; go_loud (refine wpList_append_ow _ rfl (.tmp 5) (.tmp 6) _ rfl intR_fine w.heap.size w.heap.size 3 i0 _ 8 Tryd.underlying30 hi0 hz0 hz1 hz2 rfl (by omega) (.slice (some ⟨w.heap.size, 0, none⟩) 0 0) 0 [] rfl ho0 _ (some ad) n c L rfl ha0 (fun _ _ _ h => h) (by simp only [maxLen]; omega) (by omega) hb0.size ?_); intro v1 w1 hown1 hg1 hat1)
    go_ret
    rw [Nat.zero_add, List.nil_append] at hown1
    obtain ⟨A', c', rfl⟩ := hown1.form
    exact ⟨A', c', rfl, hown1, hb0.trans (below_grown hg1 ho0.lt hb0.size)⟩

end Go.Proofs.YtjlppkbmapmbiaaDoor

namespace Go.Proofs.YtjlppkbmapmbiaaDoor
open Go.RowKit Go.Lib
set_option linter.unusedVariables false
set_option maxRecDepth 100000

theorem put_cell_other {w : World} {p q : Addr} {v u : Value} (hne : q.block ≠ p.block) (h : w.cell? q = some u) : (w.setCell p v).cell? q = some u :=
  (World.cell?_of_block (put_blk w p v q.block hne)).trans h

/-- One home of the clone is given places of its own. -/
theorem spot_home {w : World} {B B0 : Nat} {e eI : TypeId} {A : Option Addr} {n c : Nat} {L : List Hom} {t : List (Option Nat)} (h : Ow (homM eI B0) 3 w B 0 e (.slice A n c) n (mixL L t)) {k : Nat} (hk : k < n) (ht : t.length = k) :
    ∃ g x A0 n0 c0, A = some ⟨g, 0, none⟩ ∧ B ≤ g ∧ g < w.heap.size ∧ L[k]? = some x ∧ Is w A0 n0 c0 x.places ∧ w.cell? ⟨g, k * 3, none⟩ = some (.slice A0 n0 c0) ∧ w.frozen? ⟨g, k * 3, none⟩ = false ∧
      ∀ w', Below w.heap.size w w' → ∀ U cu o, Ow intR 1 w' 0 0 eI (.slice U n0 cu) n0 x.places → (Value.slice U n0 cu).ownBlock = o → (∀ b, o = some b → w.heap.size ≤ b ∧ b < w'.heap.size) → Ow (homM eI B0) 3 (w'.setCell ⟨g, k * 3, none⟩ (.slice U n0 cu)) B 0 e (.slice A n c) n (mixL L (t ++ [o])) := by
  have hl := h.len
  rw [mixL_len] at hl
  have hx : L[k]? = some (L[k]'(by omega)) := List.getElem?_eq_getElem (by omega)
  obtain ⟨g, y, cs, u, rfl, hg, hgl, hy, hr, hu, hcell, hfr, _⟩ := h.spotN (homM_fine eI B0) hk (show 0 < 3 by omega)
  rw [mixL_ge (by omega) hx] at hy
  injection hy with hy
  subst hy
  obtain ⟨A0, n0, c0, rfl, i1, i2, hs⟩ : homR w (fun b => But w 0 (.slice (some ⟨g, 0, none⟩) n c) b ∧ b < B0) cs L[k] := hr
  simp at hu
  subst hu
  refine ⟨g, _, A0, n0, c0, rfl, hg, hgl, hx, hs.move intR_fine (fun _ _ => rfl) (fun b hb => hb.1.2.1), hcell, hfr, fun w' hb U cu o hU ho hob => ?_⟩
  have h' := h.below (homM_fine eI B0) hb
  obtain ⟨g', y', cs', u', e', _, _, hy', hr', hu', hcell', _, hst⟩ := h'.spotN (homM_fine eI B0) hk (show 0 < 3 by omega)
  injection e' with e'
  injection e' with e'
  subst e'
  rw [mixL_ge (by omega) hx] at hy'
  injection hy' with hy'
  subst hy'
  obtain ⟨A1, n1, c1, rfl, _, _, hs1⟩ : homR w' (fun b => But w' 0 (.slice (some ⟨g, 0, none⟩) n c) b ∧ b < B0) cs' L[k] := hr'
  have hfin := hst (.slice U n0 cu) (L[k], some o) rfl ⟨U, n0, cu, rfl, i1, i2, hU, ho, fun b hb2 => ⟨Nat.zero_le _, (hob b hb2).2, by have := (hob b hb2).1; simp [Value.ownBlock]; omega⟩⟩
  rwa [mixL_set o ht hx] at hfin

/-- What anchor.Twin hands back. -/
def ATwinPost (w : World) (a : Anc) (n : Nat) (e : Ending) (w' : World) : Prop := Below w.heap.size w w' ∧ ∃ V c, e = .returned (a.v (.slice V n c)) ∧ HOwn 45 3 w' (w.heap.size + 2) (.slice V n c) n a.homes

set_option maxHeartbeats 2000000 in
theorem atwin_any (a : Anc) (A : Option Addr) (n c : Nat) (w : World) (ha : Sl homR 3 w (Old w) A n c a.homes) (hn : n ≤ 6000) (hpl : ∀ h ∈ a.homes, h.places.length ≤ 6000) :
    Calls Tryd.prog 14 #[a.v (.slice A n c)] w (ATwinPost w a n) := by
  obtain ⟨gen, epoch, pos, seq, last, label, L⟩ := a
  unfold ATwinPost Anc.v
  dsimp only at *
  obtain ⟨W0, hW0⟩ : ∃ W0, W0 = (w.alloc (.cells #[.int .i64 gen, .int .i64 epoch, .int .i64 pos, .int .i64 seq, .int .i64 last, .string label, .slice A n c] 28)).alloc (.cells #[.int .i64 0, .int .i64 0, .int .i64 0, .int .i64 0, .int .i64 0, .string ⟨#[]⟩, .slice none 0 0] 28) := ⟨_, rfl⟩
  have hS0 : (w.alloc (.cells #[.int .i64 gen, .int .i64 epoch, .int .i64 pos, .int .i64 seq, .int .i64 last, .string label, .slice A n c] 28)).heap.size = w.heap.size + 1 := by simp
  have hs0 : W0.heap.size = w.heap.size + 2 := by rw [hW0]; simp
  have hb0 : Below w.heap.size w W0 := by rw [hW0]; exact (alloc_below w _).alloc (by simp) _
  have ha0 := ha.on homR_fine hb0
  have hsA : Sev W0 w.heap.size (.int .i64 gen) (.int .i64 epoch) (.int .i64 pos) (.int .i64 seq) (.int .i64 last) (.string label) (.slice A n c) := by rw [hW0]; exact (Sev.new rfl (Below.refl _ _)).on (by simp) (alloc_below _ _)
  have hsZ : Sev W0 (w.heap.size + 1) (.int .i64 0) (.int .i64 0) (.int .i64 0) (.int .i64 0) (.int .i64 0) (.string ⟨#[]⟩) (.slice none 0 0) := by rw [hW0]; exact Sev.new hS0 (Below.refl _ _)
  have hfA : ∀ k, W0.frozen? ⟨w.heap.size, k, none⟩ = false := fun k => by rw [hW0]; exact box_free (alloc_below _ _) k
  have hfZ : ∀ k, W0.frozen? ⟨w.heap.size + 1, k, none⟩ = false := fun k => by rw [hW0]; exact bx_free2 hS0 (Below.refl _ _) k
  have hao : Sl homR 3 W0 (fun b => b < w.heap.size) A n c L := ha.move homR_fine (fun b hb => hb0.block b hb) (fun b hb => hb)
  have HCL := hide (cloneh_any A n c L W0 w.heap.size hao (by omega) (by omega))
  clear hao
  have HSA := hide hsA
  have HSZ := hide hsZ
  have HFA := hide hfA
  have HFZ := hide hfZ
  have HPL := hide hpl
  have HLEN := hide ha.len
  obtain ⟨p0, p1, p2, p3, p4, p5, p6⟩ := hsA
  clear hsZ hfA hfZ hpl
  go_enter Tryd.func14, Tryd.ntmps14
  go_wp2_with fail
  rw [← hW0]
  clear hW0
  refine HCL.out.mono ?_
  rintro e w1 ⟨V1, c1, rfl, ho1, hb1⟩
  have q6 : w1.cell? ⟨w.heap.size, 6, none⟩ = some (.slice A n c) := (HSA.out.onB (by omega) hb1).2.2.2.2.2.2
  have f6 : w1.frozen? ⟨w.heap.size, 6, none⟩ = false := (hb1.frozen (by show w.heap.size < _; omega)).trans (HFA.out 6)
  obtain ⟨w2, hw2⟩ : ∃ w2, w2 = w1.setCell ⟨w.heap.size, 6, none⟩ (.slice V1 n c1) := ⟨_, rfl⟩
  have hsz2 : w2.heap.size = w1.heap.size := by rw [hw2, set_size]
  have ho2 : Ow (homM 3 w.heap.size) 3 w2 W0.heap.size 0 45 (.slice V1 n c1) n (mixL L []) := by rw [hw2]; exact mixPut ho1 _ _ (by show w.heap.size < _; omega) (Nat.le_refl _)
  have hs2 : Sev w2 w.heap.size (.int .i64 gen) (.int .i64 epoch) (.int .i64 pos) (.int .i64 seq) (.int .i64 last) (.string label) (.slice V1 n c1) := by rw [hw2]; exact (HSA.out.onB (by omega) hb1).six _
  have HW2 := hide hw2
  have HS2 := hide hs2
  obtain ⟨r0, r1, r2, r3, r4, r5, r6⟩ := hs2
  rw [hw2] at r6
  have R6 := hide r6
  clear hw2
  go_wp2_with fail
  rw [← HW2.out]
  clear r6
  have hbase : W0.heap.size ≤ w2.heap.size := by rw [hsz2]; exact hb1.size
  have hsB : Below w.heap.size w w2 := by rw [HW2.out]; exact (th hb0 hb1).setCell (Nat.le_refl _) _
  have hzz : Sev w2 (w.heap.size + 1) (.int .i64 0) (.int .i64 0) (.int .i64 0) (.int .i64 0) (.int .i64 0) (.string ⟨#[]⟩) (.slice none 0 0) := by
    have h1 := HSZ.out.onB (by omega) hb1
    rw [HW2.out]
    obtain ⟨z0, z1, z2, z3, z4, z5, z6⟩ := h1
    exact ⟨put_cell_other (by simp) z0, put_cell_other (by simp) z1, put_cell_other (by simp) z2, put_cell_other (by simp) z3, put_cell_other (by simp) z4, put_cell_other (by simp) z5, put_cell_other (by simp) z6⟩
  have hff : ∀ j, w2.frozen? ⟨w.heap.size + 1, j, none⟩ = false := fun j => by
    rw [HW2.out, put_free]
    exact (hb1.frozen (by show w.heap.size + 1 < _; omega)).trans (HFZ.out j)
  have HZZ := hide hzz
  have HFF := hide hff
  clear hzz hff
  go_loopw [3, 11] (fun _ i wr => ∃ k : Nat, ∃ t, k ≤ n ∧ i = .int .i64 k ∧ t.length = k ∧ Ow (homM 3 w.heap.size) 3 wr W0.heap.size 0 45 (.slice V1 n c1) n (mixL L t) ∧ Hid (PartedH t) ∧ Hid (∀ b, some b ∈ t → W0.heap.size ≤ b ∧ b < wr.heap.size) ∧ Below W0.heap.size w2 wr) (fun _ i _ => n - (RowKit.intOf i).toNat)
  case atStart => exact ⟨0, [], Nat.zero_le _, rfl, rfl, ho2, hide PartedH.nil_, hide (fun b hb => by simp at hb), Below.refl _ _⟩
  case round =>
    obtain ⟨k, t, hk, rfl, htl, ho, hpt, hbt, hb⟩ := hrel
    by_cases hlt : k < n
    · obtain ⟨g, x, A0, n0, c0, rfl, hg, hgl, hx, hpl0, hcell, hfr, hst⟩ := spot_home ho hlt htl
      have hn0 : n0 ≤ 65536 := by have h1 := HPL.out x (List.mem_of_getElem? hx); have h2 := hpl0.len; omega
      have HCI := hide (clonei_any A0 n0 c0 x.places wr.drew (hpl0.on intR_fine (Below.refl _ _).drew) hn0)
      have HST := hide hst
      have m6 : wr.cell? ⟨w.heap.size, 6, none⟩ = some (.slice (some ⟨g, 0, none⟩) n c1) := (HS2.out.onB (by omega) hb).2.2.2.2.2.2
      have M6 := hide m6
      have HCE := hide hcell
      have HFR := hide hfr
      clear hst hfr hpl0 hx
      go_upto_region 5 with fail
      go_region_law ((go_simp; go_at_call 22; refine HCI.out.mono ?_; rintro e w5 ⟨U5, u5, rfl, ho5, hb5⟩; go_loud (have hb5' : Below wr.heap.size wr w5 := (Below.refl _ _).drew.trans hb5; have m65 : w5.cell? ⟨w.heap.size, 6, none⟩ = some (.slice (some ⟨g, 0, none⟩) n c1) := (hb5'.cell (by show w.heap.size < _; omega)).trans M6.out; have hce5 : w5.cell? ⟨g, k * 3, none⟩ = some (.slice A0 n0 c0) := (hb5'.cell (by exact hgl)).trans HCE.out; have hfr5 : w5.frozen? ⟨g, k * 3, none⟩ = false := (hb5'.frozen (by exact hgl)).trans HFR.out)))
      all_goals go_wp2_with fail
      all_goals
        have hlt5 := ho5.lt
        have hbt5 : ∀ b, (Value.slice U5 n0 u5).ownBlock = some b → wr.heap.size ≤ b ∧ b < w5.heap.size := hlt5
        go_roundw
        case rel => exact ⟨k + 1, t ++ [(Value.slice U5 n0 u5).ownBlock], by omega, by go_num, by simp [htl], HST.out w5 hb5' U5 u5 _ (ho5.less intR_fine (Nat.zero_le _) (Nat.zero_le _)) rfl hbt5, hide (hpt.out.snoc fun b e h => by have h1 := (hbt5 b e).1; have h2 := (hbt.out b h).2; omega), hide (fun b h => by
          rw [set_size]
          rcases List.mem_append.1 h with h | h
          · have h1 := hbt.out b h; have h2 := hb5'.size; omega
          · have h1 := hbt5 b (List.mem_singleton.1 h).symm; have h2 := hb.size; omega), (hb.trans (hb5'.mono (Nat.le_trans hbase hb.size))).setCell hg _⟩
        case measure => (first | omega | (simp [RowKit.intOf]; omega) | (unfold RowKit.intOf; simp; omega) | go_num)
    · obtain rfl : k = n := by omega
      have hown := mix_done ho (by rw [htl, HLEN.out]) (fun b h => (hbt.out b h).1) hpt.out
      have hzr := HZZ.out.onB (by omega) hb
      have hsr := HS2.out.onB (by omega) hb
      have hzu := put7_sev hzr (.int .i64 gen) (.int .i64 epoch) (.int .i64 pos) (.int .i64 seq) (.int .i64 last) (.string label) (.slice V1 k c1)
      unfold put7 at hzu
      have HZU := hide hzu
      have hf1 : ∀ j, wr.frozen? ⟨w.heap.size + 1, j, none⟩ = false := fun j => (hb.frozen (by show w.heap.size + 1 < _; omega)).trans (HFF.out j)
      have g0 := hf1 0
      have g1 := hf1 1
      have g2 := hf1 2
      have g3 := hf1 3
      have g4 := hf1 4
      have g5 := hf1 5
      have g6 := hf1 6
      obtain ⟨y0, y1, y2, y3, y4, y5, y6⟩ := hzr
      obtain ⟨v0, v1, v2, v3, v4, v5, v6⟩ := hsr
      have hbw : Below w.heap.size w wr := hsB.trans (hb.mono (by omega))
      have HOW := hide (hown.put7 (N := w.heap.size + 1) (by omega) (.int .i64 gen) (.int .i64 epoch) (.int .i64 pos) (.int .i64 seq) (.int .i64 last) (.string label) (.slice V1 k c1))
      rw [hs0] at HOW
      clear hzu hf1 hown
      go_wp2_with fail
      obtain ⟨u0, u1, u2, u3, u4, u5, u6⟩ := HZU.out
      exact bodyPost_ret (v := .agg #[.int .i64 gen, .int .i64 epoch, .int .i64 pos, .int .i64 seq, .int .i64 last, .string label, .slice V1 k c1]) (by simp [results, Tryd.results14, go_sem, u0, u1, u2, u3, u4, u5, u6]) rfl ⟨put7_below hbw (by omega) _ _ _ _ _ _ _, V1, c1, rfl, HOW.out⟩

end Go.Proofs.YtjlppkbmapmbiaaDoor
