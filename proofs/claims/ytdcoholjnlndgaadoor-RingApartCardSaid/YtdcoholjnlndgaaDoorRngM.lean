/-
  Plain: which slots are whose, counted; rows of numbers that the call owns, each in its own memory.
  The walk of RingApart.
-/
import Derived.Test.YtdcoholjnlndgaaDoorRngJ
import Derived.Test.YtdcoholjnlndgaaDoorAncA
namespace Go.Proofs.YtdcoholjnlndgaaDoor
open Go.RowKit
set_option linter.unusedVariables false
set_option maxRecDepth 100000

theorem emod_two {x n : Int} (h0 : 0 ≤ x) (h1 : x < 2 * n) : x % n = if x < n then x else x - n := by
  split
  · exact Int.emod_eq_of_lt h0 (by assumption)
  · rw [← Int.sub_emod_right x n]
    exact Int.emod_eq_of_lt (by omega) (by omega)
/-- How far a slot lies behind the log's root. -/
def dd (P sl s : Int) : Int := if P ≤ s then s - P else s - P + sl
def ov (a b lo hi : Int) : Int := if (if b ≤ hi then b else hi) ≤ (if a ≤ lo then lo else a) then 0 else (if b ≤ hi then b else hi) - (if a ≤ lo then lo else a)
/-- How many of the first s slots lie from a up to b behind the root. -/
def cnt (P sl a b s : Int) : Int := if s ≤ P then ov a b (sl - P) (sl - P + s) else ov a b (sl - P) sl + ov a b 0 (s - P)
theorem cnt_zero {P sl a b : Int} (hP : 0 ≤ P) (hb : b ≤ sl) : cnt P sl a b 0 = 0 := by
  unfold cnt ov
  rw [if_pos hP]
  split <;> omega
theorem cnt_end {P sl a b : Int} (hP : 0 ≤ P ∧ P < sl) (ha : 0 ≤ a) (hab : a ≤ b) (hb : b ≤ sl) : cnt P sl a b sl = b - a := by
  unfold cnt ov
  rw [if_neg (by omega)]
  omega
theorem cnt_yes {P sl a b s : Int} (hP : 0 ≤ P ∧ P < sl) (hs : 0 ≤ s ∧ s < sl) (ha : 0 ≤ a) (hab : a ≤ b) (hb : b ≤ sl) (h : a ≤ dd P sl s ∧ dd P sl s < b) : cnt P sl a b (s + 1) = cnt P sl a b s + 1 := by
  unfold cnt ov
  unfold dd at h
  omega
theorem cnt_no {P sl a b s : Int} (hP : 0 ≤ P ∧ P < sl) (hs : 0 ≤ s ∧ s < sl) (ha : 0 ≤ a) (hab : a ≤ b) (hb : b ≤ sl) (h : ¬ (a ≤ dd P sl s ∧ dd P sl s < b)) : cnt P sl a b (s + 1) = cnt P sl a b s := by
  unfold cnt ov
  unfold dd at h
  omega
theorem off_iff {P sl U len s : Int} {t : Txn} (hP : 0 ≤ P ∧ P < sl) (hs : 0 ≤ s ∧ s < sl) (hU : 0 ≤ U) (hl : 0 ≤ len) (hUl : U + len ≤ sl) (hat : t.at_ = (P + U) % sl) : offT sl s t < len ↔ U ≤ dd P sl s ∧ dd P sl s < U + len := by
  unfold offT dd
  have h1 : t.at_ = if P + U < sl then P + U else P + U - sl := by rw [hat]; exact emod_two (by omega) (by omega)
  rw [emod_two (by omega) (by omega)]
  omega
theorem off_back {sl s : Int} {t : Txn} (hs : 0 ≤ s ∧ s < sl) (ha : 0 ≤ t.at_ ∧ t.at_ < sl) : 0 ≤ offT sl s t ∧ offT sl s t < sl ∧ (t.at_ + offT sl s t) % sl = s := by
  unfold offT
  rw [emod_two (by omega) (by omega)]
  split
  · refine ⟨by omega, by omega, ?_⟩
    rw [emod_two (by omega) (by omega)]
    omega
  · refine ⟨by omega, by omega, ?_⟩
    rw [emod_two (by omega) (by omega)]
    omega
/-- Of a right log: where each transaction lies. -/
theorem log_lies {g : Geo} {P Q : Int} {L : List Txn} (hsl : g.slots ≤ 30) (hP : 0 ≤ P ∧ P < g.slots) (h : LogOk g P Q g.slots L) {i : Nat} {t : Txn} (hi : L[i]? = some t) : 0 ≤ sumL (L.take i) ∧ 2 ≤ t.len ∧ sumL (L.take i) + t.len = sumL (L.take (i + 1)) ∧ sumL (L.take (i + 1)) ≤ g.slots ∧ t.at_ = (P + sumL (L.take i)) % g.slots ∧ (0 ≤ t.at_ ∧ t.at_ < g.slots) ∧ t.len ≤ g.slots := by
  have h1 := log_at hP h hi
  have h0 : ∀ (M : List Txn) {P Q R : Int}, LogOk g P Q R M → ∀ k, 0 ≤ sumL (M.take k) := by
    intro M
    induction M with
    | nil => intro P Q R _ k; simp [sumL]
    | cons a M ih =>
      intro P Q R h k
      cases k with
      | zero => simp [sumL]
      | succ k =>
        rw [List.take_succ_cons, sumL]
        have := ih h.2 k
        have := h.1.2.2.2.1
        omega
  have h2 := h0 L h i
  have h3 := sumL_step hi
  obtain ⟨_, _, h4, h5, h6, _⟩ := h1
  exact ⟨h2, h5, by omega, by omega, h4, by rw [h4]; exact ⟨Int.emod_nonneg _ (by omega), Int.emod_lt_of_pos _ (by omega)⟩, by omega⟩
theorem sum_mono {g : Geo} {P Q : Int} {L : List Txn} (hsl : g.slots ≤ 30) (hP : 0 ≤ P ∧ P < g.slots) (h : LogOk g P Q g.slots L) {i j : Nat} (hij : i ≤ j) (hj : j ≤ L.length) : sumL (L.take i) ≤ sumL (L.take j) := by
  induction j with
  | zero =>
    obtain rfl : i = 0 := by omega
    exact Int.le_refl _
  | succ j ih =>
    by_cases he : i = j + 1
    · subst he; exact Int.le_refl _
    · have h1 := ih (by omega) (by omega)
      have h2 := log_lies hsl hP h (List.getElem?_eq_getElem (show j < L.length by omega))
      omega
/-- A slot that is somebody's is one's alone, and lies before the end; one that is nobody's lies behind. -/
theorem one_alone {g : Geo} {P Q s : Int} {L : List Txn} (hsl : g.slots ≤ 30) (hP : 0 ≤ P ∧ P < g.slots) (hs : 0 ≤ s ∧ s < g.slots) (h : LogOk g P Q g.slots L) {i : Nat} {t : Txn} (hi : L[i]? = some t) (ho : offT g.slots s t < t.len) :
    (sumL (L.take i) ≤ dd P g.slots s ∧ dd P g.slots s < sumL (L.take (i + 1))) ∧ dd P g.slots s < sumL L ∧ ∀ j, j < L.length → j ≠ i → ¬ (sumL (L.take j) ≤ dd P g.slots s ∧ dd P g.slots s < sumL (L.take (j + 1))) := by
  obtain ⟨h1, h2, h3, h4, h5, h6, h7⟩ := log_lies hsl hP h hi
  have hil := (List.getElem?_eq_some_iff.1 hi).1
  have hin := (off_iff hP hs h1 (by omega) (by omega) h5).1 ho
  have hto := sum_mono hsl hP h (show i + 1 ≤ L.length by omega) (Nat.le_refl _)
  rw [List.take_length] at hto
  refine ⟨⟨hin.1, by omega⟩, by omega, fun j hj hne hc => ?_⟩
  by_cases hlt : j < i
  · have := sum_mono hsl hP h (show j + 1 ≤ i by omega) (by omega)
    omega
  · have := sum_mono hsl hP h (show i + 1 ≤ j by omega) (by omega)
    omega
theorem none_lies {g : Geo} {P Q s : Int} {L : List Txn} (hsl : g.slots ≤ 30) (hP : 0 ≤ P ∧ P < g.slots) (hs : 0 ≤ s ∧ s < g.slots) (h : LogOk g P Q g.slots L) (hno : ∀ t ∈ L, t.len ≤ offT g.slots s t) :
    (∀ j, j < L.length → ¬ (sumL (L.take j) ≤ dd P g.slots s ∧ dd P g.slots s < sumL (L.take (j + 1)))) ∧ ¬ dd P g.slots s < sumL L := by
  have key : ∀ j, j < L.length → ¬ (sumL (L.take j) ≤ dd P g.slots s ∧ dd P g.slots s < sumL (L.take (j + 1))) := fun j hj hc => by
    have hx := List.getElem?_eq_getElem hj
    obtain ⟨h1, h2, h3, h4, h5, h6, h7⟩ := log_lies hsl hP h hx
    have := (off_iff (len := (L[j]).len) hP hs h1 (by omega) (by omega) h5).2 ⟨hc.1, by omega⟩
    have := hno _ (List.getElem_mem hj)
    omega
  refine ⟨key, ?_⟩
  have h0 : 0 ≤ dd P g.slots s := by unfold dd; split <;> omega
  have : ∀ k, k ≤ L.length → ¬ dd P g.slots s < sumL (L.take k) := by
    intro k
    induction k with
    | zero => intro _; simp [sumL]; omega
    | succ k ih =>
      intro hk
      have h1 := ih (by omega)
      have h2 := key k (by omega)
      omega
  have := this L.length (Nat.le_refl _)
  rwa [List.take_length] at this

/-- A row of numbers of the call's own, and the block where it lies. -/
def rowI (eI : TypeId) : Rp (List Int × Option Nat) := fun w S cs x => ∃ A n c, cs = [.slice A n c] ∧ Ow intR 1 w 0 0 eI (.slice A n c) n x.1 ∧ (Value.slice A n c).ownBlock = x.2 ∧ ∀ k, x.2 = some k → S k
theorem rowI_fine (eI : TypeId) : Fine (rowI eI) 1 where
  size := by rintro _ _ _ _ ⟨A, n, c, rfl, _⟩; rfl
  one := by rintro _ _ _ _ ⟨A, n, c, rfl, _⟩ u hu; simp at hu; subst hu; rfl
  move := by
    rintro w w' S S' _ x ⟨A, n, c, rfl, ho, hx, hk⟩ hm hS
    exact ⟨A, n, c, rfl, ow_int_move ho (fun k e => hm k (hk k (by rw [← hx, e]))), hx, fun k e => hS k (hk k e)⟩
/-- Rows that the call owns whole, from block B on. -/
def ROwn (eR eI : TypeId) (w : World) (B g : Nat) (m : Nat) (LL : List (List Int)) : Prop := ∃ t : List (Option Nat), t.length = LL.length ∧ Ow (rowI eI) 1 w B B eR (.slice (some ⟨g, 0, none⟩) m m) m (LL.zip t) ∧ PartedH t
section
variable {eR eI : TypeId} {w w' : World} {B g m : Nat} {LL : List (List Int)}
theorem ROwn.below (h : ROwn eR eI w B g m LL) (hb : Below w.heap.size w w') : ROwn eR eI w' B g m LL := by
  obtain ⟨t, ht, ho, hp⟩ := h
  exact ⟨t, ht, ho.below (rowI_fine eI) hb, hp⟩
theorem ROwn.len (h : ROwn eR eI w B g m LL) : LL.length = m := by
  obtain ⟨t, ht, ho, _⟩ := h
  have := ho.len
  rw [List.length_zip, ht] at this
  omega
theorem zip_at {α β : Type} {L : List α} {t : List β} (ht : t.length = L.length) {i : Nat} {x : α} (hi : L[i]? = some x) : ∃ o, t[i]? = some o ∧ (L.zip t)[i]? = some (x, o) := by
  have hl := (List.getElem?_eq_some_iff.1 hi).1
  obtain ⟨o, ho⟩ : ∃ o, t[i]? = some o := ⟨_, List.getElem?_eq_getElem (by omega)⟩
  exact ⟨o, ho, by rw [List.getElem?_zip_eq_some]; exact ⟨hi, ho⟩⟩
theorem zip_setR {α β : Type} {L : List α} {t : List β} (k : Nat) (a : α) (o : β) : (L.zip t).set k (a, o) = (L.set k a).zip (t.set k o) := by
  refine List.ext_getElem? fun i => ?_
  unfold List.zip
  by_cases hi : i = k
  · subst hi
    by_cases h1 : i < L.length
    · by_cases h2 : i < t.length
      · rw [List.getElem?_set_self (by rw [List.length_zipWith]; omega), List.getElem?_zipWith, List.getElem?_set_self h1, List.getElem?_set_self h2]
      · rw [List.getElem?_eq_none (by simp; omega), List.getElem?_eq_none (by simp; omega)]
    · rw [List.getElem?_eq_none (by simp; omega), List.getElem?_eq_none (by simp; omega)]
  · rw [List.getElem?_set_ne (by omega), List.getElem?_zipWith, List.getElem?_zipWith, List.getElem?_set_ne (by omega), List.getElem?_set_ne (by omega)]
theorem one_at {ys : List Value} {i : Nat} (h : i < ys.length) : (ys.drop (i * 1)).take 1 = [ys[i]] := by
  rw [Nat.mul_one, List.drop_eq_getElem_cons h]
  rfl
/-- A row of what is owned: its cell; and what an append, and the store of what it gave, make of all. -/
theorem ROwn.spot (h : ROwn eR eI w B g m LL) {k : Nat} (hk : k < m) : ∃ x A n c, LL[k]? = some x ∧ B ≤ g ∧ g < w.heap.size ∧ x.length = n ∧ w.cell? ⟨g, k, none⟩ = some (.slice A n c) ∧ w.frozen? ⟨g, k, none⟩ = false ∧ Ow intR 1 w 0 0 eI (.slice A n c) n x ∧ (Value.slice A n c).ownBlock ≠ some g ∧ (∀ b, (Value.slice A n c).ownBlock = some b → B ≤ b) ∧
    ∀ (w1 w2 : World) (y : List Int) (A' : Option Addr) (n' c' : Nat), Below w.heap.size w w1 → w1.grownBy w2 (Value.slice A n c).ownBlock → ((Value.slice A' n' c').ownBlock = (Value.slice A n c).ownBlock ∨ (Value.slice A' n' c').ownBlock = some w1.heap.size) → (∀ b, (Value.slice A' n' c').ownBlock = some b → b < w2.heap.size) → Ow intR 1 w2 0 0 eI (.slice A' n' c') n' y → ROwn eR eI (w2.setCell ⟨g, k, none⟩ (.slice A' n' c')) B g m (LL.set k y) := by
  obtain ⟨t, ht, ho, hp⟩ := h
  have hmm := ho.len
  rw [List.length_zip, ht] at hmm
  have hLm : LL.length = m := by omega
  obtain ⟨g', ⟨x, o⟩, u, e1, hg, hgl, hx, hr, hcell, hfr, hst⟩ := ho.spot (rowI_fine eI) hk
  injection e1 with e1
  injection e1 with e1
  subst e1
  have hx' := List.getElem?_zip_eq_some.1 hx
  obtain ⟨A, n, c, eu, hoI, hown, hS⟩ := hr
  injection eu with eu _
  subst eu
  dsimp only at hoI hown hS
  have hxn : x.length = n := hoI.len
  have hne : (Value.slice A n c).ownBlock ≠ some g := fun e => by
    have := (hS g (by rw [← hown]; exact e)).2.2
    exact this rfl
  refine ⟨x, A, n, c, hx'.1, hg, hgl, hxn, hcell, hfr, hoI, hne, fun b e => (hS b (by rw [← hown]; exact e)).1, fun w1 w2 y A' n' c' hb hgr hV hV2 hnew => ?_⟩
  have hob : (Value.slice A n c).ownBlock = none ∨ (Value.slice A n c).ownBlock ≠ some g := .inr hne
  obtain ⟨hl, xs, hxs, hone, hel⟩ := ho
  have hk1 := (hxs.kept (grown_of_below hb none) (by simp [Value.ownBlock])).kept hgr (.inr fun e => hne (by rw [← e]; rfl))
  have hst2 := hk1.stored k (.slice A' n' c')
  have hxl : xs.length = m := by have := hxs.1; omega
  have hgs : w.heap.size ≤ w2.heap.size := Nat.le_trans hb.size hgr.size
  -- what lies elsewhere stays
  have keep : ∀ b, b < w.heap.size → some b ≠ (Value.slice A n c).ownBlock → b ≠ g → (w2.setCell ⟨g, k, none⟩ (.slice A' n' c')).heap[b]? = w.heap[b]? := fun b h1 h2 h3 =>
    (put_blk _ _ _ _ h3).trans ((hgr.block b (Nat.lt_of_lt_of_le h1 hb.size) h2).trans (hb.block b h1))
  have hVB : ∀ b, (Value.slice A' n' c').ownBlock = some b → B ≤ b ∧ b ≠ g := fun b e => by
    rcases hV with h1 | h1
    · rw [h1, hown] at e
      have := hS b e
      exact ⟨this.1, fun e2 => this.2.2 (by rw [e2]; rfl)⟩
    · rw [h1] at e
      injection e with e
      have h3 := hb.size
      exact ⟨by omega, by omega⟩
  refine ⟨t.set k (Value.slice A' n' c').ownBlock, by rw [List.length_set, List.length_set, ht], ⟨by rw [List.length_zip, List.length_set, List.length_set, ht]; omega, xs.set k (.slice A' n' c'), hst2.1, ?_, fun i z hi => ?_⟩, ?_⟩
  · intro v hv
    rcases List.mem_or_eq_of_mem_set hv with hv | rfl
    · exact hone v hv
    · rfl
  · obtain ⟨z, oz⟩ := z
    rw [← zip_setR] at hi
    by_cases hik : i = k
    · subst hik
      rw [List.getElem?_set_self (by rw [List.length_zip]; omega)] at hi
      injection hi with hi
      injection hi with hi1 hi2
      subst hi1
      subst hi2
      have e3 : ((xs.set i (.slice A' n' c')).drop (i * 1)).take 1 = [.slice A' n' c'] := by
        rw [one_at (show i < (xs.set i (.slice A' n' c')).length by rw [List.length_set]; omega), List.getElem_set_self]
      rw [e3]
      refine ⟨A', n', c', rfl, ow_int_move hnew (fun b e => put_blk _ _ _ _ ((hVB b e).2)), rfl, fun b e => ⟨(hVB b e).1, by rw [set_size]; exact hV2 b e, fun e2 => ?_⟩⟩
      have h4 : some b = some g := e2
      injection h4 with h4
      exact (hVB b e).2 h4
    · rw [List.getElem?_set_ne (by omega)] at hi
      have hi' := hi
      have h3 := hel i (z, oz) hi
      have hil : i < m := by have := (List.getElem?_eq_some_iff.1 hi).1; rw [List.length_zip] at this; omega
      have e3 : ((xs.set k (.slice A' n' c')).drop (i * 1)).take 1 = (xs.drop (i * 1)).take 1 := by
        rw [one_at (show i < (xs.set k (.slice A' n' c')).length by rw [List.length_set]; omega), one_at (show i < xs.length by omega), List.getElem_set_ne (show k ≠ i by omega)]
      rw [e3]
      refine (rowI_fine eI).move (S := fun b => But w B (.slice (some ⟨g, 0, none⟩) m m) b ∧ some b ≠ (Value.slice A n c).ownBlock) ?_ (fun b hb' => keep b hb'.1.2.1 hb'.2 (fun e => hb'.1.2.2 (by rw [e]; rfl))) (fun b hb' => ⟨hb'.1.1, by rw [set_size]; exact Nat.lt_of_lt_of_le hb'.1.2.1 hgs, hb'.1.2.2⟩)
      obtain ⟨A3, n3, c3, e4, hoI3, hown3, hS3⟩ := h3
      refine ⟨A3, n3, c3, e4, hoI3, hown3, fun b e => ⟨hS3 b e, fun e5 => hik (hp i k b ?_ ?_)⟩⟩
      · have := (List.getElem?_zip_eq_some.1 hi').2
        dsimp only at this e
        rw [this, e]
      · have := hx'.2
        dsimp only at this
        rw [this, ← hown, ← e5]
  · intro i j b hi hj
    by_cases hik : i = k
    · by_cases hjk : j = k
      · omega
      · exfalso
        subst hik
        rw [List.getElem?_set_self (by omega)] at hi
        rw [List.getElem?_set_ne (by omega)] at hj
        injection hi with hi
        rcases hV with h1 | h1
        · rw [h1, hown] at hi
          have h2 := hx'.2
          dsimp only at h2
          rw [hi] at h2
          exact hjk (hp j i b hj h2)
        · rw [h1] at hi
          injection hi with hi
          obtain ⟨x2, hx2⟩ : ∃ x2, LL[j]? = some x2 := ⟨_, List.getElem?_eq_getElem (by have := (List.getElem?_eq_some_iff.1 hj).1; omega)⟩
          obtain ⟨_, _, _, _, _, _, hS3⟩ := hel j (x2, some b) (List.getElem?_zip_eq_some.2 ⟨hx2, hj⟩)
          have := (hS3 b rfl).2.1
          have := hb.size
          omega
    · by_cases hjk : j = k
      · exfalso
        subst hjk
        rw [List.getElem?_set_self (by omega)] at hj
        rw [List.getElem?_set_ne (by omega)] at hi
        injection hj with hj
        rcases hV with h1 | h1
        · rw [h1, hown] at hj
          have h2 := hx'.2
          dsimp only at h2
          rw [hj] at h2
          exact hik (hp i j b hi h2)
        · rw [h1] at hj
          injection hj with hj
          obtain ⟨x2, hx2⟩ : ∃ x2, LL[i]? = some x2 := ⟨_, List.getElem?_eq_getElem (by have := (List.getElem?_eq_some_iff.1 hi).1; omega)⟩
          obtain ⟨_, _, _, _, _, _, hS3⟩ := hel i (x2, some b) (List.getElem?_zip_eq_some.2 ⟨hx2, hi⟩)
          have := (hS3 b rfl).2.1
          have := hb.size
          omega
      · rw [List.getElem?_set_ne (by omega)] at hi hj
        exact hp i j b hi hj
end

end Go.Proofs.YtdcoholjnlndgaaDoor

namespace Go.Proofs.YtdcoholjnlndgaaDoor
open Go.RowKit
set_option linter.unusedVariables false
set_option maxRecDepth 100000

theorem frozen_of_blk {w w' : World} {b i : Nat} (h : w'.heap[b]? = w.heap[b]?) : w'.frozen? ⟨b, i, none⟩ = w.frozen? ⟨b, i, none⟩ := by
  unfold World.frozen?
  dsimp only
  rw [h]
theorem made_rows (w : World) (m : Nat) (hm : m ≤ 65536) (e eI : TypeId) : ROwn e eI (w.alloc (.cells (madeCells #[.slice none 0 0] m) e)) w.heap.size w.heap.size m (List.replicate m []) := by
  refine ⟨List.replicate m none, by simp, ?_, ?_⟩
  · have hzip : (List.replicate m ([] : List Int)).zip (List.replicate m (none : Option Nat)) = List.replicate m ([], none) := by simp
    rw [hzip]
    exact Ow.made w _ (by simp only [maxLen]; omega) (by rw [size_madeCells, Nat.mul_one]) (by simp) (by
      rw [toList_madeCells_one]
      intro u hu
      obtain rfl := (List.mem_replicate.1 hu).2
      rfl) (fun i x hx => by
      have hi := (List.getElem?_eq_some_iff.1 hx).1
      rw [List.length_replicate] at hi
      have e : x = ([], none) := by
        obtain ⟨h1, h2⟩ := List.getElem?_eq_some_iff.1 hx
        rw [List.getElem_replicate] at h2
        exact h2.symm
      subst e
      rw [toList_madeCells_one, List.drop_replicate, List.take_replicate, show min 1 (m - i * 1) = 1 from by omega]
      exact ⟨none, 0, 0, rfl, Ow.nil_ _ _ _ _, rfl, by simp⟩) (rowI_fine eI)
  · intro i j b hi hj
    rw [List.getElem?_replicate] at hi
    split at hi <;> simp at hi

set_option maxHeartbeats 6000000 in
theorem walk_ringApart {w : World} (hT : Tabs w) (g : Geo) (a : Anc) (A : Option Addr) (n c : Nat) (hs : Sl homR 3 w (Old w) A n c a.homes) (hin : a.In) (B : Option Addr) (ns cs : Nat) (Z : List Int) (hz : Is w B ns cs Z) (F : UInt8) :
    Calls Tryd.prog 3 #[g.v, a.v (.slice A n c), .slice B ns cs, .int .u8 (F.toNat : Int)] w fun e w' => e = .returned (.bool true) ∧ Below w.heap.size w w' := by
  have hhv := fun w ha => heavya_any a A n c w ha
  have hge := fun w => rgeo_any g w
  have han := fun hG w ha hl => ranchor_any g hG a A n c w ha hin hl
  obtain ⟨bH, hbH⟩ : ∃ b, b = heavyA a := ⟨_, rfl⟩
  obtain ⟨bG, hbG⟩ : ∃ b, b = decide (GeoOk g) := ⟨_, rfl⟩
  obtain ⟨bA, hbA⟩ : ∃ b, b = decide (AncOk g a) := ⟨_, rfl⟩
  rw [← hbH] at hhv
  rw [← hbG] at hge
  rw [← hbA] at han
  have HBH := hide hbH
  have HBG := hide hbG
  have HBA := hide hbA
  clear hbH hbG hbA
  have HIN := hide hin
  obtain ⟨gen, epoch, pos, seq, last, label, homes⟩ := a
  obtain ⟨z, d, s, sl, an⟩ := g
  unfold Geo.v Anc.v at *
  dsimp only at *
  obtain ⟨W0, hW0⟩ : ∃ W0, W0 = (w.alloc (.cells #[.int .i64 z, .int .i64 d, .int .i64 s, .int .i64 sl, .int .i64 an] 23)).alloc (.cells #[.int .i64 gen, .int .i64 epoch, .int .i64 pos, .int .i64 seq, .int .i64 last, .string label, .slice A n c] 26) := ⟨_, rfl⟩
  have hS0 : (w.alloc (.cells #[.int .i64 z, .int .i64 d, .int .i64 s, .int .i64 sl, .int .i64 an] 23)).heap.size = w.heap.size + 1 := by simp
  have hb0 : Below w.heap.size w W0 := by rw [hW0]; exact (alloc_below w _).alloc (by simp) _
  have hgb : GeoAt W0 w.heap.size ⟨z, d, s, sl, an⟩ := by rw [hW0]; exact (GeoAt.new w ⟨z, d, s, sl, an⟩ 23).on (alloc_below _ _)
  have hsv : ∀ W, Below W0.heap.size W0 W → Sev W (w.heap.size + 1) (.int .i64 gen) (.int .i64 epoch) (.int .i64 pos) (.int .i64 seq) (.int .i64 last) (.string label) (.slice A n c) := fun W hW => by
    subst hW0
    exact Sev.new hS0 hW
  have HCE := hide (fun W (hW : Below W0.heap.size W0 W) => And.intro (hgb.on hW).2 (hsv W hW))
  dsimp only at HCE
  have hs0 := hs.on homR_fine hb0
  have HHV := hide (hhv W0 hs0)
  have HGE := hide hge
  have HAN := hide (fun hG W (hW : Below W0.heap.size W0 W) hl => han hG W (hs0.on homR_fine hW) hl)
  have hz0 := hz.on intR_fine hb0
  clear hS0 hgb hsv hhv hge han hs hz hin
  cases bH with
  | true =>
    go_enter Tryd.func3, Tryd.ntmps3
    go_wp2_with fail
    rw [← hW0]
    clear hW0
    (with_reducible refine HHV.out.mono ?_)
    rintro e w1 ⟨rfl, hb1⟩
    obtain ⟨⟨p0, p1, p2, p3, p4⟩, q0, q1, q2, q3, q4, q5, q6⟩ := HCE.out _ hb1
    go_wp2_with fail
    go_ret
    exact ⟨rfl, th hb0 hb1⟩
  | false =>
    obtain ⟨l1, l2, l3⟩ := heavyA_no HBH.out.symm
    dsimp only at l1 l2 l3
    have hlt : Light ⟨gen, epoch, pos, seq, last, label, homes⟩ := ⟨by show label.size ≤ 60000; omega, by show homes.length ≤ 6000; omega, fun h hm => by have := l3 h hm; omega⟩
    by_cases h40 : ns ≤ 40
    · have hn40 : ¬ (40 : Int) < (ns : Int) := by omega
      have d40 : decide ((40 : Int) < (ns : Int)) = false := decide_eq_false hn40
      cases bG with
      | false =>
        go_enter Tryd.func3, Tryd.ntmps3
        go_wp2_with fail
        rw [← hW0]
        clear hW0
        (with_reducible refine HHV.out.mono ?_)
        rintro e w1 ⟨rfl, hb1⟩
        obtain ⟨⟨p0, p1, p2, p3, p4⟩, q0, q1, q2, q3, q4, q5, q6⟩ := HCE.out _ hb1
        go_wp2_with fail
        (with_reducible refine (HGE.out _).mono ?_)
        rintro e w2 ⟨rfl, hb2⟩
        have hb02 := th hb1 hb2
        obtain ⟨⟨p0, p1, p2, p3, p4⟩, q0, q1, q2, q3, q4, q5, q6⟩ := HCE.out _ hb02
        go_wp2_with fail
        go_ret
        exact ⟨rfl, th hb0 hb02⟩
      | true =>
        have hG : GeoOk ⟨z, d, s, sl, an⟩ := of_decide_eq_true HBG.out.symm
        cases bA with
        | false =>
          go_enter Tryd.func3, Tryd.ntmps3
          go_wp2_with fail
          rw [← hW0]
          clear hW0
          (with_reducible refine HHV.out.mono ?_)
          rintro e w1 ⟨rfl, hb1⟩
          obtain ⟨⟨p0, p1, p2, p3, p4⟩, q0, q1, q2, q3, q4, q5, q6⟩ := HCE.out _ hb1
          go_wp2_with fail
          (with_reducible refine (HGE.out _).mono ?_)
          rintro e w2 ⟨rfl, hb2⟩
          have hb02 := th hb1 hb2
          obtain ⟨⟨p0, p1, p2, p3, p4⟩, q0, q1, q2, q3, q4, q5, q6⟩ := HCE.out _ hb02
          go_wp2_with fail
          (with_reducible refine (HAN.out hG _ hb02 hlt).mono ?_)
          rintro e w3 ⟨rfl, hb3⟩
          have hb03 := th hb02 hb3
          obtain ⟨⟨p0, p1, p2, p3, p4⟩, q0, q1, q2, q3, q4, q5, q6⟩ := HCE.out _ hb03
          go_wp2_with fail
          go_ret
          exact ⟨rfl, th hb0 hb03⟩
        | true =>
          have hA : AncOk ⟨z, d, s, sl, an⟩ ⟨gen, epoch, pos, seq, last, label, homes⟩ := of_decide_eq_true HBA.out.symm
          by_cases hq6 : seq ≤ 1000000
          · have hnq : ¬ (1000000 : Int) < seq := by omega
            have dq : decide ((1000000 : Int) < seq) = false := decide_eq_false hnq
            have hsl : 14 ≤ sl ∧ sl ≤ 30 := hG.2.2.2.1
            have hpo : 0 ≤ pos ∧ pos ≤ sl - 1 := hA.1.2.2.2.2.2.2
            have hse : 1 ≤ seq := hA.1.2.2.2.2.1
            obtain ⟨hsl1, hsl2⟩ := hsl
            obtain ⟨hpo1, hpo2⟩ := hpo
            have hlog := fun W (hW : Below W0.heap.size W0 W) => log_any ⟨z, d, s, sl, an⟩ hG ⟨gen, epoch, pos, seq, last, label, homes⟩ A n c B ns cs Z F W ⟨hpo1, by show pos < sl; omega⟩ ⟨hse, hq6⟩ (hz0.on intR_fine hW) h40
            unfold LogPost Geo.v Anc.v at hlog
            dsimp only at hlog
            have HLOG := hide hlog
            have HG := hide hG
            have HA := hide hA
            clear hlog
            go_enter Tryd.func3, Tryd.ntmps3
            go_wp2_with fail
            rw [← hW0]
            clear hW0
            (with_reducible refine HHV.out.mono ?_)
            rintro e w1 ⟨rfl, hb1⟩
            obtain ⟨⟨p0, p1, p2, p3, p4⟩, q0, q1, q2, q3, q4, q5, q6⟩ := HCE.out _ hb1
            go_wp2_with fail
            (with_reducible refine (HGE.out _).mono ?_)
            rintro e w2 ⟨rfl, hb2⟩
            have hb02 := th hb1 hb2
            obtain ⟨⟨p0, p1, p2, p3, p4⟩, q0, q1, q2, q3, q4, q5, q6⟩ := HCE.out _ hb02
            go_wp2_with fail
            (with_reducible refine (HAN.out hG _ hb02 hlt).mono ?_)
            rintro e w3 ⟨rfl, hb3⟩
            have hb03 := th hb02 hb3
            obtain ⟨⟨p0, p1, p2, p3, p4⟩, q0, q1, q2, q3, q4, q5, q6⟩ := HCE.out _ hb03
            go_wp2_with fail
            (with_reducible refine (HLOG.out _ hb03).mono ?_)
            rintro e w4 ⟨hb4, AL, m, cL, L, rfl, hTO, hlk, hlens, hsm⟩
            have hb04 := th hb03 hb4
            have hL4 := (hTO.read).old_ txnR_fine
            have hml := hL4.len
            have hls := log_sum (show sl ≤ 30 from hsl2) hlk
            have hm15 : 2 * (m : Int) ≤ 30 := by
              rcases hls.2.1 with h | h
              · rw [← hml, h]; simp
              · have := hls.2.2; omega
            have hsT0 : sumL L ≤ sl := by
              rcases hls.2.1 with h | h
              · rw [h]; simp [sumL]; omega
              · exact h
            have hsT1 : 0 ≤ sumL L := by have := hls.2.2; omega
            have hP : 0 ≤ pos ∧ pos < sl := ⟨hpo1, by omega⟩
            have hsm2 : ∀ t ∈ L, t.ims.length ≤ 6000 ∧ ∀ x ∈ t.ims, x.load.length ≤ 6000 := fun t ht => ⟨by have := (hsm t ht).1; omega, fun x hx => by have := (hsm t ht).2 x hx; omega⟩
            have hok : ∀ t ∈ L, (0 ≤ t.at_ ∧ t.at_ < sl) ∧ 0 ≤ t.len ∧ t.len ≤ sl := fun t ht => by
              obtain ⟨j, hj, e⟩ := List.mem_iff_getElem.1 ht
              have h := log_lies (show sl ≤ 30 from hsl2) hP hlk (show L[j]? = some t by rw [← e]; exact List.getElem?_eq_getElem hj)
              exact ⟨h.2.2.2.2.2.1, by have := h.2.1; omega, h.2.2.2.2.2.2⟩
            have hck := fun W (hW : Below w4.heap.size w4 W) => rcheck_any ⟨z, d, s, sl, an⟩ ⟨gen, epoch, pos, seq, last, label, homes⟩ A n c AL m cL L W (hT.below (th hb0 (th hb04 hW))) (hs0.on homR_fine (th hb04 hW)) HIN.out hlt (hL4.on txnR_fine hW) (by omega) hsm2 0 (fun _ => rfl) (fun h => absurd ⟨HG.out, HA.out, hlk⟩ h)
            have hnx := fun W (hW : Below w4.heap.size w4 W) => next_yes ⟨z, d, s, sl, an⟩ ⟨gen, epoch, pos, seq, last, label, homes⟩ A n c AL m cL L W (hT.below (th hb0 (th hb04 hW))) (hs0.on homR_fine (th hb04 hW)) HIN.out hlt (hL4.on txnR_fine hW) (by omega) hsm2 HG.out HA.out hlk (by show seq + (m : Int) ≤ 4294967295; omega)
            have hus := fun W (hW : Below w4.heap.size w4 W) => used_any AL m cL L W (hL4.on txnR_fine hW) (by omega)
            have hwh := fun sN hs W (hW : Below w4.heap.size w4 W) => who_yes ⟨z, d, s, sl, an⟩ HG.out AL m cL L sN hs W (hL4.on txnR_fine hW) (by omega) hok
            have hUi : (usedL L : Int) = sumL L := hls.1
            obtain ⟨U, hU⟩ : ∃ U, U = usedL L := ⟨_, rfl⟩
            rw [← hU] at hnx hus hUi
            unfold Geo.v Anc.v at hck hnx
            unfold Geo.v WhoPost at hwh
            dsimp only at hck hnx hwh
            have HCK := hide hck
            have HNX := hide hnx
            have HUS := hide hus
            have HWH := hide hwh
            have HLK := hide hlk
            have HL4 := hide hL4
            have HML := hide hml
            have HUI := hide hUi
            have HP := hide hP
            obtain ⟨y0, hy0, yy0, yy1, yy2⟩ := info_parts (show (Tryd.prog.info? 27).map (fun i => (i.zero, i.size, i.bytes)) = some (some (.slice none 0 0), 1, 24) by kernel_rfl)
            obtain ⟨j0, hj0, jj0, jj1, jj2⟩ := info_parts int_info
            have hmk : ∀ W, (Instr.makeSlice 35 (.int .i64 m) (.int .i64 m)).run Tryd.prog W = .ok (.slice (some ⟨W.heap.size, 0, none⟩) m m) (W.alloc (.cells (madeCells #[.slice none 0 0] m) 27)) := fun W => by
              have h := run_make_all (P := Tryd.prog) 35 27 y0 _ 1 24 Tryd.underlying35 hy0 yy0 yy1 yy2 .i64 .i64 m (by omega) (by omega) W
              rw [Nat.mul_one] at h
              exact h
            obtain ⟨⟨p0, p1, p2, p3, p4⟩, q0, q1, q2, q3, q4, q5, q6⟩ := HCE.out _ hb04
            clear hck hnx hus hwh hlk hL4 hml hls hok hsm hsm2 hlens hTO hU hUi hP
            go_wp2_with fail
            (with_reducible refine (HCK.out _ (Below.refl _ _)).mono ?_)
            rintro e w5 ⟨rfl, hb5⟩
            have hb05 := th hb04 hb5
            obtain ⟨⟨p0, p1, p2, p3, p4⟩, q0, q1, q2, q3, q4, q5, q6⟩ := HCE.out _ hb05
            have HROW := hide (made_rows w5 m (by omega) 27 3)
            have hb56 := alloc_below w5 (.cells (madeCells #[.slice none 0 0] m) 27)
            go_wp2_with fail
            go_loopw [11, 12] (fun Nn I wr => ∃ (sN : Nat) (N : Int) (LL : List (List Int)), (sN : Int) ≤ sl ∧ I = .int .i64 (sN : Int) ∧ Nn = .int .i64 N ∧ 0 ≤ N ∧ N ≤ sN ∧ Hid (N = cnt pos sl 0 (sumL L) sN) ∧ Hid (ROwn 27 3 wr w5.heap.size w5.heap.size m LL) ∧ Hid (∀ (j : Nat) (x : List Int), LL[j]? = some x → (x.length : Int) = cnt pos sl (sumL (L.take j)) (sumL (L.take (j + 1))) sN ∧ x.length ≤ sN) ∧ Below w5.heap.size w5 wr ∧ w5.heap.size < wr.heap.size) (fun _ i _ => sl.toNat - (intOf i).toNat)
            case atStart =>
              refine ⟨0, 0, _, by omega, rfl, rfl, by omega, by omega, hide (cnt_zero hpo1 hsT0).symm, HROW, hide (fun j x hx => ?_), hb56, by simp⟩
              have hjm : j < m := by have := (List.getElem?_eq_some_iff.1 hx).1; rw [List.length_replicate] at this; exact this
              have e : x = [] := by
                obtain ⟨h1, h2⟩ := List.getElem?_eq_some_iff.1 hx
                rw [List.getElem_replicate] at h2
                exact h2.symm
              subst e
              have hly := log_lies (show sl ≤ 30 from hsl2) HP.out HLK.out (List.getElem?_eq_getElem (show j < L.length by rw [HML.out]; exact hjm))
              exact ⟨(cnt_zero hpo1 hly.2.2.2.1).symm, Nat.zero_le _⟩
            case round =>
              obtain ⟨sN, N, LL, hsN, rfl, rfl, hN0, hN1, hNc, hrow, hLL, hb, hszr⟩ := hrel
              obtain ⟨wo, rfl⟩ : ∃ wo : World, wo = wr := ⟨_, rfl⟩
              obtain ⟨⟨p0, p1, p2, p3, p4⟩, q0, q1, q2, q3, q4, q5, q6⟩ := HCE.out _ (th hb05 hb)
              by_cases hlt : (sN : Int) < sl
              · have dlt : decide ((sN : Int) < sl) = true := decide_eq_true hlt
                have hsr : 0 ≤ (sN : Int) ∧ (sN : Int) < sl := ⟨by omega, hlt⟩
                have HSR := hide hsr
                clear hsr
                go_wp2_with fail
                (with_reducible refine (HWH.out _ HSR.out _ (th hb5 hb)).mono ?_)
                rintro e w7 ⟨hb7, ⟨i, t, hi, ho, hfirst, rfl⟩ | ⟨hno, rfl⟩⟩
                · have hal := one_alone (show sl ≤ 30 from hsl2) HP.out HSR.out HLK.out hi ho
                  have hly := log_lies (show sl ≤ 30 from hsl2) HP.out HLK.out hi
                  have hob := off_back HSR.out hly.2.2.2.2.2.1
                  dsimp only at hal hly hob
                  obtain ⟨O, hO⟩ : ∃ O, O = offT sl sN t := ⟨_, rfl⟩
                  rw [← hO] at hob ho ⊢
                  have him : i < m := by have := (List.getElem?_eq_some_iff.1 hi).1; rw [HML.out] at this; exact this
                  obtain ⟨ad, x, A', n', c', rfl, hadl, hx, i1, i2, i3, hs3, e0, e1, e2, e3⟩ := at_txn (HL4.out.on txnR_fine (th hb5 (th hb hb7))) him
                  obtain rfl : t = x := by rw [hi] at hx; injection hx
                  have HAL := hide hal
                  have HHI := hide hi
                  obtain ⟨hob1, hob2, hob3⟩ := hob
                  obtain ⟨hl1, hl2, hl3, hl4, hl5, ⟨hl6, hl7⟩, hl8⟩ := hly
                  clear hl1 hl3 hl5
                  obtain ⟨num, at_, len, ims⟩ := t
                  dsimp only at *
                  have f1 : ¬ (i : Int) < 0 := by omega
                  have f2 : ¬ (m : Int) ≤ (i : Int) := by omega
                  have f2n : ¬ m ≤ i := by omega
                  have g2n : decide (m ≤ i) = false := decide_eq_false f2n
                  have f3 : ¬ O < 0 := by omega
                  have f4 : ¬ len ≤ O := by omega
                  have g1 : decide ((i : Int) < 0) = false := decide_eq_false f1
                  have g2 : decide ((m : Int) ≤ (i : Int)) = false := decide_eq_false f2
                  have g3 : decide (O < 0) = false := decide_eq_false f3
                  have g4 : decide (len ≤ O) = false := decide_eq_false f4
                  have hI1 : (0 : Int) ≤ (i : Int) := by omega
                  have hI2 : (i : Int) < (m : Int) := by omega
                  obtain ⟨S1, hS1⟩ : ∃ S1, S1 = at_ + O := ⟨_, rfl⟩
                  have w1' : IntKind.i64.wrap (at_ + O) = S1 := by rw [← hS1]; exact IntWalk.i64_in _ ⟨by omega, by omega⟩
                  have w2' : S1 % sl = (sN : Int) := by rw [hS1]; exact hob3
                  have w3' : S1.tmod sl = (sN : Int) := by rw [Int.tmod_eq_emod_of_nonneg (by omega)]; exact w2'
                  have hsl0 : ¬ sl = 0 := by omega
                  obtain ⟨⟨p0, p1, p2, p3, p4⟩, q0, q1, q2, q3, q4, q5, q6⟩ := HCE.out _ (th hb05 (th hb hb7))
                  clear hal hi hx hO ho hfirst hs3 hob3 i1 i2 i3 hS1
                  go_wp2_with fail
                  go_upto_region 13 with fail
                  go_cut [106] (fun v wc => v = .bool false ∧ Below w7.heap.size w7 wc)
                  case first =>
                    go_quiet (fail)
                    go_wp2_with fail
                    go_meet
                    exact ⟨rfl, drewN_below _ _⟩
                  case rest =>
                    obtain ⟨rfl, hb8⟩ := hcut
                    obtain ⟨w8, rfl⟩ : ∃ w8 : World, w8 = wc := ⟨_, rfl⟩
                    have hb78 := th hb7 hb8
                    have hsz8 := hb78.size
                    obtain ⟨x1, A1, n1, c1, hx1, _, hgl, hxl, hcell1, hfr1, how1, hne1, hlow1, hst1⟩ := (hrow.out.below hb78).spot him
                    have hE := alloc_below w8 (.cells #[.int .i64 O] 3)
                    have hrE := how1.below intR_fine hE
                    have hlit : Is (w8.alloc (.cells #[.int .i64 O] 3)) (some ⟨w8.heap.size, 0, none⟩) 1 1 [O] := lit_ints_at (n := 1) (l := [O]) rfl rfl (by omega) (fun z hz => by simp at hz; subst hz; exact ⟨by omega, by omega⟩) rfl
                    have hc1 : (w8.alloc (.cells #[.int .i64 O] 3)).cell? ⟨w5.heap.size, i, none⟩ = some (.slice A1 n1 c1) := (hE.cell (by exact hgl)).trans hcell1
                    have hf1 : (w8.alloc (.cells #[.int .i64 O] 3)).frozen? ⟨w5.heap.size, i, none⟩ = false := (hE.frozen (by exact hgl)).trans hfr1
                    have hcn := hLL.out i x1 hx1
                    have hn1 : n1 ≤ 30 := by omega
                    have HST := hide hst1
                    have HC1 := hide hc1
                    have HF1 := hide hf1
                    have HX1 := hide hx1
                    have HXL := hide hxl
                    have hgE : w5.heap.size < (w8.alloc (.cells #[.int .i64 O] 3)).heap.size := Nat.lt_of_lt_of_le hgl hE.size
                    have HBA : Hid (∀ w9, (w8.alloc (.cells #[.int .i64 O] 3)).grownBy w9 (Value.slice A1 n1 c1).ownBlock → w9.heap[w5.heap.size]? = (w8.alloc (.cells #[.int .i64 O] 3)).heap[w5.heap.size]? ∧ Below w5.heap.size w5 w9) := hide fun w9 hg9 => ⟨hg9.block _ hgE (fun e => hne1 e.symm), ((hb.trans ((th hb78 hE).mono hb.size))).grown hg9 (by omega) hlow1⟩
                    clear hst1 hc1 hf1 hx1 hxl hcn how1
                    go_wp2_with (at_builtin; refine wpList_append_ow _ rfl (.tmp 114) (.tmp 116) _ rfl intR_fine 0 0 3 j0 _ 8 Tryd.underlying27 hj0 jj0 jj1 jj2 rfl (by omega) (.slice A1 n1 c1) n1 _ rfl hrE _ _ 1 1 _ rfl hlit (fun _ _ _ h => h) (by simp only [maxLen]; omega) (by omega) (Nat.zero_le _) ?_; intro V9 w9 ho9 hg9 hat9; obtain ⟨A9, c9, rfl⟩ := ho9.form; obtain ⟨hbk9, hb9⟩ := HBA.out _ hg9; have hc9 : w9.cell? ⟨w5.heap.size, i, none⟩ = some (.slice A1 n1 c1) := (World.cell?_of_block (a := ⟨w5.heap.size, i, none⟩) hbk9).trans HC1.out; have hf9 : w9.frozen? ⟨w5.heap.size, i, none⟩ = false := (frozen_of_blk hbk9).trans HF1.out)
                    go_roundw
                    case rel =>
                      have hc := hLL.out i x1 HX1.out
                      obtain ⟨hr1, hr2, hr3⟩ := HAL.out
                      have hst := HST.out _ w9 (x1 ++ [O]) A9 (n1 + 1) c9 hE hg9 hat9 (fun b e => (ho9.lt b e).2) ho9
                      refine ⟨sN + 1, N + 1, LL.set i (x1 ++ [O]), by omega, by go_num, by go_num, by omega, by omega, hide ?_, hide hst, hide (fun j y hy => ?_), hb9.setCell (Nat.le_refl _) _, by rw [set_size]; have := hg9.size; omega⟩
                      · rw [show ((sN + 1 : Nat) : Int) = (sN : Int) + 1 by omega, cnt_yes HP.out HSR.out (by omega) hsT1 hsT0 ⟨by unfold dd; split <;> omega, hr2⟩, ← hNc.out]
                      · have hjm : j < L.length := by have h1 := (List.getElem?_eq_some_iff.1 hy).1; rw [HML.out]; have h2 := hrow.out.len; rw [List.length_set] at h1; omega
                        have hly := log_lies (show sl ≤ 30 from hsl2) HP.out HLK.out (List.getElem?_eq_getElem hjm)
                        dsimp only at hly
                        by_cases hji : j = i
                        · subst hji
                          rw [List.getElem?_set_self (by have h1 := (List.getElem?_eq_some_iff.1 HX1.out).1; exact h1)] at hy
                          injection hy with hy
                          subst hy
                          rw [show ((sN + 1 : Nat) : Int) = (sN : Int) + 1 by omega, cnt_yes HP.out HSR.out hly.1 (by omega) hly.2.2.2.1 hr1, List.length_append]
                          exact ⟨by simp; exact hc.1, by simp; exact hc.2⟩
                        · rw [List.getElem?_set_ne (by omega)] at hy
                          have h1 := hLL.out j y hy
                          rw [show ((sN + 1 : Nat) : Int) = (sN : Int) + 1 by omega, cnt_no HP.out HSR.out hly.1 (by omega) hly.2.2.2.1 (hr3 j hjm hji)]
                          exact ⟨h1.1, by omega⟩
                    case measure => simp [intOf]; omega
                · have hnl := none_lies (show sl ≤ 30 from hsl2) HP.out HSR.out HLK.out hno
                  have HNL := hide hnl
                  clear hnl hno
                  go_wp2_with fail
                  go_roundw
                  case rel =>
                    refine ⟨sN + 1, N, LL, by omega, by go_num, rfl, by omega, by omega, hide ?_, hide (hrow.out.below hb7), hide (fun j x hx => ?_), th hb hb7, by have := hb7.size; omega⟩
                    · rw [show ((sN + 1 : Nat) : Int) = (sN : Int) + 1 by omega, cnt_no HP.out HSR.out (by omega) hsT1 hsT0 (fun h => by have h5 := HNL.out.2; omega)]
                      exact hNc.out
                    · have hjm : j < L.length := by have h1 := (List.getElem?_eq_some_iff.1 hx).1; rw [HML.out]; have h2 := hrow.out.len; omega
                      have hly := log_lies (show sl ≤ 30 from hsl2) HP.out HLK.out (List.getElem?_eq_getElem hjm)
                      have h1 := hLL.out j x hx
                      dsimp only at hly
                      rw [show ((sN + 1 : Nat) : Int) = (sN : Int) + 1 by omega, cnt_no HP.out HSR.out hly.1 (by omega) hly.2.2.2.1 (fun h => by have h5 := HNL.out.1 j hjm; omega)]
                      exact ⟨h1.1, by omega⟩
                  case measure => simp [intOf]; omega
              · have dlt : decide ((sN : Int) < sl) = false := decide_eq_false hlt
                have hse2 : (sN : Int) = sl := by omega
                have HLEN2 : Hid (∀ (j : Nat) (x : List Int) (t : Txn), LL[j]? = some x → L[j]? = some t → t.len = (x.length : Int)) := hide fun j x t hx ht => by
                  have hly := log_lies (show sl ≤ 30 from hsl2) HP.out HLK.out ht
                  have h1 := (hLL.out j x hx).1
                  dsimp only at hly
                  rw [hse2, cnt_end HP.out hly.1 (by omega) hly.2.2.2.1] at h1
                  omega
                have HNU : Hid (N = (U : Int)) := hide (by
                  have h1 := hNc.out
                  rw [hse2, cnt_end HP.out (by omega) hsT1 hsT0] at h1
                  rw [h1, HUI.out]
                  omega)
                obtain rfl := HNU.out
                clear hse2
                go_wp2_with fail
                go_loopw [16] (fun I wr => ∃ k : Nat, k ≤ m ∧ I = .int .i64 k ∧ Below wo.heap.size wo wr) (fun i _ => m - (intOf i).toNat)
                case atStart => exact ⟨0, Nat.zero_le _, rfl, Below.refl _ _⟩
                case round =>
                  obtain ⟨k, hk, rfl, hbk⟩ := hrel
                  by_cases hkm : k < m
                  · obtain ⟨ad, t, A', n', c', rfl, hadl, hx, i1, i2, i3, hs3, e0, e1, e2, e3⟩ := at_txn (HL4.out.on txnR_fine (th hb5 (th hb hbk))) hkm
                    obtain ⟨x1, A1, n1, c1, hx1, _, hgl, hxl, hcell1, hfr1, how1, hne1, hlow1, hst1⟩ := (hrow.out.below hbk).spot hkm
                    have hle := HLEN2.out k x1 t hx1 hx
                    rw [hxl] at hle
                    obtain ⟨num, at_, len, ims⟩ := t
                    dsimp only at *
                    subst hle
                    have hI1 : (0 : Int) ≤ (k : Int) := by omega
                    have hI2 : (k : Int) < (m : Int) := by omega
                    clear hx hx1 hxl how1 hst1 hs3 i1 i2 i3
                    go_wp2_with fail
                    go_quiet (fail)
                    go_wp2_with fail
                    go_roundw
                    case rel => exact ⟨k + 1, by omega, by go_num, th hbk (drewN_below _ _)⟩
                    case measure => simp [intOf]; omega
                  · obtain rfl : k = m := by omega
                    have hb4k := th hb5 (th hb hbk)
                    obtain ⟨⟨p0, p1, p2, p3, p4⟩, q0, q1, q2, q3, q4, q5, q6⟩ := HCE.out _ (th hb04 hb4k)
                    obtain ⟨P', hP'⟩ : ∃ P', P' = (pos + (U : Int)) % sl := ⟨_, rfl⟩
                    have hnx := HNX.out _ hb4k
                    rw [← hP'] at hnx
                    have t1 : (pos + (U : Int)) % sl = P' := hP'.symm
                    have t2 : (pos + (U : Int)).tmod sl = P' := by rw [Int.tmod_eq_emod_of_nonneg (by omega), hP']
                    have hsl0 : ¬ sl = 0 := by omega
                    have HNX1 := hide hnx
                    have hk0 : 0 ≤ (k : Int) := by omega
                    have hU0 : 0 ≤ (U : Int) := by omega
                    have hU30 : (U : Int) ≤ 30 := by rw [HUI.out]; omega
                    clear hnx hP'
                    go_wp2_with fail
                    (with_reducible refine HNX1.out.mono ?_)
                    rintro e w8 ⟨rfl, hb8⟩
                    have hb48 := th hb4k hb8
                    obtain ⟨⟨p0, p1, p2, p3, p4⟩, q0, q1, q2, q3, q4, q5, q6⟩ := HCE.out _ (th hb04 hb48)
                    go_wp2_with fail
                    (with_reducible refine (HUS.out _ hb48).mono ?_)
                    rintro e w9 ⟨rfl, hb9⟩
                    have hb49 := th hb48 hb9
                    obtain ⟨⟨p0, p1, p2, p3, p4⟩, q0, q1, q2, q3, q4, q5, q6⟩ := HCE.out _ (th hb04 hb49)
                    go_wp2_with fail
                    (with_reducible refine (wakes16 _ (hT.below (th hb0 (th hb04 hb49)))).mono ?_)
                    rintro e w10 ⟨rfl, hb10⟩
                    go_wp2_with fail
                    go_ret
                    exact ⟨rfl, th hb0 (th hb04 (th hb49 hb10))⟩
          · have hnq : (1000000 : Int) < seq := by omega
            have dq : decide ((1000000 : Int) < seq) = true := decide_eq_true hnq
            go_enter Tryd.func3, Tryd.ntmps3
            go_wp2_with fail
            rw [← hW0]
            clear hW0
            (with_reducible refine HHV.out.mono ?_)
            rintro e w1 ⟨rfl, hb1⟩
            obtain ⟨⟨p0, p1, p2, p3, p4⟩, q0, q1, q2, q3, q4, q5, q6⟩ := HCE.out _ hb1
            go_wp2_with fail
            (with_reducible refine (HGE.out _).mono ?_)
            rintro e w2 ⟨rfl, hb2⟩
            have hb02 := th hb1 hb2
            obtain ⟨⟨p0, p1, p2, p3, p4⟩, q0, q1, q2, q3, q4, q5, q6⟩ := HCE.out _ hb02
            go_wp2_with fail
            (with_reducible refine (HAN.out hG _ hb02 hlt).mono ?_)
            rintro e w3 ⟨rfl, hb3⟩
            have hb03 := th hb02 hb3
            obtain ⟨⟨p0, p1, p2, p3, p4⟩, q0, q1, q2, q3, q4, q5, q6⟩ := HCE.out _ hb03
            go_wp2_with fail
            go_ret
            exact ⟨rfl, th hb0 hb03⟩
    · have hn40 : (40 : Int) < (ns : Int) := by omega
      have d40 : decide ((40 : Int) < (ns : Int)) = true := decide_eq_true hn40
      go_enter Tryd.func3, Tryd.ntmps3
      go_wp2_with fail
      rw [← hW0]
      clear hW0
      (with_reducible refine HHV.out.mono ?_)
      rintro e w1 ⟨rfl, hb1⟩
      obtain ⟨⟨p0, p1, p2, p3, p4⟩, q0, q1, q2, q3, q4, q5, q6⟩ := HCE.out _ hb1
      go_wp2_with fail
      go_ret
      exact ⟨rfl, th hb0 hb1⟩

theorem byte_of_wfR {x : Int} (h : (Lit.int .u8 x).wf = true) : ∃ b : UInt8, x = (b.toNat : Int) := by
  have hr : 0 ≤ x ∧ x ≤ 255 := bounds_u8 h
  exact ⟨UInt8.ofNat x.toNat, by rw [UInt8.toNat_ofNat']; omega⟩
theorem law_ringApart {w : World} (hT : Tabs w) {v0 v1 : Value} {g : Geo} {a : Anc} (hg : ArgR geoR w v0 g) (ha : ArgR ancR w v1 a) {B : Option Addr} {ns cs : Nat} {Z : List Int} (hz : Is w B ns cs Z) (f : Int) (hf : (Lit.int .u8 f).wf = true) :
    Calls Tryd.prog 3 #[v0, v1, .slice B ns cs, .int .u8 f] w fun e w' => e = .returned (.bool true) ∧ Below w.heap.size w w' := by
  obtain ⟨rfl, _⟩ := geo_form hg
  obtain ⟨A, n, c, rfl, hin, hs⟩ := anc_form ha
  obtain ⟨F, rfl⟩ := byte_of_wfR hf
  exact walk_ringApart hT g a A n c hs hin B ns cs Z hz F

end Go.Proofs.YtdcoholjnlndgaaDoor
