/-
  Plain: the runes of a text, its beginnings, what may be a label. No program in sight.
-/
import Derived.Lib.ValidLaws
namespace Go.Proofs.YtdcoholjnlndgaaDoor
open Go.Lib
set_option linter.unusedVariables false

/-- The bytes of a string; a string of bytes. -/
abbrev sL (s : ByteArray) : List UInt8 := s.data.toList
theorem sL_len (s : ByteArray) : (sL s).length = s.size := (Lib.size_eq s).symm
def mkS (l : List UInt8) : ByteArray := ⟨l.toArray⟩
theorem sL_mk (l : List UInt8) : sL (mkS l) = l := rfl
theorem mk_sL (s : ByteArray) : mkS (sL s) = s := rfl
/-- A label's bytes. -/
def labB (l : List UInt8) : List UInt8 := UInt8.ofNat l.length :: l

/-- A step of the decoder that is no rune. -/
def Bad (x : Nat × Nat) : Prop := x.1 = 65533 ∧ x.2 = 1
instance (x : Nat × Nat) : Decidable (Bad x) := by unfold Bad; infer_instance
/-- A rune that may stand in a label. -/
def Good (x : Nat × Nat) : Prop := ¬ Bad x ∧ 32 ≤ x.1 ∧ x.1 ≠ 127
instance (x : Nat × Nat) : Decidable (Good x) := by unfold Good; infer_instance

/-- The runes of a text, each with its width. -/
def decs (l : List UInt8) : List (Nat × Nat) := if h : l = [] then [] else decodeL l :: decs (l.drop (decodeL l).2)
termination_by l.length
decreasing_by
  rw [List.length_drop]
  have h1 := decodeL_width l
  have h2 := List.length_pos_iff.2 h
  omega

theorem decs_nil : decs [] = [] := by rw [decs]; simp
theorem decs_cons {l : List UInt8} (h : l ≠ []) : decs l = decodeL l :: decs (l.drop (decodeL l).2) := by rw [decs, dif_neg h]

theorem decs_ind {Q : List UInt8 → Prop} (h0 : Q []) (h1 : ∀ l, l ≠ [] → Q (l.drop (decodeL l).2) → Q l) (l : List UInt8) : Q l := by
  have key : ∀ n (l : List UInt8), l.length ≤ n → Q l := by
    intro n
    induction n with
    | zero => intro l hl; obtain rfl := List.eq_nil_of_length_eq_zero (Nat.le_zero.1 hl); exact h0
    | succ n ih =>
      intro l hl
      by_cases hne : l = []
      · rw [hne]; exact h0
      · have hw := decodeL_width l
        have hp := List.length_pos_iff.2 hne
        exact h1 l hne (ih _ (by rw [List.length_drop]; omega))
  exact key l.length l (Nat.le_refl _)

theorem valid_decs (l : List UInt8) : validD l = true ↔ ∀ x ∈ decs l, ¬ Bad x := by
  refine decs_ind (Q := fun l => validD l = true ↔ ∀ x ∈ decs l, ¬ Bad x) ?_ (fun l hne ih => ?_) l
  · rw [decs_nil]; simp [validD_nil]
  · rw [validD_step l hne, decs_cons hne]
    by_cases hb : (decodeL l).1 = 65533 ∧ (decodeL l).2 = 1
    · rw [if_pos hb]
      exact ⟨fun h => (by cases h), fun h => absurd hb (h _ (List.mem_cons_self ..))⟩
    · rw [if_neg hb, ih]
      constructor
      · intro h x hx
        rcases List.mem_cons.1 hx with rfl | hx
        · exact hb
        · exact h x hx
      · exact fun h x hx => h x (List.mem_cons_of_mem _ hx)

/-- Where the k-th rune begins. -/
def posN (l : List UInt8) (k : Nat) : Nat := (((decs l).take k).map (·.2)).sum
theorem posN_zero (l : List UInt8) : posN l 0 = 0 := by simp [posN]
theorem posN_cons {l : List UInt8} (h : l ≠ []) (k : Nat) : posN l (k + 1) = (decodeL l).2 + posN (l.drop (decodeL l).2) k := by
  unfold posN
  rw [decs_cons h]
  simp
theorem posN_nil (k : Nat) : posN [] k = 0 := by simp [posN, decs_nil]
theorem posN_le (l : List UInt8) : ∀ k, posN l k ≤ l.length := by
  refine decs_ind (Q := fun l => ∀ k, posN l k ≤ l.length) (fun k => by rw [posN_nil]; exact Nat.zero_le _) (fun l hne ih k => ?_) l
  cases k with
  | zero => rw [posN_zero]; exact Nat.zero_le _
  | succ k =>
    rw [posN_cons hne]
    have h1 := ih k
    have h2 := decodeL_le l hne
    rw [List.length_drop] at h1
    omega
theorem decs_drop (l : List UInt8) : ∀ k, decs (l.drop (posN l k)) = (decs l).drop k := by
  refine decs_ind (Q := fun l => ∀ k, decs (l.drop (posN l k)) = (decs l).drop k) (fun k => by simp [decs_nil]) (fun l hne ih k => ?_) l
  cases k with
  | zero => simp [posN_zero]
  | succ k => rw [posN_cons hne, ← List.drop_drop, ih k, decs_cons hne, List.drop_succ_cons]
theorem posN_step {l : List UInt8} {k : Nat} (h : posN l k < l.length) : k < (decs l).length ∧ (decs l)[k]? = some (decodeL (l.drop (posN l k))) ∧ posN l (k + 1) = posN l k + (decodeL (l.drop (posN l k))).2 := by
  have hne : l.drop (posN l k) ≠ [] := fun e => by have := congrArg List.length e; rw [List.length_drop] at this; simp at this; omega
  have hd := decs_drop l k
  rw [decs_cons hne] at hd
  have hk : k < (decs l).length := by
    rcases Nat.lt_or_ge k (decs l).length with h1 | h1
    · exact h1
    · rw [List.drop_of_length_le h1] at hd
      cases hd
  have hx : (decs l)[k]? = some (decodeL (l.drop (posN l k))) := by
    rw [List.drop_eq_getElem_cons hk] at hd
    injection hd with h1 _
    rw [List.getElem?_eq_getElem hk, h1]
  refine ⟨hk, hx, ?_⟩
  unfold posN
  obtain ⟨h1, h2⟩ := List.getElem?_eq_some_iff.1 hx
  rw [List.take_succ_eq_append_getElem h1, h2, List.map_append, List.sum_append]
  simp [posN]
theorem posN_end {l : List UInt8} {k : Nat} (h : ¬ posN l k < l.length) : posN l k = l.length ∧ (decs l).length ≤ k := by
  have h1 := posN_le l k
  have e : posN l k = l.length := by omega
  refine ⟨e, ?_⟩
  have hd := decs_drop l k
  rw [e, List.drop_length, decs_nil] at hd
  have := congrArg List.length hd
  simp at this
  omega
theorem posN_all {l : List UInt8} {k : Nat} (h : (decs l).length ≤ k) : posN l k = l.length := by
  rcases Nat.lt_or_ge (posN l k) l.length with h1 | h1
  · have := (posN_step h1).1
    omega
  · exact Nat.le_antisymm (posN_le l k) h1

/-- As much of the beginning as has so many runes. -/
def cutL (l : List UInt8) (n : Int) : List UInt8 := l.take (posN l n.toNat)

/-- What is wrong with a label. -/
def labE (l : List UInt8) : Int := if ∀ x ∈ decs l, Good x then (if 6 < (decs l).length then 2 else 0) else 3

/-- The label that bytes begin with, and how many bytes it has. -/
def readLab (b : List UInt8) : Option (List UInt8) := match b with
  | [] => none
  | x :: r => if r.length < x.toNat then none else if labE (r.take x.toNat) = 0 then some (r.take x.toNat) else none

/-- The runes, by steps that are counted. -/
def decsF : Nat → List UInt8 → List (Nat × Nat)
  | 0, _ => []
  | n + 1, l => if l = [] then [] else decodeL l :: decsF n (l.drop (decodeL l).2)
theorem decsF_eq : ∀ (n : Nat) (l : List UInt8), l.length ≤ n → decsF n l = decs l
  | 0, l, h => by rw [List.eq_nil_of_length_eq_zero (Nat.le_zero.1 h), decs_nil]; rfl
  | n + 1, l, h => by
    unfold decsF
    by_cases hne : l = []
    · rw [if_pos hne, hne, decs_nil]
    · have hw := decodeL_width l
      have hl := List.length_pos_iff.2 hne
      rw [if_neg hne, decs_cons hne, decsF_eq n _ (by rw [List.length_drop]; omega)]

/-! ### cut short, put together -/
theorem decodeN_keep (n n' b0 b1 b2 b3 b1' b2' b3' : Nat) (hv : ¬ Bad (decodeN n b0 b1 b2 b3)) (hn : (decodeN n b0 b1 b2 b3).2 ≤ n')
    (h1 : 1 < (decodeN n b0 b1 b2 b3).2 → b1' = b1) (h2 : 2 < (decodeN n b0 b1 b2 b3).2 → b2' = b2) (h3 : 3 < (decodeN n b0 b1 b2 b3).2 → b3' = b3) :
    decodeN n' b0 b1' b2' b3' = decodeN n b0 b1 b2 b3 := by
  rcases decodeN_shape n b0 b1 b2 b3 with ⟨c, e⟩ | ⟨c1, c2, c3, cv, e⟩ | ⟨c1, c2, c3, c4, cv, cs, e⟩ | ⟨c1, c2, c3, c4, c5, cv, cw, e⟩ | e
  · rw [e]
    unfold decodeN
    rw [if_pos c]
  · rw [e] at h1 hn ⊢
    obtain rfl := h1 (by show 1 < 2; omega)
    dsimp only at hn
    unfold decodeN
    rw [if_neg (by omega), if_pos ⟨c1, by omega, c3⟩, if_pos cv]
  · rw [e] at h1 h2 hn ⊢
    obtain rfl := h1 (by show 1 < 3; omega)
    obtain rfl := h2 (by show 2 < 3; omega)
    dsimp only at hn
    unfold decodeN
    rw [if_neg (by omega), if_neg (by omega), if_pos ⟨c1, ⟨by omega, c3⟩, by omega, c4⟩, if_pos ⟨cv, by omega⟩]
  · rw [e] at h1 h2 h3 hn ⊢
    obtain rfl := h1 (by show 1 < 4; omega)
    obtain rfl := h2 (by show 2 < 4; omega)
    obtain rfl := h3 (by show 3 < 4; omega)
    dsimp only at hn
    unfold decodeN
    rw [if_neg (by omega), if_neg (by omega), if_neg (by omega), if_pos ⟨c1, ⟨by omega, c3⟩, ⟨by omega, c4⟩, by omega, c5⟩, if_pos ⟨cv, by omega⟩]
  · rw [e] at hv
    exact absurd ⟨rfl, rfl⟩ hv
theorem getD_of_take {l l' : List UInt8} {w i : Nat} (h : l'.take w = l.take w) (hi : i < w) : l'.getD i 0 = l.getD i 0 := by
  have h1 := congrArg (fun x => x[i]?) h
  simp only [List.getElem?_take, if_pos hi] at h1
  rw [List.getD_eq_getElem?_getD, List.getD_eq_getElem?_getD, h1]
theorem dec_keep {l l' : List UInt8} (hne : l ≠ []) (hv : ¬ Bad (decodeL l)) (h : l'.take (decodeL l).2 = l.take (decodeL l).2) : decodeL l' = decodeL l := by
  have hw := decodeL_le l hne
  have hp := decodeL_width l
  have hl := congrArg List.length h
  rw [List.length_take, List.length_take] at hl
  rw [decodeL_N l', decodeL_N l, getD_of_take h (i := 0) (by omega)]
  refine decodeN_keep _ _ _ _ _ _ _ _ _ ?_ ?_ ?_ ?_ ?_
  · rw [← decodeL_N]; exact hv
  · rw [← decodeL_N]; omega
  · rw [← decodeL_N]; exact fun hi => by rw [getD_of_take h hi]
  · rw [← decodeL_N]; exact fun hi => by rw [getD_of_take h hi]
  · rw [← decodeL_N]; exact fun hi => by rw [getD_of_take h hi]
theorem dec_append {l : List UInt8} (hne : l ≠ []) (hv : ¬ Bad (decodeL l)) (r : List UInt8) : decodeL (l ++ r) = decodeL l :=
  dec_keep hne hv (List.take_append_of_le_length (decodeL_le l hne))
theorem bad_eq {x : Nat × Nat} (h : Bad x) : x = (65533, 1) := by
  obtain ⟨a, b⟩ := x
  obtain ⟨h1, h2⟩ := h
  simp only at h1 h2
  rw [h1, h2]
theorem dec_take {l : List UInt8} (hne : l ≠ []) {m : Nat} (hm : (decodeL l).2 ≤ m) : decodeL (l.take m) = decodeL l := by
  have hp := decodeL_width l
  by_cases hb : Bad (decodeL l)
  · by_cases hb' : Bad (decodeL (l.take m))
    · rw [bad_eq hb, bad_eq hb']
    · have hne' : l.take m ≠ [] := fun e => by
        have h1 := congrArg List.length e
        rw [List.length_take, List.length_nil] at h1
        have h2 := List.length_pos_iff.2 hne
        omega
      have h1 := decodeL_le (l.take m) hne'
      rw [List.length_take] at h1
      exact (dec_keep hne' hb' (by rw [List.take_take, Nat.min_eq_left (by omega)])).symm
  · exact dec_keep hne hb (by rw [List.take_take, Nat.min_eq_left hm])

theorem decs_append : ∀ a : List UInt8, (∀ x ∈ decs a, ¬ Bad x) → ∀ b, decs (a ++ b) = decs a ++ decs b := by
  refine decs_ind (fun _ b => by simp [decs_nil]) (fun l hne ih h b => ?_)
  rw [decs_cons hne] at h
  have hv := h _ (List.mem_cons_self ..)
  have h2 := ih (fun x hx => h x (List.mem_cons_of_mem _ hx)) b
  have hne2 : l ++ b ≠ [] := fun e => hne (List.append_eq_nil_iff.1 e).1
  rw [decs_cons hne2, dec_append hne hv, List.drop_append_of_le_length (decodeL_le l hne), h2, decs_cons hne, List.cons_append]
theorem decs_cut (l : List UInt8) : ∀ k, decs (l.take (posN l k)) = (decs l).take k := by
  refine decs_ind (Q := fun l => ∀ k, decs (l.take (posN l k)) = (decs l).take k) (fun k => by simp [decs_nil]) (fun l hne ih k => ?_) l
  cases k with
  | zero => simp [posN_zero, decs_nil]
  | succ k =>
    have hw := decodeL_width l
    have hp := List.length_pos_iff.2 hne
    rw [posN_cons hne]
    have hne2 : l.take ((decodeL l).2 + posN (l.drop (decodeL l).2) k) ≠ [] := fun e => by
      have h1 := congrArg List.length e
      rw [List.length_take, List.length_nil] at h1
      omega
    rw [decs_cons hne2, dec_take hne (Nat.le_add_right _ _), List.drop_take, Nat.add_sub_cancel_left, ih k, decs_cons hne, List.take_succ_cons]
theorem posN_sum (l : List UInt8) (k : Nat) : posN l k = (((decs l).take k).map (·.2)).sum := rfl
theorem posN_cut (l : List UInt8) (n m : Nat) : posN (l.take (posN l n)) m = posN l (min m n) := by
  rw [posN_sum, decs_cut, List.take_take, ← posN_sum]
/-- All the widths are the length. -/
theorem decs_sum (l : List UInt8) : ((decs l).map (·.2)).sum = l.length := by
  have h := posN_all (l := l) (k := (decs l).length) (Nat.le_refl _)
  unfold posN at h
  rwa [List.take_length] at h
theorem width_le (l : List UInt8) : (decodeL l).2 ≤ 4 := by
  rw [decodeL_N]
  rcases decodeN_shape l.length (l.getD 0 0).toNat (l.getD 1 0).toNat (l.getD 2 0).toNat (l.getD 3 0).toNat with ⟨c, e⟩ | ⟨c1, c2, c3, cv, e⟩ | ⟨c1, c2, c3, c4, cv, cs, e⟩ | ⟨c1, c2, c3, c4, c5, cv, cw, e⟩ | e
  all_goals (rw [e]; dsimp only; omega)
theorem len_le (l : List UInt8) : l.length ≤ 4 * (decs l).length := by
  refine decs_ind (Q := fun l => l.length ≤ 4 * (decs l).length) (by simp) (fun l hne ih => ?_) l
  rw [List.length_drop] at ih
  rw [decs_cons hne, List.length_cons]
  have := width_le l
  omega
theorem runes_le (l : List UInt8) : (decs l).length ≤ l.length := by
  refine decs_ind (Q := fun l => (decs l).length ≤ l.length) (by simp [decs_nil]) (fun l hne ih => ?_) l
  rw [List.length_drop] at ih
  rw [decs_cons hne, List.length_cons]
  have := decodeL_width l
  have := List.length_pos_iff.2 hne
  omega
theorem labE_ok {l : List UInt8} : labE l = 0 ↔ (∀ x ∈ decs l, Good x) ∧ (decs l).length ≤ 6 := by
  unfold labE
  by_cases h : ∀ x ∈ decs l, Good x
  · rw [if_pos h]
    by_cases h6 : 6 < (decs l).length
    · rw [if_pos h6]
      exact ⟨fun h => (by cases h), fun h => (by omega)⟩
    · rw [if_neg h6]
      exact ⟨fun _ => ⟨h, by omega⟩, fun _ => rfl⟩
  · rw [if_neg h]
    exact ⟨fun h2 => (by cases h2), fun h1 => absurd h1.1 h⟩
theorem lab_len {l : List UInt8} (h : labE l = 0) : l.length ≤ 24 := by
  have := (labE_ok.1 h).2
  have := len_le l
  omega
theorem labE_cases (l : List UInt8) : labE l = 0 ∨ labE l = 2 ∨ labE l = 3 := by
  unfold labE
  split
  · split
    · exact .inr (.inl rfl)
    · exact .inl rfl
  · exact .inr (.inr rfl)

end Go.Proofs.YtdcoholjnlndgaaDoor
