/-
  Plain: a right geometry, a right table, a table's bytes.
-/
import Derived.Test.YtdcoholjnlndgaaDoorCrc
import Derived.Test.YtdcoholjnlndgaaDoorStruct
namespace Go.Proofs.YtdcoholjnlndgaaDoor
open Go.RowKit
set_option linter.unusedVariables false

/-- A right geometry. -/
def GeoOk (g : Geo) : Prop := (1 ≤ g.zones ∧ g.zones ≤ 4) ∧ (1 ≤ g.data ∧ g.data ≤ 4) ∧ (0 ≤ g.spares ∧ g.spares ≤ 2) ∧ (14 ≤ g.slots ∧ g.slots ≤ 30) ∧ 1 ≤ g.anchors ∧ g.anchors ≤ 3
instance (g : Geo) : Decidable (GeoOk g) := by unfold GeoOk; infer_instance

/-- A right number. -/
def NumOk (n : Int) : Prop := 0 ≤ n ∧ n ≤ 4294967295
instance (n : Int) : Decidable (NumOk n) := by unfold NumOk; infer_instance
def EntOk (e : Ent) : Prop := NumOk e.stamp ∧ NumOk e.sum
instance (e : Ent) : Decidable (EntOk e) := by unfold EntOk; infer_instance
/-- A right table of so many blocks. -/
def TabOk (d : Int) (L : List Ent) : Prop := (L.length : Int) = d + 1 ∧ (∀ e ∈ L, EntOk e) ∧ ∀ e, L[d.toNat]? = some e → e.lost = false
instance (d : Int) (L : List Ent) : Decidable (TabOk d L) := by
  unfold TabOk
  exact @instDecidableAnd _ _ _ (@instDecidableAnd _ _ _ (match h : L[d.toNat]? with | none => isTrue (fun e h => by cases h) | some e => if h2 : e.lost = false then isTrue (fun e' h' => by injection h' with h'; subst h'; exact h2) else isFalse fun hh => h2 (hh e rfl)))

/-- An entry's bytes; a table's. -/
def lostN (b : Bool) : Nat := if b then 1 else 0
def entL (e : Ent) : List UInt8 := le 4 e.stamp.toNat ++ le 4 e.sum.toNat ++ le 1 (lostN e.lost)
def tabL (L : List Ent) : List UInt8 := (L.map entL).flatten
theorem entL_len (e : Ent) : (entL e).length = 9 := by simp [entL, le_len]
theorem tabL_len (L : List Ent) : (tabL L).length = 9 * L.length := by
  induction L with
  | nil => rfl
  | cons e L ih =>
    have : tabL (e :: L) = entL e ++ tabL L := rfl
    rw [this, List.length_append, entL_len, ih, List.length_cons]
    omega
/-- The entry that nine bytes are. -/
def entOf (l : List UInt8) : Ent := ⟨num (l.take 4), num ((l.drop 4).take 4), decide (num ((l.drop 8).take 1) = 1)⟩
/-- As many entries of bytes. -/
def tabOf : Nat → List UInt8 → List Ent
  | 0, _ => []
  | k + 1, l => entOf l :: tabOf k (l.drop 9)
theorem tabOf_len (k : Nat) (l : List UInt8) : (tabOf k l).length = k := by
  induction k generalizing l with
  | zero => rfl
  | succ k ih => simp [tabOf, ih]
theorem entOf_ok {l : List UInt8} (h : 9 ≤ l.length) : EntOk (entOf l) := by
  have h1 := num_take_lt l 4 (by omega)
  have h2 := num_take_lt (l.drop 4) 4 (by simp; omega)
  constructor <;> simp only [NumOk, entOf] <;> omega
theorem tabOf_ok {k : Nat} {l : List UInt8} (h : 9 * k ≤ l.length) : ∀ e ∈ tabOf k l, EntOk e := by
  induction k generalizing l with
  | zero => intro e he; simp [tabOf] at he
  | succ k ih =>
    intro e he
    simp only [tabOf, List.mem_cons] at he
    rcases he with rfl | he
    · exact entOf_ok (by omega)
    · exact ih (by simp; omega) e he
theorem lostN_of (b : Bool) : decide (lostN b = 1) = b := by cases b <;> rfl
theorem entOf_L {e : Ent} (h : EntOk e) (r : List UInt8) : entOf (entL e ++ r) = e := by
  obtain ⟨⟨a1, a2⟩, b1, b2⟩ := h
  have e1 : (entL e ++ r).take 4 = le 4 e.stamp.toNat := by simp [entL, le]
  have e2 : ((entL e ++ r).drop 4).take 4 = le 4 e.sum.toNat := by simp [entL, le]
  have e3 : ((entL e ++ r).drop 8).take 1 = le 1 (lostN e.lost) := by simp [entL, le]
  unfold entOf
  rw [e1, e2, e3, num_le, num_le, num_le, Nat.mod_eq_of_lt (by omega), Nat.mod_eq_of_lt (by omega), Nat.mod_eq_of_lt (by cases e.lost <;> simp [lostN]), lostN_of]
  obtain ⟨s, u, b⟩ := e
  simp only at *
  rw [Int.toNat_of_nonneg a1, Int.toNat_of_nonneg b1]
theorem tabOf_L {L : List Ent} (h : ∀ e ∈ L, EntOk e) (r : List UInt8) : tabOf L.length (tabL L ++ r) = L := by
  induction L with
  | nil => rfl
  | cons e L ih =>
    have h1 : tabL (e :: L) = entL e ++ tabL L := rfl
    have h2 : (entL e ++ (tabL L ++ r)).drop 9 = tabL L ++ r := List.drop_left' (entL_len e)
    rw [h1, List.append_assoc, List.length_cons, tabOf, h2, ih fun x hx => h x (List.mem_cons_of_mem _ hx), entOf_L (h e (List.mem_cons_self ..))]
theorem tabL_inj {L M : List Ent} (hL : ∀ e ∈ L, EntOk e) (hM : ∀ e ∈ M, EntOk e) (hl : L.length = M.length) (h : tabL L = tabL M) : L = M := by
  have h1 := tabOf_L hL []
  rw [h, hl, tabOf_L hM] at h1
  exact h1.symm

/-- Is each lost byte nought or one? -/
def LostOk : Nat → List UInt8 → Prop
  | 0, _ => True
  | k + 1, l => num ((l.drop 8).take 1) ≤ 1 ∧ LostOk k (l.drop 9)
theorem entL_of {l : List UInt8} (h : 9 ≤ l.length) : entL (entOf l) = l.take 9 ↔ num ((l.drop 8).take 1) ≤ 1 := by
  have q1 : (l.take 4).length = 4 := by simp; omega
  have q2 : ((l.drop 4).take 4).length = 4 := by simp; omega
  have q3 : ((l.drop 8).take 1).length = 1 := by simp; omega
  have e1 : le 4 (num (l.take 4)) = l.take 4 := by have := le_num (l.take 4); rwa [q1] at this
  have e2 : le 4 (num ((l.drop 4).take 4)) = (l.drop 4).take 4 := by have := le_num ((l.drop 4).take 4); rwa [q2] at this
  have e3 : le 1 (num ((l.drop 8).take 1)) = (l.drop 8).take 1 := by have := le_num ((l.drop 8).take 1); rwa [q3] at this
  have c1 : l.take 9 = l.take 4 ++ (l.drop 4).take 4 ++ (l.drop 8).take 1 := by
    rw [show 9 = 8 + 1 from rfl, List.take_add, show 8 = 4 + 4 from rfl, List.take_add]
  have c2 : entL (entOf l) = l.take 4 ++ (l.drop 4).take 4 ++ le 1 (lostN (decide (num ((l.drop 8).take 1) = 1))) := by
    simp only [entL, entOf, Int.toNat_natCast, e1, e2]
  have hb : num ((l.drop 8).take 1) < 256 := by have := num_lt ((l.drop 8).take 1); rwa [q3] at this
  have key : ∀ b t, b < 256 → le 1 b = t → (le 1 (lostN (decide (b = 1))) = t ↔ b ≤ 1) := by
    rintro b _ hb rfl
    constructor
    · intro h
      by_cases hb1 : b = 1
      · omega
      · have := le_inj (k := 1) (by simp [lostN, hb1]) (by omega) h
        simp [lostN, hb1] at this
        omega
    · intro h
      have : b = 0 ∨ b = 1 := by omega
      rcases this with rfl | rfl <;> rfl
  rw [c1, c2, List.append_cancel_left_eq]
  exact key _ _ hb e3
theorem tabL_of {k : Nat} {l : List UInt8} (h : 9 * k ≤ l.length) : tabL (tabOf k l) = l.take (9 * k) ↔ LostOk k l := by
  induction k generalizing l with
  | zero => simp [tabOf, tabL, LostOk]
  | succ k ih =>
    have h1 : tabL (tabOf (k + 1) l) = entL (entOf l) ++ tabL (tabOf k (l.drop 9)) := rfl
    have h2 : l.take (9 * (k + 1)) = l.take 9 ++ (l.drop 9).take (9 * k) := by rw [show 9 * (k + 1) = 9 + 9 * k by omega, List.take_add]
    have h3 : (entL (entOf l)).length = (l.take 9).length := by rw [entL_len, List.length_take]; omega
    rw [h1, h2, LostOk, ← ih (by simp; omega), ← entL_of (by omega)]
    exact ⟨fun h => List.append_inj h h3, fun ⟨a, b⟩ => by rw [a, b]⟩

/-- A table's bytes read: none, if there are not as many, a byte is not nought or one, or the parity is lost. -/
def ReadOk (d : Int) (l : List UInt8) : Prop := (l.length : Int) = 9 * (d + 1) ∧ LostOk (d + 1).toNat l ∧ TabOk d (tabOf (d + 1).toNat l)

end Go.Proofs.YtdcoholjnlndgaaDoor
