/-
  From what a row says of an argument (it can be read as data) to what the walks are told of it.
-/
import Derived.Test.YtdcoholjnlndgaaDoorWords
import Derived.ProofKit
import Derived.ChangeOld
import Derived.OpenShut
namespace Go.Proofs.YtdcoholjnlndgaaDoor
open Go.ChangeShapes Go.WideShapes Go.RowKit Go.Deep

/-- Whatever can be read at type t reads by R. -/
def Opens {α : Type} (P : Program) (t : TypeId) (R : Rp α) : Prop :=
  ∀ {H : Type} (enc : TypeId × Value → H) (w : World) (base : Nat) (spare : Nat → Bool) (held : Bool) (fuel : Nat) (cs : List Value) (x : DataW H × List MemPlace),
    DataW.trod enc P w base spare held fuel t cs = some x → ∃ y, R w (Old w) cs y

theorem opens_u8 {P : Program} {t : TypeId} (ht : P.underlying t = some (.int .u8)) : Opens P t byteR := by
  intro H enc w base spare held fuel cs x h
  obtain ⟨n, rfl, _, hw⟩ := DataW.trod_int ht h
  have hr : 0 ≤ n ∧ n < 256 := by
    have := bounds_u8 hw
    omega
  refine ⟨UInt8.ofNat n.toNat, ?_⟩
  show _ = _
  have : (UInt8.ofNat n.toNat).toNat = n.toNat := by
    rw [UInt8.toNat_ofNat']
    omega
  rw [this, Int.toNat_of_nonneg hr.1]

theorem inI_of_wf {n : Int} (hw : (Lit.int .i64 n).wf = true) : InI n := by
  exact bounds_i64 hw

theorem opens_int {P : Program} {t : TypeId} (ht : P.underlying t = some (.int .i64)) : Opens P t intR := by
  intro H enc w base spare held fuel cs x h
  obtain ⟨n, rfl, _, hw⟩ := DataW.trod_int ht h
  exact ⟨n, rfl, inI_of_wf hw⟩

theorem opens_bool {P : Program} {t : TypeId} (ht : P.underlying t = some .bool) : Opens P t boolR := by
  intro H enc w base spare held fuel cs x h
  obtain ⟨b, rfl, _⟩ := DataW.trod_bool ht h
  exact ⟨b, rfl⟩

theorem opens_slice {α : Type} {R : Rp α} {P : Program} {t e : TypeId} {s : Nat} (hs : 0 < s) (ht : P.underlying t = some (.slice e)) (hc : P.cellsOf e = s) (he : Opens P e R) : Opens P t (slR R s) := by
  intro H enc w base spare held fuel cs x h
  rcases open_slice ht h with ⟨rfl, _⟩ | ⟨a, len, cap, m, n, D, Pl, rfl, _, hl, hm, hmm, _, hi⟩
  · exact ⟨[], none, 0, 0, rfl, Sl.nil_ _⟩
  · have hlm : len ≤ m := by rw [hmm]; split <;> omega
    have hel : ∀ i, i < len → ∃ cs, (∃ y, R w (Old w) cs y) ∧ At w (a.add (i * s)) cs ∧ cs.length = s := by
      intro i hil
      obtain ⟨cs', hcs, htr⟩ := hi i (by omega)
      rw [hc] at hcs
      obtain ⟨_, hcl, hat⟩ := World.cells?_some hcs
      refine ⟨cs', he enc w base spare held n cs' _ htr, fun j u hu => ?_, hcl⟩
      have hj : j < s := by rw [← hcl]; exact (List.getElem?_eq_some_iff.1 hu).1
      rw [hat j hj, hu]
    have hL : ∃ L : List α, L.length = len ∧ ∀ i x, L[i]? = some x → ∃ cs, R w (Old w) cs x ∧ At w (a.add (i * s)) cs := by
      clear hmm hi hl
      have key : ∀ k, k ≤ len → ∃ L : List α, L.length = k ∧ ∀ i x, L[i]? = some x → ∃ cs, R w (Old w) cs x ∧ At w (a.add (i * s)) cs := by
        intro k
        induction k with
        | zero => exact fun _ => ⟨[], rfl, fun i x hx => by simp at hx⟩
        | succ k ih =>
          intro hk
          obtain ⟨L, hLl, hL⟩ := ih (by omega)
          obtain ⟨cs, ⟨y, hy⟩, hat, _⟩ := hel k (by omega)
          refine ⟨L ++ [y], by simp [hLl], fun i x hx => ?_⟩
          by_cases hik : i < L.length
          · rw [List.getElem?_append_left hik] at hx
            exact hL i x hx
          · rw [List.getElem?_append_right (by omega)] at hx
            obtain rfl : i = k := by have := (List.getElem?_eq_some_iff.1 hx).1; simp at this; omega
            rw [hLl, Nat.sub_self] at hx
            simp at hx
            subst hx
            exact ⟨cs, hy, hat⟩
      exact key len (Nat.le_refl _)
    obtain ⟨L, hLl, hL⟩ := hL
    refine ⟨L, some a, len, cap, rfl, hLl, hl, fun hn => ⟨a, rfl, ?_, hL⟩⟩
    obtain ⟨cs, _, hat, hcl⟩ := hel 0 hn
    have h0 : cs[0]? = some (cs[0]'(by omega)) := List.getElem?_eq_getElem (by omega)
    have := World.block_lt_of_cell? w _ (hat 0 _ h0)
    rwa [block_of_add, block_of_add] at this

/-- A slice among the arguments. -/
theorem open_slice_arg {α : Type} {R : Rp α} {s : Nat} {P : Program} {t : TypeId} (ho : Opens P t (slR R s)) {H : Type} {enc : TypeId × Value → H} {w : World} {base : Nat} {spare : Nat → Bool} {held : Bool} {A : Option Addr} {n c : Nat} {d : DataW H} {p : List MemPlace}
    (h : DataW.Trod enc P w base spare held t (.slice A n c) d p) : ∃ L, Sl R s w (Old w) A n c L := by
  obtain ⟨fuel, hf⟩ := h
  obtain ⟨L, A', n', c', e, hs⟩ := ho enc w base spare held fuel _ _ hf
  simp [Value.cells] at e
  obtain ⟨rfl, rfl, rfl⟩ := e
  exact ⟨L, hs⟩

end Go.Proofs.YtdcoholjnlndgaaDoor
