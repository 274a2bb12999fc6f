/-
  Contracts: table.Bytes, Lost; casemateref08.TableBytes.
-/
import Derived.Test.YtjlppkbmapmbiaaDoorTabC
import Derived.Test.YtjlppkbmapmbiaaDoorPackU
import Derived.Test.YtjlppkbmapmbiaaDoorRefP
namespace Go.Proofs.YtjlppkbmapmbiaaDoor
open Go.RowKit
set_option linter.unusedVariables false
set_option maxRecDepth 100000

/-- A literal of ints just made. -/
theorem lit_ints_at {w : World} {N n : Nat} {l : List Int} {cs : Array Value} {e : TypeId} (hN : w.heap.size = N) (hl : l.length = n) (hn : n ≤ 65536) (hi : ∀ x ∈ l, InI x) (h : cs = (l.map fun x => Value.int .i64 x).toArray) :
    Is (w.alloc (.cells cs e)) (some ⟨N, 0, none⟩) n n l := by
  subst hN
  subst hl
  subst h
  refine (Ow.made (R := intR) (s := 1) (lo := 0) (e := e) (n := l.length) (L := l) w _ (by simp only [maxLen]; omega) (by simp) rfl ?_ ?_ intR_fine).read intR_fine
  · intro u hu
    simp only [List.mem_map] at hu
    obtain ⟨_, _, rfl⟩ := hu
    rfl
  · intro i x hx
    obtain ⟨h1, e1⟩ := List.getElem?_eq_some_iff.1 hx
    refine ⟨?_, hi x (List.mem_of_getElem? hx)⟩
    rw [Nat.mul_one, List.drop_eq_getElem_cons (by simpa using h1)]
    simp [e1]

theorem entL_row {e : Ent} : rowL [e.stamp, e.sum, (lostN e.lost : Int)] [4, 4, 1] = entL e := by
  simp [rowL, entL, List.append_assoc]
theorem fit_row {e : Ent} (h : EntOk e) : FitAll [e.stamp, e.sum, (lostN e.lost : Int)] [4, 4, 1] := by
  obtain ⟨⟨a1, a2⟩, b1, b2⟩ := h
  intro i n z hn hz
  match i, hn, hz with
  | 0, hn, hz =>
    simp at hn hz
    subst hn; subst hz
    exact ⟨.inr (.inr rfl), a1, by show e.stamp < 256 ^ 4; omega⟩
  | 1, hn, hz =>
    simp at hn hz
    subst hn; subst hz
    exact ⟨.inr (.inr rfl), b1, by show e.sum < 256 ^ 4; omega⟩
  | 2, hn, hz =>
    simp at hn hz
    subst hn; subst hz
    have : lostN e.lost ≤ 1 := by cases e.lost <;> simp [lostN]
    exact ⟨.inl rfl, by omega, by show (lostN e.lost : Int) < 256 ^ 1; omega⟩
  | i + 3, hn, hz => simp at hn
theorem tabL_take {L : List Ent} {k : Nat} {e : Ent} (h : L[k]? = some e) : tabL (L.take (k + 1)) = tabL (L.take k) ++ entL e := by
  obtain ⟨h1, h2⟩ := List.getElem?_eq_some_iff.1 h
  rw [List.take_succ_eq_append_getElem h1, h2]
  simp [tabL]

def TBytes (g : Geo) (L : List Ent) (l : List UInt8) (err : Int) : Prop := (¬ (GeoOk g ∧ TabOk g.data L) ∧ err = 1 ∧ l = []) ∨ ((GeoOk g ∧ TabOk g.data L) ∧ err = 0 ∧ l = tabL L)
def TBytesPost (w : World) (g : Geo) (L : List Ent) (e : Ending) (w' : World) : Prop := Below w.heap.size w w' ∧ ∃ V n c l err, e = .returned (.tuple #[.slice V n c, .int .i64 err]) ∧ Bs w' V n c l ∧ TBytes g L l err

/-- The blocks that are lost. -/
def lostL (L : List Ent) (k : Nat) : List Int := ((List.range k).filter fun i => (L[i]?.map (·.lost)).getD false).map fun (i : Nat) => (i : Int)
theorem lostL_succ {L : List Ent} {k : Nat} {e : Ent} (h : L[k]? = some e) : lostL L (k + 1) = lostL L k ++ if e.lost then [(k : Int)] else [] := by
  unfold lostL
  rw [List.range_succ, List.filter_append, List.map_append]
  congr 1
  cases hl : e.lost <;> simp [h, hl]
theorem lostL_le (L : List Ent) (k : Nat) : (lostL L k).length ≤ k := by
  unfold lostL
  rw [List.length_map]
  have := List.length_filter_le (fun i => (L[i]?.map (·.lost)).getD false) (List.range k)
  rwa [List.length_range] at this
def TLost (g : Geo) (L : List Ent) (l : List Int) (err : Int) : Prop := (¬ (GeoOk g ∧ TabOk g.data L) ∧ err = 1 ∧ l = []) ∨ ((GeoOk g ∧ TabOk g.data L) ∧ err = 0 ∧ l = lostL L L.length)
def TLostPost (w : World) (g : Geo) (L : List Ent) (e : Ending) (w' : World) : Prop := Below w.heap.size w w' ∧ ∃ V n c l err, e = .returned (.tuple #[.slice V n c, .int .i64 err]) ∧ Is w' V n c l ∧ TLost g L l err

end Go.Proofs.YtjlppkbmapmbiaaDoor
