/-
  Contract: anchor.Read.
-/
import Derived.Test.YtjlppkbmapmbiaaDoorAncM
import Derived.Test.YtjlppkbmapmbiaaDoorAncT
namespace Go.Proofs.YtjlppkbmapmbiaaDoor
open Go.RowKit Go.Lib
set_option linter.unusedVariables false
set_option maxRecDepth 100000

/-- What bytes may be, if they are as long as that. -/
def candA (z d : Nat) (b s : List UInt8) : Anc := ⟨num (b.take 4), num ((b.drop 4).take 4), num ((b.drop 16).take 1), num ((b.drop 8).take 4), num ((b.drop 12).take 4), mkS s, homsOf d z (b.drop (18 + s.length))⟩
theorem ancOf_cand {z d : Nat} {b s : List UInt8} (h : readLab (b.drop 17) = some s) : ancOf z d b = if b.length = 18 + s.length + z * (d + 6) then some (candA z d b s) else none := by
  unfold ancOf
  rw [h]
  rfl
theorem ancOf_none {z d : Nat} {b : List UInt8} (h : readLab (b.drop 17) = none) : ancOf z d b = none := by
  unfold ancOf
  rw [h]
theorem homsOf_in (d : Nat) : ∀ (z : Nat) (l : List UInt8), z * (d + 6) ≤ l.length → ∀ h ∈ homsOf d z l, h.places.length = d + 1 ∧ InI h.next ∧ InI h.root
  | 0, l, _, h, hm => by simp [homsOf] at hm
  | z + 1, l, hl, h, hm => by
    rw [Nat.add_mul, Nat.one_mul] at hl
    rcases List.mem_cons.1 hm with rfl | hm
    · exact homOf_in (by omega)
    · exact homsOf_in d z _ (by rw [List.length_drop]; omega) h hm
theorem cand_len {z d : Nat} {b s : List UInt8} (hl : 18 + s.length + z * (d + 6) ≤ b.length) : (ancL (candA z d b s)).length = 18 + s.length + z * (d + 6) := by
  have h1 := ancL_len (d := d) (a := candA z d b s) (fun h hm => (homsOf_in d z _ (by rw [List.length_drop]; omega) h hm).1)
  rw [h1]
  show 18 + s.length + (homsOf d z _).length * (d + 6) = _
  rw [homsOf_len]
theorem cand_eq {z d : Nat} {b s : List UInt8} (hr : readLab (b.drop 17) = some s) (hl : 18 + s.length + z * (d + 6) ≤ b.length) : ancL (candA z d b s) = b ↔ b.length = 18 + s.length + z * (d + 6) := by
  constructor
  · intro h
    have := cand_len hl
    rw [h] at this
    exact this
  · intro h
    exact (anc_of (z := z) (d := d) (by rw [ancOf_cand hr, if_pos h])).1
theorem cand_in {z d : Nat} {b s : List UInt8} (h17 : 17 ≤ b.length) (hs : s.length ≤ 24) : (candA z d b s).In := by
  have h1 := num_take_lt b 4 (by omega)
  have h2 := num_take_lt (b.drop 4) 4 (by rw [List.length_drop]; omega)
  have h3 := num_take_lt (b.drop 16) 1 (by rw [List.length_drop]; omega)
  have h4 := num_take_lt (b.drop 8) 4 (by rw [List.length_drop]; omega)
  have h5 := num_take_lt (b.drop 12) 4 (by rw [List.length_drop]; omega)
  have h6 : (mkS s).size ≤ maxLen := by rw [← sL_len, sL_mk]; simp only [maxLen]; omega
  refine ⟨⟨?_, ?_⟩, ⟨?_, ?_⟩, ⟨?_, ?_⟩, ⟨?_, ?_⟩, ⟨?_, ?_⟩, h6⟩
  all_goals (simp only [candA]; omega)

/-- What anchor.Read tells. -/
def ARead (g : Geo) (b : List UInt8) (a : Anc) (err : Int) : Prop := (¬ GeoOk g ∧ err = 1 ∧ a = noAnc) ∨ (GeoOk g ∧ ancOf g.zones.toNat g.data.toNat b = some a ∧ AncOk g a ∧ err = 0) ∨ (GeoOk g ∧ (∀ a', ancOf g.zones.toNat g.data.toNat b = some a' → ¬ AncOk g a') ∧ err = 4 ∧ a = noAnc)
def AReadPost (w : World) (g : Geo) (b : List UInt8) (e : Ending) (w' : World) : Prop := Below w.heap.size w w' ∧ ∃ a v err, e = .returned (.tuple #[v, .int .i64 err]) ∧ AncRet w a v w' ∧ ARead g b a err

def headS : List Int := [4, 4, 4, 4, 1]
theorem head_unrow (b : List UInt8) : unrowI headS b = [(num (b.take 4) : Int), (num ((b.drop 4).take 4) : Int), (num ((b.drop 8).take 4) : Int), (num ((b.drop 12).take 4) : Int), (num ((b.drop 16).take 1) : Int)] := by
  simp [headS, unrowI, List.drop_drop]
theorem head_sized : ∀ z ∈ headS, Sized z := fun z hz => by
  simp [headS] at hz
  rcases hz with rfl | rfl
  · exact .inr (.inr rfl)
  · exact .inl rfl

end Go.Proofs.YtjlppkbmapmbiaaDoor
