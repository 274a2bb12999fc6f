/-
  Contract: casematekeep.Anchor.
  Contract: casematelaw08.Heavy.
  Plain: the numbers that stand in an anchor's bytes.
  Contract: casemateref08.in, Anchor.
-/
import Derived.Test.YtjlppkbmapmbiaaDoorAncW
import Derived.Test.YtjlppkbmapmbiaaDoorPackU
import Derived.WideShapes
import Derived.Lib.Strings
import Derived.Test.YtjlppkbmapmbiaaDoorLabT
import Derived.Deep.QuietTactic
import Derived.BigQuiet
namespace Go.Proofs.YtjlppkbmapmbiaaDoor
open Go.RowKit Go.Lib
set_option linter.unusedVariables false
set_option maxRecDepth 100000

theorem anc_eq_iff (a b : Anc) : a = b ↔ a.gen = b.gen ∧ a.epoch = b.epoch ∧ a.pos = b.pos ∧ a.seq = b.seq ∧ a.last = b.last ∧ a.label = b.label ∧ a.homes = b.homes := by
  constructor
  · rintro rfl; exact ⟨rfl, rfl, rfl, rfl, rfl, rfl, rfl⟩
  · obtain ⟨a0, a1, a2, a3, a4, a5, a6⟩ := a
    obtain ⟨b0, b1, b2, b3, b4, b5, b6⟩ := b
    rintro ⟨h0, h1, h2, h3, h4, h5, h6⟩
    dsimp only at *
    subst h0; subst h1; subst h2; subst h3; subst h4; subst h5; subst h6
    rfl
instance : DecidableEq Anc := fun a b => decidable_of_iff _ (anc_eq_iff a b).symm
theorem hom_eq_iff (a b : Hom) : a = b ↔ a.places = b.places ∧ a.next = b.next ∧ a.root = b.root := by
  constructor
  · rintro rfl; exact ⟨rfl, rfl, rfl⟩
  · obtain ⟨a0, a1, a2⟩ := a
    obtain ⟨b0, b1, b2⟩ := b
    rintro ⟨h0, h1, h2⟩
    dsimp only at *
    subst h0; subst h1; subst h2
    rfl
theorem ibne_t {x y : Int} (h : x ≠ y) : (x != y) = true := by simpa using h
theorem ibne_f {x y : Int} (h : x = y) : (x != y) = false := by simpa using h

end Go.Proofs.YtjlppkbmapmbiaaDoor

namespace Go.Proofs.YtjlppkbmapmbiaaDoor
open Go.RowKit Go.Lib
set_option linter.unusedVariables false
set_option maxRecDepth 100000

/-- More than is played? -/
def heavyA (a : Anc) : Bool := decide (10 < a.homes.length) || decide (200 < a.label.size) || a.homes.any (fun h => decide (20 < h.places.length))
theorem heavyA_no {a : Anc} (h : heavyA a = false) : a.homes.length ≤ 10 ∧ a.label.size ≤ 200 ∧ ∀ x ∈ a.homes, x.places.length ≤ 20 := by
  unfold heavyA at h
  rw [Bool.or_eq_false_iff, Bool.or_eq_false_iff, List.any_eq_false] at h
  obtain ⟨⟨h1, h2⟩, h3⟩ := h
  refine ⟨by have := of_decide_eq_false h1; omega, by have := of_decide_eq_false h2; omega, fun x hx => ?_⟩
  have := h3 x hx
  simp at this
  omega
theorem heavyA_light {a : Anc} (h : heavyA a = false) : Light a := by
  obtain ⟨h1, h2, h3⟩ := heavyA_no h
  exact ⟨by omega, by omega, fun x hx => by have := h3 x hx; omega⟩

end Go.Proofs.YtjlppkbmapmbiaaDoor

namespace Go.Proofs.YtjlppkbmapmbiaaDoor
set_option linter.unusedVariables false

theorem homsL_append (l r : List Hom) : homsL (l ++ r) = homsL l ++ homsL r := by simp [homsL]
theorem num_one (x : UInt8) : num [x] = x.toNat := by simp [num]
theorem take_one {l : List UInt8} {i : Nat} (h : i < l.length) : (l.drop i).take 1 = [l[i]] := by
  rw [List.drop_eq_getElem_cons h]
  rfl

/-- The numbers at the front. -/
theorem anc_front {g : Geo} {a : Anc} (hG : GeoOk g) (h : AncOk g a) :
    a.gen = (num ((ancL a).take 4) : Int) ∧ a.epoch = (num (((ancL a).drop 4).take 4) : Int) ∧ a.seq = (num (((ancL a).drop 8).take 4) : Int) ∧ a.last = (num (((ancL a).drop 12).take 4) : Int) ∧ a.pos = (num (((ancL a).drop 16).take 1) : Int) := by
  have hb := anc_back hG h
  unfold ancOf at hb
  cases hr : readLab ((ancL a).drop 17) with
  | none => rw [hr] at hb; cases hb
  | some s =>
    rw [hr] at hb
    dsimp only at hb
    split at hb
    · injection hb with hb
      rw [Anc.mk.injEq] at hb
      obtain ⟨h1, h2, h3, h4, h5, _⟩ := hb
      exact ⟨h1.symm, h2.symm, h4.symm, h5.symm, h3.symm⟩
    · cases hb
theorem anc_size {g : Geo} {a : Anc} (hG : GeoOk g) (h : AncOk g a) : ((ancL a).length : Int) = 18 + a.label.size + g.zones * (g.data + 6) := by
  obtain ⟨_, _, hz, hh⟩ := h
  have hds := hG.2.1
  have hzs := hG.1
  have hpl : ∀ h ∈ a.homes, h.places.length = g.data.toNat + 1 := fun h hm => by have := (hh h hm).1; omega
  rw [ancL_len hpl, ← hz]
  have : (sL a.label).length = a.label.size := by simp [sL]
  rw [this]
  obtain ⟨d, hd⟩ : ∃ d : Nat, g.data = (d : Int) := ⟨g.data.toNat, by omega⟩
  rw [hd, Int.toNat_natCast]
  push_cast
  rfl
theorem anc_labAt (a : Anc) : (ancL a)[17]? = some (UInt8.ofNat a.label.size) := by
  have e : ancL a = headL a ++ (UInt8.ofNat (sL a.label).length :: (sL a.label ++ homsL a.homes)) := by simp [ancL, labB]
  have hs : (sL a.label).length = a.label.size := by simp [sL]
  rw [e, List.getElem?_append_right (by rw [headL_len]; omega), headL_len, hs]
  rfl
theorem anc_root {g : Geo} {a : Anc} {x : Hom} {m : Nat} (h : AncOk g a) (hm : a.homes.length = m + 1) (hx : a.homes[m]? = some x) : 4 ≤ (ancL a).length ∧ (num (((ancL a).drop ((ancL a).length - 4)).take 4) : Int) = x.root := by
  obtain ⟨_, _, _, hh⟩ := h
  obtain ⟨hm2, ex⟩ := List.getElem?_eq_some_iff.1 hx
  obtain ⟨_, _, ⟨r1, r2⟩, _⟩ := hh x (by rw [← ex]; exact List.getElem_mem _)
  have e0 : a.homes = a.homes.take m ++ [x] := by
    conv => lhs; rw [← List.take_append_drop m a.homes, List.drop_eq_getElem_cons hm2, ex, List.drop_of_length_le (by omega)]
  have e1 : ancL a = (headL a ++ labB (sL a.label) ++ homsL (a.homes.take m) ++ ((x.places.map fun p => UInt8.ofNat p.toNat) ++ le 1 x.next.toNat)) ++ le 4 x.root.toNat := by
    rw [ancL]
    conv => lhs; rw [e0, homsL_append]
    simp [homsL, homL, List.append_assoc]
  have e2 : (ancL a).length = (headL a ++ labB (sL a.label) ++ homsL (a.homes.take m) ++ ((x.places.map fun p => UInt8.ofNat p.toNat) ++ le 1 x.next.toNat)).length + 4 := by
    conv => lhs; rw [e1, List.length_append, le_len]
  refine ⟨by omega, ?_⟩
  have e3 : (ancL a).drop ((ancL a).length - 4) = le 4 x.root.toNat := by
    rw [e2, Nat.add_sub_cancel]
    conv => lhs; rw [e1]
    exact List.drop_left' rfl
  rw [e3, List.take_of_length_le (by rw [le_len]; omega), num_le, Nat.mod_eq_of_lt (by omega), Int.toNat_of_nonneg r1]

end Go.Proofs.YtjlppkbmapmbiaaDoor

namespace Go.Proofs.YtjlppkbmapmbiaaDoor
open Go.RowKit Go.Lib
set_option linter.unusedVariables false
set_option maxRecDepth 100000

end Go.Proofs.YtjlppkbmapmbiaaDoor
