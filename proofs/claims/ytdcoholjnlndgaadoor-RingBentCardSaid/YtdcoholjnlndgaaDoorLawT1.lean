/-
  The walks of the laws casematelaw10: wakes, TableNews.
-/
import Derived.Test.YtdcoholjnlndgaaDoorTabI
import Derived.Deep.RegionHeld3
import Derived.Deep.RegionLaw
namespace Go.Proofs.YtdcoholjnlndgaaDoor
open Go.RowKit
set_option linter.unusedVariables false
set_option maxRecDepth 100000

theorem crc_zero8 : 0 < crc zero8 := by decide +kernel
theorem newT_len (d : Nat) : (newT d).length = d + 1 := by simp [newT]
theorem newT_at {d k : Nat} (h : k < d + 1) : (newT d)[k]? = some newEnt := by simp [newT, h]
theorem newT_ok (d : Nat) : TabOk (d : Int) (newT d) := by
  refine ⟨by rw [newT_len]; omega, fun e he => ?_, fun e he => ?_⟩
  · obtain rfl : e = newEnt := by unfold newT at he; exact (List.mem_replicate.1 he).2
    have := crc_lt zero8
    exact ⟨⟨by show (0 : Int) ≤ 0; omega, by show (0 : Int) ≤ 4294967295; omega⟩, ⟨by show (0 : Int) ≤ (crc zero8 : Int); omega, by show (crc zero8 : Int) ≤ 4294967295; omega⟩⟩
  · rw [show ((d : Int)).toNat = d from rfl, newT_at (by omega)] at he
    injection he with he
    subst he
    rfl
/-- What is written is read. -/
theorem tab_back {d : Int} {L : List Ent} (h : TabOk d L) : ReadOk d (tabL L) ∧ tabOf (d + 1).toNat (tabL L) = L := by
  have e : L.length = (d + 1).toNat := by have := h.1; omega
  have h1 := tabOf_L h.2.1 []
  rw [List.append_nil] at h1
  have h2 := tabL_of (k := L.length) (l := tabL L) (by rw [tabL_len]; exact Nat.le_refl _)
  rw [h1, List.take_of_length_le (by rw [tabL_len]; exact Nat.le_refl _)] at h2
  have h3 := h2.1 rfl
  rw [← e]
  refine ⟨⟨by rw [tabL_len]; have := h.1; omega, by rw [← e]; exact h3, by rw [← e, h1]; exact h⟩, h1⟩
theorem lost_none {L : List Ent} (h : ∀ e ∈ L, e.lost = false) (k : Nat) (hk : k ≤ L.length) : lostL L k = [] := by
  unfold lostL
  rw [List.map_eq_nil_iff, List.filter_eq_nil_iff]
  intro i hi
  have hi := List.mem_range.1 hi
  rw [List.getElem?_eq_getElem (by omega)]
  simp [h _ (List.getElem_mem (by omega : i < L.length))]
theorem tbytes_ok {z d s l a : Int} {A : Option Addr} {n c : Nat} {L : List Ent} (hG : GeoOk ⟨z, d, s, l, a⟩) (hT : TabOk d L) (w : World) (ha : Sl entR 3 w (Old w) A n c L) (hn : n ≤ 6000) :
    Calls Tryd.prog 55 #[.agg #[.int .i64 z, .int .i64 d, .int .i64 s, .int .i64 l, .int .i64 a], .agg #[.slice A n c]] w fun e w' => Below w.heap.size w w' ∧ ∃ V c, e = .returned (.tuple #[.slice V (9 * n) c, .int .i64 0]) ∧ Bs w' V (9 * n) c (tabL L) := by
  refine (tbytes_any A n c L ⟨z, d, s, l, a⟩ w ha hn).mono ?_
  rintro e w' ⟨hb, V, m, cv, y, er, rfl, hs, hq⟩
  unfold TBytes at hq
  rcases hq with ⟨h, _⟩ | ⟨_, rfl, rfl⟩
  · exact absurd ⟨hG, hT⟩ h
  · have h1 := hs.len
    rw [tabL_len, ha.len] at h1
    subst h1
    exact ⟨hb, V, cv, rfl, hs⟩
theorem tbytes_no {z d s l a : Int} {A : Option Addr} {n c : Nat} {L : List Ent} (hT : ¬ (GeoOk ⟨z, d, s, l, a⟩ ∧ TabOk d L)) (w : World) (ha : Sl entR 3 w (Old w) A n c L) (hn : n ≤ 6000) :
    Calls Tryd.prog 55 #[.agg #[.int .i64 z, .int .i64 d, .int .i64 s, .int .i64 l, .int .i64 a], .agg #[.slice A n c]] w fun e w' => Below w.heap.size w w' ∧ ∃ V c, e = .returned (.tuple #[.slice V 0 c, .int .i64 1]) := by
  refine (tbytes_any A n c L ⟨z, d, s, l, a⟩ w ha hn).mono ?_
  rintro e w' ⟨hb, V, m, cv, y, er, rfl, hs, hq⟩
  unfold TBytes at hq
  rcases hq with ⟨_, rfl, rfl⟩ | ⟨h, _⟩
  · have h1 := hs.len
    simp at h1
    subst h1
    exact ⟨hb, V, cv, rfl⟩
  · exact absurd h hT
theorem read_yes {z d s l a : Int} {A : Option Addr} {n c : Nat} {L : List Ent} (hG : GeoOk ⟨z, d, s, l, a⟩) (hT : TabOk d L) (w : World) (ha : Bs w A n c (tabL L)) (hn : n ≤ 60000) :
    Calls Tryd.prog 42 #[.agg #[.int .i64 z, .int .i64 d, .int .i64 s, .int .i64 l, .int .i64 a], .slice A n c] w fun e w' => Below w.heap.size w w' ∧ ∃ V m c, e = .returned (.tuple #[.agg #[.slice V m c], .int .i64 0]) ∧ Sl entR 3 w' (New w.heap.size w') V m c L := by
  refine (read_any A n c (tabL L) ⟨z, d, s, l, a⟩ w ha hn).mono ?_
  rintro e w' ⟨hb, V, m, cv, T, er, rfl, hs, hq⟩
  obtain ⟨h1, h2⟩ := tab_back hT
  unfold RdQ at hq
  rcases hq with ⟨h, _⟩ | ⟨_, _, rfl, rfl⟩ | ⟨_, h, _⟩
  · exact absurd hG h
  · rw [h2] at hs
    exact ⟨hb, V, m, cv, rfl, hs⟩
  · exact absurd h1 h
theorem read_no {z d s l a : Int} {A : Option Addr} {n c : Nat} {y : List UInt8} (hG : GeoOk ⟨z, d, s, l, a⟩) (hT : ¬ ReadOk d y) (w : World) (ha : Bs w A n c y) (hn : n ≤ 60000) :
    Calls Tryd.prog 42 #[.agg #[.int .i64 z, .int .i64 d, .int .i64 s, .int .i64 l, .int .i64 a], .slice A n c] w fun e w' => Below w.heap.size w w' ∧ ∃ V m c, e = .returned (.tuple #[.agg #[.slice V m c], .int .i64 4]) ∧ Sl entR 3 w' (New w.heap.size w') V m c [] := by
  refine (read_any A n c y ⟨z, d, s, l, a⟩ w ha hn).mono ?_
  rintro e w' ⟨hb, V, m, cv, T, er, rfl, hs, hq⟩
  unfold RdQ at hq
  rcases hq with ⟨h, _⟩ | ⟨_, h, _⟩ | ⟨_, _, rfl, rfl⟩
  · exact absurd hG h
  · exact absurd h hT
  · exact ⟨hb, V, m, cv, rfl, hs⟩
theorem check_no {z d s l a : Int} {A : Option Addr} {n c : Nat} {L : List Ent} (hT : ¬ (GeoOk ⟨z, d, s, l, a⟩ ∧ TabOk d L)) (w : World) (ha : Sl entR 3 w (Old w) A n c L) (hn : n ≤ 6000) :
    Calls Tryd.prog 62 #[.agg #[.int .i64 z, .int .i64 d, .int .i64 s, .int .i64 l, .int .i64 a], .agg #[.slice A n c]] w fun e w' => e = .returned (.int .i64 1) ∧ Below w.heap.size w w' := by
  have h := check_any A n c L ⟨z, d, s, l, a⟩ w ha (by omega)
  rw [if_neg hT] at h
  exact h
theorem check_yes {z d s l a : Int} {A : Option Addr} {n c : Nat} {L : List Ent} (hT : GeoOk ⟨z, d, s, l, a⟩ ∧ TabOk d L) (w : World) (ha : Sl entR 3 w (Old w) A n c L) (hn : n ≤ 6000) :
    Calls Tryd.prog 62 #[.agg #[.int .i64 z, .int .i64 d, .int .i64 s, .int .i64 l, .int .i64 a], .agg #[.slice A n c]] w fun e w' => e = .returned (.int .i64 0) ∧ Below w.heap.size w w' := by
  have h := check_any A n c L ⟨z, d, s, l, a⟩ w ha (by omega)
  rw [if_pos hT] at h
  exact h
theorem sl_newold {α : Type} {R : Rp α} {s : Nat} (hF : Fine R s) {w : World} {B : Nat} {A : Option Addr} {n c : Nat} {L : List α} (h : Sl R s w (New B w) A n c L) : Sl R s w (Old w) A n c L := h.move hF (fun _ _ => rfl) (fun b hb => hb.2)

end Go.Proofs.YtdcoholjnlndgaaDoor
