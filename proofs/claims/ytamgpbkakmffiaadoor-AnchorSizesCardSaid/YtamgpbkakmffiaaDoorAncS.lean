/-
  Readings of a zone's home and of an anchor.
-/
import Derived.Test.YtamgpbkakmffiaaDoorStruct
namespace Go.Proofs.YtamgpbkakmffiaaDoor
open Go.ChangeShapes Go.WideShapes Go.RowKit Go.Deep
set_option linter.unusedVariables false

/-- A text. -/
def strR : Rp ByteArray := fun _ _ cs s => cs = [.string s] ∧ s.size ≤ maxLen
theorem opens_str {P : Program} {t : TypeId} (ht : P.underlying t = some .string) : Opens P t strR := by
  intro H enc w base spare held fuel cs x h
  obtain ⟨s, rfl, _, hs⟩ := DataW.trod_string ht h
  exact ⟨s, rfl, hs⟩

/-- A zone's home. -/
structure Hom where
  places : List Int
  next : Int
  root : Int
instance : DecidableEq Hom := fun a b => decidable_of_iff (a.places = b.places ∧ a.next = b.next ∧ a.root = b.root) ⟨fun ⟨h1, h2, h3⟩ => by cases a; cases b; simp_all, fun h => by rw [h]; exact ⟨rfl, rfl, rfl⟩⟩
def homR : Rp Hom := fun w S cs x => ∃ A n c, cs = [.slice A n c, .int .i64 x.next, .int .i64 x.root] ∧ InI x.next ∧ InI x.root ∧ Sl intR 1 w S A n c x.places
theorem homR_fine : Fine homR 3 where
  size := by rintro _ _ _ _ ⟨A, n, c, rfl, _⟩; rfl
  one := by rintro _ _ _ _ ⟨A, n, c, rfl, _⟩ u hu; simp at hu; rcases hu with rfl | rfl | rfl <;> rfl
  move := by rintro _ _ _ _ _ _ ⟨A, n, c, rfl, h1, h2, h⟩ hk hS; exact ⟨A, n, c, rfl, h1, h2, h.move intR_fine hk hS⟩
theorem opens_hom {P : Program} {t i b : TypeId} {fs : Array Field} (ht : P.underlying t = some (.struct fs)) (hc : P.cellsOf t = 3) (h0 : (fs[0]?).map (fun f => (f.type, f.offset)) = some (b, 0)) (h1 : (fs[1]?).map (fun f => (f.type, f.offset)) = some (i, 1)) (h2 : (fs[2]?).map (fun f => (f.type, f.offset)) = some (i, 2))
    (ci : P.cellsOf i = 1) (cb : P.cellsOf b = 1) (oi : Opens P i intR) (ob : Opens P b (slR intR 1)) : Opens P t homR := by
  intro H enc w base spare held fuel cs x h
  obtain ⟨a0, a1, a2, rfl⟩ := cells3 ((struct_len ht h).trans hc)
  obtain ⟨y0, A, n, c, e0, s0⟩ := struct_field ht h 0 h0 cb ob
  obtain ⟨y1, e1, i1⟩ := struct_field ht h 1 h1 ci oi
  obtain ⟨y2, e2, i2⟩ := struct_field ht h 2 h2 ci oi
  simp at e0 e1 e2
  subst e0; subst e1; subst e2
  exact ⟨⟨y0, y1, y2⟩, A, n, c, rfl, i1, i2, s0⟩

/-- An anchor. -/
structure Anc where
  gen : Int
  epoch : Int
  pos : Int
  seq : Int
  last : Int
  label : ByteArray
  homes : List Hom
def Anc.In (a : Anc) : Prop := InI a.gen ∧ InI a.epoch ∧ InI a.pos ∧ InI a.seq ∧ InI a.last ∧ a.label.size ≤ maxLen
/-- An anchor's value, its homes in a slice. -/
def Anc.v (a : Anc) (V : Value) : Value := .agg #[.int .i64 a.gen, .int .i64 a.epoch, .int .i64 a.pos, .int .i64 a.seq, .int .i64 a.last, .string a.label, V]
def ancR : Rp Anc := fun w S cs a => ∃ A n c, cs = [.int .i64 a.gen, .int .i64 a.epoch, .int .i64 a.pos, .int .i64 a.seq, .int .i64 a.last, .string a.label, .slice A n c] ∧ a.In ∧ Sl homR 3 w S A n c a.homes
theorem cells7 {cs : List Value} (h : cs.length = 7) : ∃ a b c d e f g, cs = [a, b, c, d, e, f, g] := by
  match cs, h with
  | [a, b, c, d, e, f, g], _ => exact ⟨a, b, c, d, e, f, g, rfl⟩
theorem opens_anc {P : Program} {t i s b : TypeId} {fs : Array Field} (ht : P.underlying t = some (.struct fs)) (hc : P.cellsOf t = 7) (hf : ∀ k, k < 5 → (fs[k]?).map (fun f => (f.type, f.offset)) = some (i, k))
    (h5 : (fs[5]?).map (fun f => (f.type, f.offset)) = some (s, 5)) (h6 : (fs[6]?).map (fun f => (f.type, f.offset)) = some (b, 6))
    (ci : P.cellsOf i = 1) (cs1 : P.cellsOf s = 1) (cb : P.cellsOf b = 1) (oi : Opens P i intR) (os : Opens P s strR) (ob : Opens P b (slR homR 3)) : Opens P t ancR := by
  intro H enc w base spare held fuel cs x h
  obtain ⟨a0, a1, a2, a3, a4, a5, a6, rfl⟩ := cells7 ((struct_len ht h).trans hc)
  obtain ⟨y0, e0, i0⟩ := struct_field ht h 0 (hf 0 (by omega)) ci oi
  obtain ⟨y1, e1, i1⟩ := struct_field ht h 1 (hf 1 (by omega)) ci oi
  obtain ⟨y2, e2, i2⟩ := struct_field ht h 2 (hf 2 (by omega)) ci oi
  obtain ⟨y3, e3, i3⟩ := struct_field ht h 3 (hf 3 (by omega)) ci oi
  obtain ⟨y4, e4, i4⟩ := struct_field ht h 4 (hf 4 (by omega)) ci oi
  obtain ⟨y5, e5, i5⟩ := struct_field ht h 5 h5 cs1 os
  obtain ⟨y6, A, n, c, e6, s6⟩ := struct_field ht h 6 h6 cb ob
  simp at e0 e1 e2 e3 e4 e5 e6
  subst e0; subst e1; subst e2; subst e3; subst e4; subst e5; subst e6
  exact ⟨⟨y0, y1, y2, y3, y4, y5, y6⟩, A, n, c, rfl, ⟨i0, i1, i2, i3, i4, i5⟩, s6⟩
theorem anc_form {w : World} {v : Value} {a : Anc} (h : ArgR ancR w v a) : ∃ A n c, v = a.v (.slice A n c) ∧ a.In ∧ Sl homR 3 w (Old w) A n c a.homes := by
  obtain ⟨cs, rfl, A, n, c, e, h1, hs⟩ := h
  obtain ⟨cs⟩ := cs
  simp at e
  subst e
  exact ⟨A, n, c, rfl, h1, hs⟩

end Go.Proofs.YtamgpbkakmffiaaDoor
