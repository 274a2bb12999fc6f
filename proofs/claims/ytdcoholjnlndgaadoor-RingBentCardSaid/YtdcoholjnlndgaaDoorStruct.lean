/-
  Readings of structs: how a row's argument of a struct type reads.
-/
import Derived.Test.YtdcoholjnlndgaaDoorOpen
import Derived.WideShapes
namespace Go.Proofs.YtdcoholjnlndgaaDoor
open Go.ChangeShapes Go.WideShapes Go.RowKit Go.Deep
set_option linter.unusedVariables false

section
variable {H : Type} {enc : TypeId × Value → H} {P : Program} {w : World} {base : Nat} {spare : Nat → Bool} {held : Bool} {fuel : Nat} {t : TypeId} {cs : List Value} {x : DataW H × List MemPlace}

theorem struct_len {fs : Array Field} (ht : P.underlying t = some (.struct fs)) (h : DataW.trod enc P w base spare held fuel t cs = some x) : cs.length = P.cellsOf t := by
  obtain ⟨_, _, _, _, hl, _⟩ := DataW.trod_struct ht h
  exact hl
theorem struct_field {α : Type} {R : Rp α} {fs : Array Field} (ht : P.underlying t = some (.struct fs)) (h : DataW.trod enc P w base spare held fuel t cs = some x) (i : Nat) {ft : TypeId} {o k : Nat}
    (hf : (fs[i]?).map (fun f => (f.type, f.offset)) = some (ft, o)) (hk : P.cellsOf ft = k) (he : Opens P ft R) : ∃ y, R w (Old w) ((cs.drop o).take k) y := by
  obtain ⟨xs, n, _, _, _, hxl, hx⟩ := DataW.trod_struct ht h
  cases hfi : fs[i]? with
  | none => rw [hfi] at hf; cases hf
  | some f =>
    rw [hfi] at hf
    simp at hf
    obtain ⟨rfl, rfl⟩ := hf
    have h1 := hx i f hfi
    have hlt : i < fs.size := (Array.getElem?_eq_some_iff.1 hfi).1
    rw [List.getElem?_eq_getElem (by omega), hk] at h1
    exact he enc w base spare held n _ _ h1
end

/-- A struct among the arguments. -/
def ArgR {α : Type} (R : Rp α) (w : World) (v : Value) (x : α) : Prop := ∃ cs : Array Value, v = .agg cs ∧ R w (Old w) cs.toList x
theorem open_struct_arg {α : Type} {R : Rp α} {P : Program} {t : TypeId} {fs : Array Field} (ht : P.underlying t = some (.struct fs)) (ho : Opens P t R) {H : Type} {enc : TypeId × Value → H} {w : World} {base base' : Nat} {spare : Nat → Bool} {held : Bool} {r : Reach} {v : Value} {d : DataW H} {p : List MemPlace}
    (hv : Value.okWide P w r base' t v) (h : DataW.Trod enc P w base spare held t v d p) : ∃ x, ArgR R w v x := by
  obtain ⟨cs, rfl, _⟩ := okWide_struct ht hv
  obtain ⟨fuel, hf⟩ := h
  obtain ⟨y, hy⟩ := ho enc w base spare held fuel _ _ hf
  exact ⟨y, cs, rfl, by simpa [Value.cells] using hy⟩

theorem cells1 {cs : List Value} (h : cs.length = 1) : ∃ a, cs = [a] := by
  match cs, h with
  | [a], _ => exact ⟨a, rfl⟩
theorem cells2 {cs : List Value} (h : cs.length = 2) : ∃ a b, cs = [a, b] := by
  match cs, h with
  | [a, b], _ => exact ⟨a, b, rfl⟩
theorem cells3 {cs : List Value} (h : cs.length = 3) : ∃ a b c, cs = [a, b, c] := by
  match cs, h with
  | [a, b, c], _ => exact ⟨a, b, c, rfl⟩
theorem cells5 {cs : List Value} (h : cs.length = 5) : ∃ a b c d e, cs = [a, b, c, d, e] := by
  match cs, h with
  | [a, b, c, d, e], _ => exact ⟨a, b, c, d, e, rfl⟩

/-- A sector: its address, its stamp, its payload. -/
structure Sec where
  addr : Int
  stamp : Int
  load : List UInt8
def secR : Rp Sec := fun w S cs x => ∃ A n c, cs = [.int .i64 x.addr, .int .i64 x.stamp, .slice A n c] ∧ InI x.addr ∧ InI x.stamp ∧ Sl byteR 1 w S A n c x.load
theorem secR_fine : Fine secR 3 where
  size := by rintro _ _ _ _ ⟨A, n, c, rfl, _⟩; rfl
  one := by rintro _ _ _ _ ⟨A, n, c, rfl, _⟩ u hu; simp at hu; rcases hu with rfl | rfl | rfl <;> rfl
  move := by rintro _ _ _ _ _ _ ⟨A, n, c, rfl, h1, h2, h⟩ hk hS; exact ⟨A, n, c, rfl, h1, h2, h.move byteR_fine hk hS⟩
theorem opens_sec {P : Program} {t i b : TypeId} {fs : Array Field} (ht : P.underlying t = some (.struct fs)) (hc : P.cellsOf t = 3) (h0 : (fs[0]?).map (fun f => (f.type, f.offset)) = some (i, 0)) (h1 : (fs[1]?).map (fun f => (f.type, f.offset)) = some (i, 1)) (h2 : (fs[2]?).map (fun f => (f.type, f.offset)) = some (b, 2))
    (ci : P.cellsOf i = 1) (cb : P.cellsOf b = 1) (oi : Opens P i intR) (ob : Opens P b (slR byteR 1)) : Opens P t secR := by
  intro H enc w base spare held fuel cs x h
  obtain ⟨a0, a1, a2, rfl⟩ := cells3 ((struct_len ht h).trans hc)
  obtain ⟨y0, e0, i0⟩ := struct_field ht h 0 h0 ci oi
  obtain ⟨y1, e1, i1⟩ := struct_field ht h 1 h1 ci oi
  obtain ⟨y2, A, n, c, e2, s2⟩ := struct_field ht h 2 h2 cb ob
  simp at e0 e1 e2
  subst e0; subst e1; subst e2
  exact ⟨⟨y0, y1, y2⟩, A, n, c, rfl, i0, i1, s2⟩
theorem sec_form {w : World} {v : Value} {x : Sec} (h : ArgR secR w v x) : ∃ A n c, v = .agg #[.int .i64 x.addr, .int .i64 x.stamp, .slice A n c] ∧ InI x.addr ∧ InI x.stamp ∧ Bs w A n c x.load := by
  obtain ⟨cs, rfl, A, n, c, e, h1, h2, hs⟩ := h
  obtain ⟨cs⟩ := cs
  simp at e
  subst e
  exact ⟨A, n, c, rfl, h1, h2, hs⟩

/-- A geometry. -/
structure Geo where
  zones : Int
  data : Int
  spares : Int
  slots : Int
  anchors : Int
def Geo.v (g : Geo) : Value := .agg #[.int .i64 g.zones, .int .i64 g.data, .int .i64 g.spares, .int .i64 g.slots, .int .i64 g.anchors]
def Geo.In (g : Geo) : Prop := InI g.zones ∧ InI g.data ∧ InI g.spares ∧ InI g.slots ∧ InI g.anchors
def geoR : Rp Geo := fun w S cs g => cs = [.int .i64 g.zones, .int .i64 g.data, .int .i64 g.spares, .int .i64 g.slots, .int .i64 g.anchors] ∧ g.In
theorem opens_geo {P : Program} {t i : TypeId} {fs : Array Field} (ht : P.underlying t = some (.struct fs)) (hc : P.cellsOf t = 5) (hf : ∀ k, k < 5 → (fs[k]?).map (fun f => (f.type, f.offset)) = some (i, k))
    (ci : P.cellsOf i = 1) (oi : Opens P i intR) : Opens P t geoR := by
  intro H enc w base spare held fuel cs x h
  obtain ⟨a0, a1, a2, a3, a4, rfl⟩ := cells5 ((struct_len ht h).trans hc)
  obtain ⟨y0, e0, i0⟩ := struct_field ht h 0 (hf 0 (by omega)) ci oi
  obtain ⟨y1, e1, i1⟩ := struct_field ht h 1 (hf 1 (by omega)) ci oi
  obtain ⟨y2, e2, i2⟩ := struct_field ht h 2 (hf 2 (by omega)) ci oi
  obtain ⟨y3, e3, i3⟩ := struct_field ht h 3 (hf 3 (by omega)) ci oi
  obtain ⟨y4, e4, i4⟩ := struct_field ht h 4 (hf 4 (by omega)) ci oi
  simp at e0 e1 e2 e3 e4
  subst e0; subst e1; subst e2; subst e3; subst e4
  exact ⟨⟨y0, y1, y2, y3, y4⟩, rfl, i0, i1, i2, i3, i4⟩
theorem geo_form {w : World} {v : Value} {g : Geo} (h : ArgR geoR w v g) : v = g.v ∧ g.In := by
  obtain ⟨cs, rfl, e, h1⟩ := h
  obtain ⟨cs⟩ := cs
  simp at e
  subst e
  exact ⟨rfl, h1⟩

/-- An entry of a table. -/
structure Ent where
  stamp : Int
  sum : Int
  lost : Bool
instance : DecidableEq Ent := fun a b => decidable_of_iff (a.stamp = b.stamp ∧ a.sum = b.sum ∧ a.lost = b.lost) ⟨fun ⟨h1, h2, h3⟩ => by cases a; cases b; simp_all, fun h => by rw [h]; exact ⟨rfl, rfl, rfl⟩⟩
def Ent.v (e : Ent) : Value := .agg #[.int .i64 e.stamp, .int .i64 e.sum, .bool e.lost]
def entR : Rp Ent := fun w S cs x => cs = [.int .i64 x.stamp, .int .i64 x.sum, .bool x.lost] ∧ InI x.stamp ∧ InI x.sum
theorem entR_fine : Fine entR 3 where
  size := by rintro _ _ _ _ ⟨rfl, _⟩; rfl
  one := by rintro _ _ _ _ ⟨rfl, _⟩ u hu; simp at hu; rcases hu with rfl | rfl | rfl <;> rfl
  move := by rintro _ _ _ _ _ _ ⟨rfl, h1, h2⟩ hk hS; exact ⟨rfl, h1, h2⟩
theorem opens_ent {P : Program} {t i b : TypeId} {fs : Array Field} (ht : P.underlying t = some (.struct fs)) (hc : P.cellsOf t = 3) (h0 : (fs[0]?).map (fun f => (f.type, f.offset)) = some (i, 0)) (h1 : (fs[1]?).map (fun f => (f.type, f.offset)) = some (i, 1)) (h2 : (fs[2]?).map (fun f => (f.type, f.offset)) = some (b, 2))
    (ci : P.cellsOf i = 1) (cb : P.cellsOf b = 1) (oi : Opens P i intR) (ob : Opens P b boolR) : Opens P t entR := by
  intro H enc w base spare held fuel cs x h
  obtain ⟨a0, a1, a2, rfl⟩ := cells3 ((struct_len ht h).trans hc)
  obtain ⟨y0, e0, i0⟩ := struct_field ht h 0 h0 ci oi
  obtain ⟨y1, e1, i1⟩ := struct_field ht h 1 h1 ci oi
  obtain ⟨y2, e2⟩ := struct_field ht h 2 h2 cb ob
  simp [boolR] at e0 e1 e2
  subst e0; subst e1; subst e2
  exact ⟨⟨y0, y1, y2⟩, rfl, i0, i1⟩
theorem ent_form {w : World} {v : Value} {x : Ent} (h : ArgR entR w v x) : v = x.v ∧ InI x.stamp ∧ InI x.sum := by
  obtain ⟨cs, rfl, e, h1⟩ := h
  obtain ⟨cs⟩ := cs
  simp at e
  subst e
  exact ⟨rfl, h1⟩

/-- A table: a struct of one slice. -/
def tabR : Rp (List Ent) := slR entR 3
theorem opens_wrap {α : Type} {R : Rp α} {P : Program} {t b : TypeId} {fs : Array Field} (ht : P.underlying t = some (.struct fs)) (hc : P.cellsOf t = 1) (h0 : (fs[0]?).map (fun f => (f.type, f.offset)) = some (b, 0)) (cb : P.cellsOf b = 1) (ob : Opens P b R) : Opens P t R := by
  intro H enc w base spare held fuel cs x h
  obtain ⟨a0, rfl⟩ := cells1 ((struct_len ht h).trans hc)
  obtain ⟨y, hy⟩ := struct_field ht h 0 h0 cb ob
  exact ⟨y, by simpa using hy⟩
theorem tab_form {w : World} {v : Value} {L : List Ent} (h : ArgR tabR w v L) : ∃ A n c, v = .agg #[.slice A n c] ∧ Sl entR 3 w (Old w) A n c L := by
  obtain ⟨cs, rfl, A, n, c, e, h1⟩ := h
  obtain ⟨cs⟩ := cs
  simp at e
  subst e
  exact ⟨A, n, c, rfl, h1⟩

/-- What was read: an error, and bytes. -/
structure Gt where
  err : Int
  bytes : List UInt8
def gotR : Rp Gt := fun w S cs x => ∃ A n c, cs = [.int .i64 x.err, .slice A n c] ∧ InI x.err ∧ Sl byteR 1 w S A n c x.bytes
theorem gotR_fine : Fine gotR 2 where
  size := by rintro _ _ _ _ ⟨A, n, c, rfl, _⟩; rfl
  one := by rintro _ _ _ _ ⟨A, n, c, rfl, _⟩ u hu; simp at hu; rcases hu with rfl | rfl <;> rfl
  move := by rintro _ _ _ _ _ _ ⟨A, n, c, rfl, h1, h⟩ hk hS; exact ⟨A, n, c, rfl, h1, h.move byteR_fine hk hS⟩
theorem opens_got {P : Program} {t i b : TypeId} {fs : Array Field} (ht : P.underlying t = some (.struct fs)) (hc : P.cellsOf t = 2) (h0 : (fs[0]?).map (fun f => (f.type, f.offset)) = some (i, 0)) (h1 : (fs[1]?).map (fun f => (f.type, f.offset)) = some (b, 1))
    (ci : P.cellsOf i = 1) (cb : P.cellsOf b = 1) (oi : Opens P i intR) (ob : Opens P b (slR byteR 1)) : Opens P t gotR := by
  intro H enc w base spare held fuel cs x h
  obtain ⟨a0, a1, rfl⟩ := cells2 ((struct_len ht h).trans hc)
  obtain ⟨y0, e0, i0⟩ := struct_field ht h 0 h0 ci oi
  obtain ⟨y1, A, n, c, e1, s1⟩ := struct_field ht h 1 h1 cb ob
  simp at e0 e1
  subst e0; subst e1
  exact ⟨⟨y0, y1⟩, A, n, c, rfl, i0, s1⟩
theorem got_form {w : World} {v : Value} {x : Gt} (h : ArgR gotR w v x) : ∃ A n c, v = .agg #[.int .i64 x.err, .slice A n c] ∧ InI x.err ∧ Bs w A n c x.bytes := by
  obtain ⟨cs, rfl, A, n, c, e, h1, hs⟩ := h
  obtain ⟨cs⟩ := cs
  simp at e
  subst e
  exact ⟨A, n, c, rfl, h1, hs⟩

end Go.Proofs.YtdcoholjnlndgaaDoor
