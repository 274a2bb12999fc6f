/-
  Readings of a zone's home and of an anchor.
  Plain: a right anchor, its bytes, the anchor that bytes are, a new one.
  Plain: an anchor of another geometry; of no bytes that go on behind an anchor's; a bent one.
-/
import Derived.Test.YtdcoholjnlndgaaDoorStruct
import Derived.Test.YtdcoholjnlndgaaDoorTabP
import Derived.Test.YtdcoholjnlndgaaDoorLabP
namespace Go.Proofs.YtdcoholjnlndgaaDoor
open Go.ChangeShapes Go.WideShapes Go.RowKit Go.Deep
set_option linter.unusedVariables false

/-- A text. -/
def strR : Rp ByteArray := fun _ _ cs s => cs = [.string s] ∧ s.size ≤ maxLen
theorem opens_str {P : Program} {t : TypeId} (ht : P.underlying t = some .string) : Opens P t strR := by
  intro H enc w base spare held fuel cs x h
  obtain ⟨s, rfl, _, hs⟩ := DataW.trod_string ht h
  exact ⟨s, rfl, hs⟩

/-- A zone's home. -/
structure Hom where
  places : List Int
  next : Int
  root : Int
instance : DecidableEq Hom := fun a b => decidable_of_iff (a.places = b.places ∧ a.next = b.next ∧ a.root = b.root) ⟨fun ⟨h1, h2, h3⟩ => by cases a; cases b; simp_all, fun h => by rw [h]; exact ⟨rfl, rfl, rfl⟩⟩
def homR : Rp Hom := fun w S cs x => ∃ A n c, cs = [.slice A n c, .int .i64 x.next, .int .i64 x.root] ∧ InI x.next ∧ InI x.root ∧ Sl intR 1 w S A n c x.places
theorem homR_fine : Fine homR 3 where
  size := by rintro _ _ _ _ ⟨A, n, c, rfl, _⟩; rfl
  one := by rintro _ _ _ _ ⟨A, n, c, rfl, _⟩ u hu; simp at hu; rcases hu with rfl | rfl | rfl <;> rfl
  move := by rintro _ _ _ _ _ _ ⟨A, n, c, rfl, h1, h2, h⟩ hk hS; exact ⟨A, n, c, rfl, h1, h2, h.move intR_fine hk hS⟩
theorem opens_hom {P : Program} {t i b : TypeId} {fs : Array Field} (ht : P.underlying t = some (.struct fs)) (hc : P.cellsOf t = 3) (h0 : (fs[0]?).map (fun f => (f.type, f.offset)) = some (b, 0)) (h1 : (fs[1]?).map (fun f => (f.type, f.offset)) = some (i, 1)) (h2 : (fs[2]?).map (fun f => (f.type, f.offset)) = some (i, 2))
    (ci : P.cellsOf i = 1) (cb : P.cellsOf b = 1) (oi : Opens P i intR) (ob : Opens P b (slR intR 1)) : Opens P t homR := by
  intro H enc w base spare held fuel cs x h
  obtain ⟨a0, a1, a2, rfl⟩ := cells3 ((struct_len ht h).trans hc)
  obtain ⟨y0, A, n, c, e0, s0⟩ := struct_field ht h 0 h0 cb ob
  obtain ⟨y1, e1, i1⟩ := struct_field ht h 1 h1 ci oi
  obtain ⟨y2, e2, i2⟩ := struct_field ht h 2 h2 ci oi
  simp at e0 e1 e2
  subst e0; subst e1; subst e2
  exact ⟨⟨y0, y1, y2⟩, A, n, c, rfl, i1, i2, s0⟩

/-- An anchor. -/
structure Anc where
  gen : Int
  epoch : Int
  pos : Int
  seq : Int
  last : Int
  label : ByteArray
  homes : List Hom
def Anc.In (a : Anc) : Prop := InI a.gen ∧ InI a.epoch ∧ InI a.pos ∧ InI a.seq ∧ InI a.last ∧ a.label.size ≤ maxLen
/-- An anchor's value, its homes in a slice. -/
def Anc.v (a : Anc) (V : Value) : Value := .agg #[.int .i64 a.gen, .int .i64 a.epoch, .int .i64 a.pos, .int .i64 a.seq, .int .i64 a.last, .string a.label, V]
def ancR : Rp Anc := fun w S cs a => ∃ A n c, cs = [.int .i64 a.gen, .int .i64 a.epoch, .int .i64 a.pos, .int .i64 a.seq, .int .i64 a.last, .string a.label, .slice A n c] ∧ a.In ∧ Sl homR 3 w S A n c a.homes
theorem cells7 {cs : List Value} (h : cs.length = 7) : ∃ a b c d e f g, cs = [a, b, c, d, e, f, g] := by
  match cs, h with
  | [a, b, c, d, e, f, g], _ => exact ⟨a, b, c, d, e, f, g, rfl⟩
theorem opens_anc {P : Program} {t i s b : TypeId} {fs : Array Field} (ht : P.underlying t = some (.struct fs)) (hc : P.cellsOf t = 7) (hf : ∀ k, k < 5 → (fs[k]?).map (fun f => (f.type, f.offset)) = some (i, k))
    (h5 : (fs[5]?).map (fun f => (f.type, f.offset)) = some (s, 5)) (h6 : (fs[6]?).map (fun f => (f.type, f.offset)) = some (b, 6))
    (ci : P.cellsOf i = 1) (cs1 : P.cellsOf s = 1) (cb : P.cellsOf b = 1) (oi : Opens P i intR) (os : Opens P s strR) (ob : Opens P b (slR homR 3)) : Opens P t ancR := by
  intro H enc w base spare held fuel cs x h
  obtain ⟨a0, a1, a2, a3, a4, a5, a6, rfl⟩ := cells7 ((struct_len ht h).trans hc)
  obtain ⟨y0, e0, i0⟩ := struct_field ht h 0 (hf 0 (by omega)) ci oi
  obtain ⟨y1, e1, i1⟩ := struct_field ht h 1 (hf 1 (by omega)) ci oi
  obtain ⟨y2, e2, i2⟩ := struct_field ht h 2 (hf 2 (by omega)) ci oi
  obtain ⟨y3, e3, i3⟩ := struct_field ht h 3 (hf 3 (by omega)) ci oi
  obtain ⟨y4, e4, i4⟩ := struct_field ht h 4 (hf 4 (by omega)) ci oi
  obtain ⟨y5, e5, i5⟩ := struct_field ht h 5 h5 cs1 os
  obtain ⟨y6, A, n, c, e6, s6⟩ := struct_field ht h 6 h6 cb ob
  simp at e0 e1 e2 e3 e4 e5 e6
  subst e0; subst e1; subst e2; subst e3; subst e4; subst e5; subst e6
  exact ⟨⟨y0, y1, y2, y3, y4, y5, y6⟩, A, n, c, rfl, ⟨i0, i1, i2, i3, i4, i5⟩, s6⟩
theorem anc_form {w : World} {v : Value} {a : Anc} (h : ArgR ancR w v a) : ∃ A n c, v = a.v (.slice A n c) ∧ a.In ∧ Sl homR 3 w (Old w) A n c a.homes := by
  obtain ⟨cs, rfl, A, n, c, e, h1, hs⟩ := h
  obtain ⟨cs⟩ := cs
  simp at e
  subst e
  exact ⟨A, n, c, rfl, h1, hs⟩

end Go.Proofs.YtdcoholjnlndgaaDoor

namespace Go.Proofs.YtdcoholjnlndgaaDoor
open Go.RowKit Go.Lib
set_option linter.unusedVariables false

/-- Places that are each between nought and the next spare, no two alike. -/
def PlOk (next : Int) (l : List Int) : Prop := ∀ (i : Nat) (p : Int), l[i]? = some p → (0 ≤ p ∧ p ≤ next - 1) ∧ p ∉ l.take i
def plOkB (next : Int) (l : List Int) : Bool := (List.range l.length).all fun i => match l[i]? with | none => true | some p => decide ((0 ≤ p ∧ p ≤ next - 1) ∧ p ∉ l.take i)
theorem plOkB_iff (next : Int) (l : List Int) : plOkB next l = true ↔ PlOk next l := by
  unfold plOkB PlOk
  rw [List.all_eq_true]
  constructor
  · intro h i p hp
    have h1 := h i (List.mem_range.2 (List.getElem?_eq_some_iff.1 hp).1)
    rw [hp] at h1
    exact of_decide_eq_true h1
  · intro h i hi
    have hl := List.mem_range.1 hi
    rw [List.getElem?_eq_getElem hl]
    exact decide_eq_true (h i _ (List.getElem?_eq_getElem hl))
instance (next : Int) (l : List Int) : Decidable (PlOk next l) := decidable_of_iff _ (plOkB_iff next l)

/-- A right home of a geometry. -/
def HomOk (g : Geo) (h : Hom) : Prop := (h.places.length : Int) = g.data + 1 ∧ (g.data + 1 ≤ h.next ∧ h.next ≤ g.data + 1 + g.spares) ∧ NumOk h.root ∧ PlOk h.next h.places
instance (g : Geo) (h : Hom) : Decidable (HomOk g h) := by unfold HomOk; infer_instance
/-- The numbers of a right anchor. -/
def HeadOk (g : Geo) (a : Anc) : Prop := NumOk a.gen ∧ NumOk a.epoch ∧ NumOk a.seq ∧ NumOk a.last ∧ 1 ≤ a.seq ∧ a.seq - 1 ≤ a.last ∧ (0 ≤ a.pos ∧ a.pos ≤ g.slots - 1)
instance (g : Geo) (a : Anc) : Decidable (HeadOk g a) := by unfold HeadOk; infer_instance
/-- A right anchor of a geometry. -/
def AncOk (g : Geo) (a : Anc) : Prop := HeadOk g a ∧ labE (sL a.label) = 0 ∧ (a.homes.length : Int) = g.zones ∧ ∀ h ∈ a.homes, HomOk g h
instance (g : Geo) (a : Anc) : Decidable (AncOk g a) := by unfold AncOk; infer_instance

/-- A home's bytes; an anchor's. -/
def homL (h : Hom) : List UInt8 := (h.places.map fun p => UInt8.ofNat p.toNat) ++ le 1 h.next.toNat ++ le 4 h.root.toNat
def homsL (l : List Hom) : List UInt8 := (l.map homL).flatten
def headL (a : Anc) : List UInt8 := le 4 a.gen.toNat ++ le 4 a.epoch.toNat ++ le 4 a.seq.toNat ++ le 4 a.last.toNat ++ le 1 a.pos.toNat
def ancL (a : Anc) : List UInt8 := headL a ++ labB (sL a.label) ++ homsL a.homes
theorem homL_len (h : Hom) : (homL h).length = h.places.length + 5 := by simp [homL, le_len]
theorem headL_len (a : Anc) : (headL a).length = 17 := by simp [headL, le_len]
theorem homsL_len {d : Nat} {l : List Hom} (hl : ∀ h ∈ l, h.places.length = d + 1) : (homsL l).length = l.length * (d + 6) := by
  induction l with
  | nil => simp [homsL]
  | cons h l ih =>
    have e : homsL (h :: l) = homL h ++ homsL l := rfl
    rw [e, List.length_append, homL_len, hl h (List.mem_cons_self ..), ih fun x hx => hl x (List.mem_cons_of_mem _ hx), List.length_cons, Nat.add_mul, Nat.one_mul]
    omega
theorem ancL_len {d : Nat} {a : Anc} (hl : ∀ h ∈ a.homes, h.places.length = d + 1) : (ancL a).length = 18 + (sL a.label).length + a.homes.length * (d + 6) := by
  rw [ancL, List.length_append, List.length_append, headL_len, homsL_len hl, labB, List.length_cons]
  omega

/-- The home that bytes begin with; so many homes; the anchor that bytes are. -/
def homOf (d : Nat) (l : List UInt8) : Hom := ⟨(l.take (d + 1)).map fun x => (x.toNat : Int), num ((l.drop (d + 1)).take 1), num ((l.drop (d + 2)).take 4)⟩
def homsOf (d : Nat) : Nat → List UInt8 → List Hom
  | 0, _ => []
  | z + 1, l => homOf d l :: homsOf d z (l.drop (d + 6))
def ancOf (z d : Nat) (b : List UInt8) : Option Anc := match readLab (b.drop 17) with
  | none => none
  | some s => if b.length = 18 + s.length + z * (d + 6) then some ⟨num (b.take 4), num ((b.drop 4).take 4), num ((b.drop 16).take 1), num ((b.drop 8).take 4), num ((b.drop 12).take 4), ⟨s.toArray⟩, homsOf d z (b.drop (18 + s.length))⟩ else none

theorem homsOf_len (d z : Nat) (l : List UInt8) : (homsOf d z l).length = z := by
  induction z generalizing l with
  | zero => rfl
  | succ z ih => simp [homsOf, ih]
theorem byte_list {l : List Int} (h : ∀ p ∈ l, 0 ≤ p ∧ p < 256) : ((l.map fun p => UInt8.ofNat p.toNat).map fun x => (x.toNat : Int)) = l := by
  rw [List.map_map]
  conv => rhs; rw [← List.map_id l]
  apply List.map_congr_left
  intro p hp
  have := h p hp
  simp only [Function.comp, UInt8.toNat_ofNat', id]
  omega
theorem byte_back (l : List UInt8) : ((l.map fun x => (x.toNat : Int)).map fun p => UInt8.ofNat p.toNat) = l := by
  rw [List.map_map]
  conv => rhs; rw [← List.map_id l]
  apply List.map_congr_left
  intro p hp
  simp only [Function.comp, Int.toNat_natCast, id]
  exact UInt8.ofNat_toNat
theorem homOf_L {g : Geo} {h : Hom} (hG : GeoOk g) (ho : HomOk g h) (r : List UInt8) : homOf g.data.toNat (homL h ++ r) = h := by
  obtain ⟨hl, ⟨n1, n2⟩, ⟨r1, r2⟩, hp⟩ := ho
  obtain ⟨_, ⟨d1, d2⟩, ⟨s1, s2⟩, _⟩ := hG
  obtain ⟨d, hd⟩ : ∃ d : Nat, g.data = (d : Int) := ⟨g.data.toNat, by omega⟩
  rw [hd] at hl n1 n2 d1 d2 ⊢
  have hpl : h.places.length = d + 1 := by omega
  have hml : (h.places.map fun p => UInt8.ofNat p.toNat).length = d + 1 := by rw [List.length_map, hpl]
  have hby : ∀ p ∈ h.places, 0 ≤ p ∧ p < 256 := fun p hp2 => by
    obtain ⟨i, hi, e⟩ := List.mem_iff_getElem.1 hp2
    have := (hp i p (by rw [List.getElem?_eq_getElem hi, e])).1
    omega
  have e0 : homL h ++ r = (h.places.map fun p => UInt8.ofNat p.toNat) ++ (le 1 h.next.toNat ++ (le 4 h.root.toNat ++ r)) := by simp [homL, List.append_assoc]
  have e1 : (homL h ++ r).take (d + 1) = h.places.map fun p => UInt8.ofNat p.toNat := by rw [e0]; exact List.take_left' hml
  have e2 : (homL h ++ r).drop (d + 1) = le 1 h.next.toNat ++ (le 4 h.root.toNat ++ r) := by rw [e0]; exact List.drop_left' hml
  have e3 : (homL h ++ r).drop (d + 2) = le 4 h.root.toNat ++ r := by
    rw [show d + 2 = d + 1 + 1 from rfl, ← List.drop_drop, e2]
    exact List.drop_left' (le_len 1 _)
  show homOf d _ = _
  unfold homOf
  rw [e1, e2, e3, byte_list hby, List.take_left' (le_len 1 _), List.take_left' (le_len 4 _), num_le, num_le, Nat.mod_eq_of_lt (by omega), Nat.mod_eq_of_lt (by omega), Int.toNat_of_nonneg (by omega), Int.toNat_of_nonneg r1]
theorem homsOf_L {g : Geo} {l : List Hom} (hG : GeoOk g) (ho : ∀ h ∈ l, HomOk g h) (r : List UInt8) : homsOf g.data.toNat l.length (homsL l ++ r) = l := by
  induction l with
  | nil => rfl
  | cons h l ih =>
    have h0 := ho h (List.mem_cons_self ..)
    have e : homsL (h :: l) = homL h ++ homsL l := rfl
    have hd : (homL h).length = g.data.toNat + 6 := by have := h0.1; have := hG.2.1; rw [homL_len]; omega
    rw [e, List.append_assoc, List.length_cons, homsOf, homOf_L hG h0, List.drop_left' hd, ih fun x hx => ho x (List.mem_cons_of_mem _ hx)]
theorem labB_read {l : List UInt8} (h : labE l = 0) (r : List UInt8) : readLab (labB l ++ r) = some l := by
  have h24 := lab_len h
  have hn : (UInt8.ofNat l.length).toNat = l.length := by rw [UInt8.toNat_ofNat']; omega
  show (if (l ++ r).length < (UInt8.ofNat l.length).toNat then (none : Option (List UInt8)) else if labE ((l ++ r).take (UInt8.ofNat l.length).toNat) = 0 then some ((l ++ r).take (UInt8.ofNat l.length).toNat) else none) = _
  rw [hn, List.length_append, if_neg (by omega), List.take_left, if_pos h]
theorem readLab_some {b l : List UInt8} (h : readLab b = some l) : labE l = 0 ∧ b.take (1 + l.length) = labB l ∧ 1 + l.length ≤ b.length := by
  match b, h with
  | x :: r, h =>
    unfold readLab at h
    dsimp only at h
    by_cases h1 : r.length < x.toNat
    · rw [if_pos h1] at h; cases h
    · rw [if_neg h1] at h
      by_cases h2 : labE (r.take x.toNat) = 0
      · rw [if_pos h2] at h
        injection h with h
        have hl : l.length = x.toNat := by rw [← h, List.length_take]; omega
        refine ⟨by rw [← h]; exact h2, ?_, by rw [List.length_cons]; omega⟩
        rw [labB, hl, Nat.add_comm, List.take_succ_cons, h]
        congr 1
        exact UInt8.ofNat_toNat.symm
      · rw [if_neg h2] at h; cases h

/-- What a right anchor's bytes are read as. -/
theorem anc_back {g : Geo} {a : Anc} (hG : GeoOk g) (h : AncOk g a) : ancOf g.zones.toNat g.data.toNat (ancL a) = some a := by
  obtain ⟨⟨⟨g1, g2⟩, ⟨p1, p2⟩, ⟨s1, s2⟩, ⟨l1, l2⟩, _, _, o1, o2⟩, hlab, hz, hh⟩ := h
  have hzs := hG.1
  have hds := hG.2.1
  have hsl := hG.2.2.2.1
  have hpl : ∀ h ∈ a.homes, h.places.length = g.data.toNat + 1 := fun h hm => by have := (hh h hm).1; omega
  have hlen := ancL_len hpl
  have c : ancL a = le 4 a.gen.toNat ++ (le 4 a.epoch.toNat ++ (le 4 a.seq.toNat ++ (le 4 a.last.toNat ++ (le 1 a.pos.toNat ++ (labB (sL a.label) ++ homsL a.homes))))) := by simp [ancL, headL, List.append_assoc]
  have d4 : (ancL a).drop 4 = le 4 a.epoch.toNat ++ (le 4 a.seq.toNat ++ (le 4 a.last.toNat ++ (le 1 a.pos.toNat ++ (labB (sL a.label) ++ homsL a.homes)))) := by rw [c]; exact List.drop_left' (le_len 4 _)
  have d8 : (ancL a).drop 8 = le 4 a.seq.toNat ++ (le 4 a.last.toNat ++ (le 1 a.pos.toNat ++ (labB (sL a.label) ++ homsL a.homes))) := by rw [show 8 = 4 + 4 from rfl, ← List.drop_drop, d4]; exact List.drop_left' (le_len 4 _)
  have d12 : (ancL a).drop 12 = le 4 a.last.toNat ++ (le 1 a.pos.toNat ++ (labB (sL a.label) ++ homsL a.homes)) := by rw [show 12 = 8 + 4 from rfl, ← List.drop_drop, d8]; exact List.drop_left' (le_len 4 _)
  have d16 : (ancL a).drop 16 = le 1 a.pos.toNat ++ (labB (sL a.label) ++ homsL a.homes) := by rw [show 16 = 12 + 4 from rfl, ← List.drop_drop, d12]; exact List.drop_left' (le_len 4 _)
  have d17 : (ancL a).drop 17 = labB (sL a.label) ++ homsL a.homes := by rw [show 17 = 16 + 1 from rfl, ← List.drop_drop, d16]; exact List.drop_left' (le_len 1 _)
  have dh : (ancL a).drop (18 + (sL a.label).length) = homsL a.homes := by
    rw [show 18 + (sL a.label).length = 17 + (1 + (sL a.label).length) by omega, ← List.drop_drop, d17]
    exact List.drop_left' (by rw [labB, List.length_cons]; omega)
  have e0 : num ((ancL a).take 4) = a.gen.toNat := by rw [c, List.take_left' (le_len 4 _), num_le, Nat.mod_eq_of_lt (by omega)]
  have e4 : num (((ancL a).drop 4).take 4) = a.epoch.toNat := by rw [d4, List.take_left' (le_len 4 _), num_le, Nat.mod_eq_of_lt (by omega)]
  have e8 : num (((ancL a).drop 8).take 4) = a.seq.toNat := by rw [d8, List.take_left' (le_len 4 _), num_le, Nat.mod_eq_of_lt (by omega)]
  have e12 : num (((ancL a).drop 12).take 4) = a.last.toNat := by rw [d12, List.take_left' (le_len 4 _), num_le, Nat.mod_eq_of_lt (by omega)]
  have e16 : num (((ancL a).drop 16).take 1) = a.pos.toNat := by rw [d16, List.take_left' (le_len 1 _), num_le, Nat.mod_eq_of_lt (by omega)]
  have hr := homsOf_L hG hh []
  rw [List.append_nil] at hr
  have hzl : a.homes.length = g.zones.toNat := by omega
  unfold ancOf
  rw [d17, labB_read hlab]
  dsimp only
  rw [if_pos (by rw [hlen, hzl]), e0, e4, e8, e12, e16, dh, ← hzl, hr]
  obtain ⟨gen, epoch, pos, seq, last, label, homes⟩ := a
  simp only at *
  rw [Int.toNat_of_nonneg g1, Int.toNat_of_nonneg p1, Int.toNat_of_nonneg s1, Int.toNat_of_nonneg l1, Int.toNat_of_nonneg o1]

theorem le_num' {l : List UInt8} {k : Nat} (h : l.length = k) : le k (num l) = l := by subst h; exact le_num l
theorem homL_of {d : Nat} {l : List UInt8} (h : d + 6 ≤ l.length) : homL (homOf d l) = l.take (d + 6) := by
  have q1 : le 1 (num ((l.drop (d + 1)).take 1)) = (l.drop (d + 1)).take 1 := le_num' (by rw [List.length_take, List.length_drop]; omega)
  have q2 : le 4 (num ((l.drop (d + 2)).take 4)) = (l.drop (d + 2)).take 4 := le_num' (by rw [List.length_take, List.length_drop]; omega)
  unfold homL homOf
  simp only [Int.toNat_natCast]
  have e : l.take (d + 6) = l.take (d + 1) ++ (l.drop (d + 1)).take 1 ++ (l.drop (d + 2)).take 4 := by
    rw [show d + 6 = (d + 2) + 4 from rfl, List.take_add (i := d + 2) (j := 4)]
    congr 1
    exact List.take_add (i := d + 1) (j := 1)
  rw [byte_back, q1, q2, e]
theorem homsL_of {d : Nat} {z : Nat} {l : List UInt8} (h : z * (d + 6) ≤ l.length) : homsL (homsOf d z l) = l.take (z * (d + 6)) := by
  induction z generalizing l with
  | zero => simp [homsOf, homsL]
  | succ z ih =>
    rw [Nat.add_mul, Nat.one_mul] at h
    have e : homsL (homsOf d (z + 1) l) = homL (homOf d l) ++ homsL (homsOf d z (l.drop (d + 6))) := rfl
    rw [e, homL_of (by omega), ih (by rw [List.length_drop]; omega), Nat.add_mul, Nat.one_mul, Nat.add_comm (z * (d + 6)), List.take_add (i := d + 6) (j := z * (d + 6))]
/-- What is read is written to the same bytes. -/
theorem anc_of {z d : Nat} {b : List UInt8} {a : Anc} (h : ancOf z d b = some a) : ancL a = b ∧ a.homes.length = z ∧ labE (sL a.label) = 0 := by
  unfold ancOf at h
  cases hr : readLab (b.drop 17) with
  | none => rw [hr] at h; cases h
  | some s =>
    rw [hr] at h
    dsimp only at h
    by_cases hb : b.length = 18 + s.length + z * (d + 6)
    · rw [if_pos hb] at h
      injection h with h
      subst h
      obtain ⟨h1, h2, h3⟩ := readLab_some hr
      refine ⟨?_, homsOf_len _ _ _, h1⟩
      have q0 : le 4 (num (b.take 4)) = b.take 4 := le_num' (by rw [List.length_take]; omega)
      have q4 : le 4 (num ((b.drop 4).take 4)) = (b.drop 4).take 4 := le_num' (by rw [List.length_take, List.length_drop]; omega)
      have q8 : le 4 (num ((b.drop 8).take 4)) = (b.drop 8).take 4 := le_num' (by rw [List.length_take, List.length_drop]; omega)
      have q12 : le 4 (num ((b.drop 12).take 4)) = (b.drop 12).take 4 := le_num' (by rw [List.length_take, List.length_drop]; omega)
      have q16 : le 1 (num ((b.drop 16).take 1)) = (b.drop 16).take 1 := le_num' (by rw [List.length_take, List.length_drop]; omega)
      unfold ancL headL
      simp only [Int.toNat_natCast]
      rw [q0, q4, q8, q12, q16, homsL_of (by rw [List.length_drop]; omega), ← h2]
      have t17 : b.take 4 ++ (b.drop 4).take 4 ++ (b.drop 8).take 4 ++ (b.drop 12).take 4 ++ (b.drop 16).take 1 = b.take 17 := by
        rw [show 17 = 4 + 4 + 4 + 4 + 1 from rfl, List.take_add, List.take_add, List.take_add, List.take_add]
      rw [t17, show 18 + s.length = 17 + (1 + s.length) by omega, ← List.take_add]
      have := List.take_add (l := b) (i := 17 + (1 + s.length)) (j := z * (d + 6))
      rw [← this, List.take_of_length_le (by omega)]
    · rw [if_neg hb] at h; cases h
theorem ancL_inj {g : Geo} {a b : Anc} (hG : GeoOk g) (ha : AncOk g a) (hb : AncOk g b) (h : ancL a = ancL b) : a = b := by
  have h1 := anc_back hG ha
  rw [h, anc_back hG hb] at h1
  injection h1 with h1
  exact h1.symm

end Go.Proofs.YtdcoholjnlndgaaDoor

namespace Go.Proofs.YtdcoholjnlndgaaDoor
open Go.RowKit Go.Lib
set_option linter.unusedVariables false

/-- An anchor of one geometry fits another one. -/
def FitsA (g h : Geo) (a : Anc) : Prop := g.zones = h.zones ∧ g.data = h.data ∧ a.pos < h.slots ∧ ∀ x ∈ a.homes, x.next ≤ h.data + 1 + h.spares
theorem others {g h : Geo} {a : Anc} (hG : GeoOk g) (hH : GeoOk h) (ha : AncOk g a) : AncOk h a ↔ FitsA g h a := by
  obtain ⟨⟨h0, h1, h2, h3, h4, h5, h6⟩, hl, hz, hh⟩ := ha
  have gz := hG.1
  constructor
  · rintro ⟨⟨_, _, _, _, _, _, k6⟩, _, kz, kh⟩
    have hne : 0 < a.homes.length := by omega
    have hm : a.homes[0] ∈ a.homes := List.getElem_mem hne
    have e1 := (hh _ hm).1
    have e2 := (kh _ hm).1
    exact ⟨by omega, by omega, by omega, fun x hx => (kh x hx).2.1.2⟩
  · rintro ⟨k0, k1, k2, k3⟩
    refine ⟨⟨h0, h1, h2, h3, h4, h5, h6.1, by omega⟩, hl, by omega, fun x hx => ?_⟩
    obtain ⟨e0, e1, e2, e3⟩ := hh x hx
    exact ⟨by omega, ⟨by omega, k3 x hx⟩, e2, e3⟩

theorem anc_lab {a : Anc} (hl : labE (sL a.label) = 0) (r : List UInt8) : readLab ((ancL a ++ r).drop 17) = some (sL a.label) := by
  have e : (ancL a ++ r).drop 17 = labB (sL a.label) ++ (homsL a.homes ++ r) := by
    have : ancL a ++ r = headL a ++ (labB (sL a.label) ++ (homsL a.homes ++ r)) := by simp [ancL, List.append_assoc]
    rw [this]
    exact List.drop_left' (headL_len a)
  rw [e]
  exact labB_read hl _
theorem anc_len_of {g : Geo} {a : Anc} (hG : GeoOk g) (h : AncOk g a) : (ancL a).length = 18 + (sL a.label).length + g.zones.toNat * (g.data.toNat + 6) := by
  have hd := hG.2.1
  have hz := h.2.2.1
  have hpl : ∀ x ∈ a.homes, x.places.length = g.data.toNat + 1 := fun x hm => by have := (h.2.2.2 x hm).1; omega
  rw [ancL_len hpl, show a.homes.length = g.zones.toNat by omega]
/-- No anchor's bytes go on as another one's. -/
theorem anc_prefix {g : Geo} {a b : Anc} {r : List UInt8} (hG : GeoOk g) (ha : AncOk g a) (hb : AncOk g b) (h : ancL a ++ r = ancL b) : r = [] := by
  have e1 := anc_lab ha.2.1 r
  have e2 := anc_lab hb.2.1 []
  rw [List.append_nil, ← h, e1] at e2
  injection e2 with e2
  have l1 := anc_len_of hG ha
  have l2 := anc_len_of hG hb
  rw [← h, List.length_append, l1, e2] at l2
  exact List.length_eq_zero_iff.1 (by omega)
theorem anc_short {g : Geo} {a : Anc} (hG : GeoOk g) (ha : AncOk g a) {k : Nat} (hk : k < (ancL a).length) : ∀ b, ancOf g.zones.toNat g.data.toNat ((ancL a).take k) = some b → ¬ AncOk g b := by
  intro b hb ho
  have e := (anc_of hb).1
  have h : ancL b ++ (ancL a).drop k = ancL a := by rw [e]; exact List.take_append_drop k _
  have := anc_prefix hG ho ha h
  rw [List.drop_eq_nil_iff] at this
  omega
theorem anc_long {g : Geo} {a : Anc} (hG : GeoOk g) (ha : AncOk g a) {r : List UInt8} (hr : r ≠ []) : ∀ b, ancOf g.zones.toNat g.data.toNat (ancL a ++ r) = some b → ¬ AncOk g b := by
  intro b hb ho
  exact hr (anc_prefix hG ha ho (anc_of hb).1.symm)
theorem anc_room {g : Geo} {a : Anc} (hG : GeoOk g) (ha : AncOk g a) : 25 ≤ (ancL a).length ∧ (ancL a).length ≤ 82 := by
  have h := anc_len_of hG ha
  have h24 := lab_len ha.2.1
  rw [sL_len] at h h24
  obtain ⟨⟨z1, z4⟩, ⟨d1, d4⟩, _⟩ := hG
  rcases (show g.zones = 1 ∨ g.zones = 2 ∨ g.zones = 3 ∨ g.zones = 4 by omega) with e | e | e | e <;> rw [e] at h <;> simp at h <;> omega

end Go.Proofs.YtdcoholjnlndgaaDoor
