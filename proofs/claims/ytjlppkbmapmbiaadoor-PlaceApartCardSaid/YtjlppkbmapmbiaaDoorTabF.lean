/-
  Contracts: bytes.Equal, table.Read.
  Contracts: pack.Unrow, its rest in memory of its own; table.Read.
  Contract: table.Read.
-/
import Derived.Test.YtjlppkbmapmbiaaDoorTabB
import Derived.Laws.IdiomStrings
import Derived.Lib.BufferRead
import Derived.Deep.RegionLaw
import Derived.Deep.DeepCutAuto
import Derived.Test.YtjlppkbmapmbiaaDoorSpot
namespace Go.Proofs.YtjlppkbmapmbiaaDoor
open Go.RowKit
set_option linter.unusedVariables false
set_option maxRecDepth 100000

theorem conv_bs {P : Program} {w : World} {A : Option Addr} {n c : Nat} {l : List UInt8} (h : Bs w A n c l) (src dst e : TypeId) (hs : P.underlying src = some (.slice e)) (he : P.underlying e = some (.int .u8)) (hd : P.underlying dst = some .string) :
    (convert src dst (.slice A n c)).run P w = .ok (.string ⟨l.toArray⟩) w := by
  have hl := h.len
  by_cases h0 : n = 0
  · subst h0
    have hl0 : l = [] := List.eq_nil_of_length_eq_zero hl
    subst hl0
    cases A with
    | none => exact Lib.run_convert_nil_bytes w src dst e c hs he hd
    | some a => exact run_convert_bytes_back w src dst e a c [] hs he hd (fun j hj => absurd hj (by simp))
  · obtain ⟨ad, e1, _, hc⟩ := h.at0 (by omega)
    subst e1
    subst hl
    refine run_convert_bytes_back w src dst e ad c l hs he hd (fun j hj => ?_)
    obtain ⟨cs, hr, hat⟩ := hc j l[j] (List.getElem?_eq_getElem hj)
    have hr : cs = [.int .u8 (l[j].toNat : Int)] := hr
    subst hr
    have h1 := hat 0 _ rfl
    rwa [Nat.mul_one, add_zero'] at h1

theorem beq_bytes (xs ys : List UInt8) : (xs == ys) = decide (xs = ys) := by
  by_cases h : xs = ys
  · rw [decide_eq_true h]; simpa using h
  · rw [decide_eq_false h]; simpa using h

theorem tabOf_snoc (k : Nat) (l : List UInt8) : tabOf (k + 1) l = tabOf k l ++ [entOf (l.drop (9 * k))] := by
  induction k generalizing l with
  | zero => rfl
  | succ k ih =>
    have h1 : tabOf (k + 1 + 1) l = entOf l :: tabOf (k + 1) (l.drop 9) := rfl
    rw [h1, ih (l.drop 9), List.drop_drop, show 9 + 9 * k = 9 * (k + 1) by omega]
    rfl

end Go.Proofs.YtjlppkbmapmbiaaDoor

namespace Go.Proofs.YtjlppkbmapmbiaaDoor
open Go.RowKit
set_option linter.unusedVariables false
set_option maxRecDepth 100000

def UnrowNew (w : World) (xs : List UInt8) (s : List Int) (e : Ending) (w' : World) : Prop :=
  Below w.heap.size w w' ∧
  ((sumN s ≤ xs.length ∧ ∃ V cv R cr, e = .returned (.tuple #[.slice V s.length cv, .slice R (xs.length - sumN s) cr, .int .i64 0]) ∧ Sl intR 1 w' (New w.heap.size w') V s.length cv (unrowI s xs) ∧ Sl byteR 1 w' (New w.heap.size w') R (xs.length - sumN s) cr (xs.drop (sumN s))) ∨
   (xs.length < sumN s ∧ e = .returned (.tuple #[.slice none 0 0, .slice none 0 0, .int .i64 4])))

/-- What table.Read tells. -/
def RdQ (g : Geo) (l : List UInt8) (T : List Ent) (err : Int) : Prop := (¬ GeoOk g ∧ err = 1 ∧ T = []) ∨ (GeoOk g ∧ ReadOk g.data l ∧ err = 0 ∧ T = tabOf (g.data + 1).toNat l) ∨ (GeoOk g ∧ ¬ ReadOk g.data l ∧ err = 4 ∧ T = [])
def RdPost (w : World) (g : Geo) (l : List UInt8) (e : Ending) (w' : World) : Prop := Below w.heap.size w w' ∧ ∃ A n c T err, e = .returned (.tuple #[.agg #[.slice A n c], .int .i64 err]) ∧ Sl entR 3 w' (New w.heap.size w') A n c T ∧ RdQ g l T err

/-- The blocks that are neither the box nor the entries' own. -/
def Ap (N : Nat) (w : World) (v : Value) : Nat → Prop := fun b => b < w.heap.size ∧ b ≠ N ∧ some b ≠ v.ownBlock

end Go.Proofs.YtjlppkbmapmbiaaDoor

namespace Go.Proofs.YtjlppkbmapmbiaaDoor
open Go.RowKit
set_option linter.unusedVariables false
set_option maxRecDepth 100000

theorem entKept {w w' : World} {base lo : Nat} {e : TypeId} {V : Value} {n : Nat} {L : List Ent} {rw : Option Nat} (h : Ow entR 3 w base lo e V n L) (hg : w.grownBy w' rw) (hne : V.ownBlock = none ∨ V.ownBlock ≠ rw) : Ow entR 3 w' base lo e V n L := by
  obtain ⟨hl, xs, hx, h1, hel⟩ := h
  exact ⟨hl, xs, hx.kept hg hne, h1, fun i x hi => hel i x hi⟩
theorem put_grown (w : World) (p : Addr) (v : Value) : w.grownBy (w.setCell p v) (some p.block) := ⟨rfl, rfl, rfl, by simp [World.setCell], fun k hk hne => put_blk w p v k (fun e => hne (by rw [e]))⟩
theorem entPut {w : World} {base lo : Nat} {e : TypeId} {V : Value} {n : Nat} {L : List Ent} (h : Ow entR 3 w base lo e V n L) (p : Addr) (v : Value) (hp : p.block < base) : Ow entR 3 (w.setCell p v) base lo e V n L :=
  entKept h (put_grown w p v) (.inr fun e => by have := (h.lt _ e).1; omega)
/-- A literal of one entry. -/
theorem lit_entry {w : World} {N : Nat} {e : TypeId} {a s : Int} {l : Bool} (hN : w.heap.size = N) (ha : InI a) (hs : InI s) : Sl entR 3 (w.alloc (.cells #[.int .i64 a, .int .i64 s, .bool l] e)) (fun _ => True) (some ⟨N, 0, none⟩) 1 1 [⟨a, s, l⟩] := by
  subst hN
  refine ⟨rfl, Nat.le_refl _, fun _ => ⟨_, rfl, trivial, fun i y hi => ⟨[.int .i64 a, .int .i64 s, .bool l], ?_, ?_⟩⟩⟩
  · obtain rfl : i = 0 := by have := (List.getElem?_eq_some_iff.1 hi).1; simp at this; omega
    simp at hi
    subst hi
    exact ⟨rfl, ha, hs⟩
  · obtain rfl : i = 0 := by have := (List.getElem?_eq_some_iff.1 hi).1; simp at this; omega
    intro j u hu
    rw [Nat.zero_mul, add_zero']
    exact World.news_of_block (heap_alloc_new w _) j u hu
theorem bx_at2 {w w' : World} {cs : Array Value} {e : TypeId} {N : Nat} (hN : w.heap.size = N) (hb : Below (w.alloc (.cells cs e)).heap.size (w.alloc (.cells cs e)) w') (k : Nat) (u : Value) (h : cs[k]? = some u) : w'.cell? ⟨N, k, none⟩ = some u := by
  subst hN
  exact box_cell hb k u h
theorem bx_free2 {w w' : World} {cs : Array Value} {e : TypeId} {N : Nat} (hN : w.heap.size = N) (hb : Below (w.alloc (.cells cs e)).heap.size (w.alloc (.cells cs e)) w') (k : Nat) : w'.frozen? ⟨N, k, none⟩ = false := by
  subst hN
  exact box_free hb k

/-- Bytes apart stay while the entries grow and the box is stored into. -/
theorem ap_grow {N : Nat} {w w' : World} {v v' : Value} {R : Option Addr} {m c : Nat} {l : List UInt8} (h : Sl byteR 1 w (Ap N w v) R m c l) (hg : w.grownBy w' v.ownBlock) (hat : v'.ownBlock = v.ownBlock ∨ v'.ownBlock = some w.heap.size) (u : Value) : Sl byteR 1 (w'.setCell ⟨N, 0, none⟩ u) (Ap N (w'.setCell ⟨N, 0, none⟩ u) v') R m c l :=
  h.move byteR_fine (fun b hb => (put_blk _ _ _ _ hb.2.1).trans (hg.block b hb.1 hb.2.2)) (fun b hb => ⟨by rw [set_size]; exact Nat.lt_of_lt_of_le hb.1 hg.size, hb.2.1, by
    rcases hat with h | h <;> rw [h]
    · exact hb.2.2
    · intro e
      injection e with e
      have := hb.1
      omega⟩)
theorem ap_below {N : Nat} {w w' : World} {v : Value} {R : Option Addr} {m c : Nat} {l : List UInt8} (h : Sl byteR 1 w (Ap N w v) R m c l) (hb : Below w.heap.size w w') : Sl byteR 1 w' (Ap N w' v) R m c l :=
  h.move byteR_fine (fun b hb' => hb.block b hb'.1) (fun b hb' => ⟨Nat.lt_of_lt_of_le hb'.1 hb.size, hb'.2⟩)

theorem entNew {w : World} {base lo B : Nat} {e : TypeId} {A : Option Addr} {n c : Nat} {L : List Ent} (h : Ow entR 3 w base lo e (.slice A n c) n L) (hB : B ≤ base) : Sl entR 3 w (New B w) A n c L := by
  have hr := h.read entR_fine
  refine ⟨hr.len, hr.cap, fun hn => ?_⟩
  obtain ⟨ad, e1, h1, hc⟩ := hr.at0 hn
  obtain ⟨hl, xs, hx, _, _⟩ := h
  obtain ⟨g, cap, hv, hg, hgl⟩ := hx.form hn
  have hA : A = some ⟨g, 0, none⟩ := by injection hv
  subst hA
  injection e1 with e1
  subst e1
  refine ⟨_, rfl, ⟨Nat.le_trans hB hg, hgl⟩, fun i x hx => ?_⟩
  obtain ⟨cs, hr, hat⟩ := hc i x hx
  exact ⟨cs, hr, hat⟩

theorem read_len {g : Geo} {d : Nat} (hd : g.data = (d : Int)) {l : List UInt8} (h : ReadOk g.data l) : l.length = 9 * (d + 1) := by
  have := h.1
  rw [hd] at this
  omega
theorem read_tab {d : Nat} {l : List UInt8} (h9 : 9 * (d + 1) ≤ l.length) : ReadOk (d : Int) l ↔ (TabOk (d : Int) (tabOf (d + 1) l) ∧ tabL (tabOf (d + 1) l) = l) := by
  have e : ((d : Int) + 1).toNat = d + 1 := by omega
  have hk := tabL_of h9
  unfold ReadOk
  rw [e]
  constructor
  · rintro ⟨h1, h2, h3⟩
    refine ⟨h3, ?_⟩
    have := hk.2 h2
    rwa [List.take_of_length_le (by omega)] at this
  · rintro ⟨h1, h2⟩
    have hl : l.length = 9 * (d + 1) := by rw [← h2, tabL_len, tabOf_len]
    refine ⟨by omega, hk.1 ?_, h1⟩
    rw [List.take_of_length_le (by omega)]
    exact h2

end Go.Proofs.YtjlppkbmapmbiaaDoor
