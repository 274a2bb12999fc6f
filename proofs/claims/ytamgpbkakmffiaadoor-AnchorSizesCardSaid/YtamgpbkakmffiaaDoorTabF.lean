/-
  Contract: table.Read.
-/
import Derived.Test.YtamgpbkakmffiaaDoorTabE
namespace Go.Proofs.YtamgpbkakmffiaaDoor
open Go.RowKit
set_option linter.unusedVariables false
set_option maxRecDepth 100000

theorem entKept {w w' : World} {base lo : Nat} {e : TypeId} {V : Value} {n : Nat} {L : List Ent} {rw : Option Nat} (h : Ow entR 3 w base lo e V n L) (hg : w.grownBy w' rw) (hne : V.ownBlock = none ∨ V.ownBlock ≠ rw) : Ow entR 3 w' base lo e V n L := by
  obtain ⟨hl, xs, hx, h1, hel⟩ := h
  exact ⟨hl, xs, hx.kept hg hne, h1, fun i x hi => hel i x hi⟩
theorem put_grown (w : World) (p : Addr) (v : Value) : w.grownBy (w.setCell p v) (some p.block) := ⟨rfl, rfl, rfl, by simp [World.setCell], fun k hk hne => put_blk w p v k (fun e => hne (by rw [e]))⟩
theorem entPut {w : World} {base lo : Nat} {e : TypeId} {V : Value} {n : Nat} {L : List Ent} (h : Ow entR 3 w base lo e V n L) (p : Addr) (v : Value) (hp : p.block < base) : Ow entR 3 (w.setCell p v) base lo e V n L :=
  entKept h (put_grown w p v) (.inr fun e => by have := (h.lt _ e).1; omega)
/-- A literal of one entry. -/
theorem lit_entry {w : World} {N : Nat} {e : TypeId} {a s : Int} {l : Bool} (hN : w.heap.size = N) (ha : InI a) (hs : InI s) : Sl entR 3 (w.alloc (.cells #[.int .i64 a, .int .i64 s, .bool l] e)) (fun _ => True) (some ⟨N, 0, none⟩) 1 1 [⟨a, s, l⟩] := by
  subst hN
  refine ⟨rfl, Nat.le_refl _, fun _ => ⟨_, rfl, trivial, fun i y hi => ⟨[.int .i64 a, .int .i64 s, .bool l], ?_, ?_⟩⟩⟩
  · obtain rfl : i = 0 := by have := (List.getElem?_eq_some_iff.1 hi).1; simp at this; omega
    simp at hi
    subst hi
    exact ⟨rfl, ha, hs⟩
  · obtain rfl : i = 0 := by have := (List.getElem?_eq_some_iff.1 hi).1; simp at this; omega
    intro j u hu
    rw [Nat.zero_mul, add_zero']
    exact World.news_of_block (heap_alloc_new w _) j u hu
theorem bx_at2 {w w' : World} {cs : Array Value} {e : TypeId} {N : Nat} (hN : w.heap.size = N) (hb : Below (w.alloc (.cells cs e)).heap.size (w.alloc (.cells cs e)) w') (k : Nat) (u : Value) (h : cs[k]? = some u) : w'.cell? ⟨N, k, none⟩ = some u := by
  subst hN
  exact box_cell hb k u h
theorem bx_free2 {w w' : World} {cs : Array Value} {e : TypeId} {N : Nat} (hN : w.heap.size = N) (hb : Below (w.alloc (.cells cs e)).heap.size (w.alloc (.cells cs e)) w') (k : Nat) : w'.frozen? ⟨N, k, none⟩ = false := by
  subst hN
  exact box_free hb k

/-- Bytes apart stay while the entries grow and the box is stored into. -/
theorem ap_grow {N : Nat} {w w' : World} {v v' : Value} {R : Option Addr} {m c : Nat} {l : List UInt8} (h : Sl byteR 1 w (Ap N w v) R m c l) (hg : w.grownBy w' v.ownBlock) (hat : v'.ownBlock = v.ownBlock ∨ v'.ownBlock = some w.heap.size) (u : Value) : Sl byteR 1 (w'.setCell ⟨N, 0, none⟩ u) (Ap N (w'.setCell ⟨N, 0, none⟩ u) v') R m c l :=
  h.move byteR_fine (fun b hb => (put_blk _ _ _ _ hb.2.1).trans (hg.block b hb.1 hb.2.2)) (fun b hb => ⟨by rw [set_size]; exact Nat.lt_of_lt_of_le hb.1 hg.size, hb.2.1, by
    rcases hat with h | h <;> rw [h]
    · exact hb.2.2
    · intro e
      injection e with e
      have := hb.1
      omega⟩)
theorem ap_below {N : Nat} {w w' : World} {v : Value} {R : Option Addr} {m c : Nat} {l : List UInt8} (h : Sl byteR 1 w (Ap N w v) R m c l) (hb : Below w.heap.size w w') : Sl byteR 1 w' (Ap N w' v) R m c l :=
  h.move byteR_fine (fun b hb' => hb.block b hb'.1) (fun b hb' => ⟨Nat.lt_of_lt_of_le hb'.1 hb.size, hb'.2⟩)

theorem entNew {w : World} {base lo B : Nat} {e : TypeId} {A : Option Addr} {n c : Nat} {L : List Ent} (h : Ow entR 3 w base lo e (.slice A n c) n L) (hB : B ≤ base) : Sl entR 3 w (New B w) A n c L := by
  have hr := h.read entR_fine
  refine ⟨hr.len, hr.cap, fun hn => ?_⟩
  obtain ⟨ad, e1, h1, hc⟩ := hr.at0 hn
  obtain ⟨hl, xs, hx, _, _⟩ := h
  obtain ⟨g, cap, hv, hg, hgl⟩ := hx.form hn
  have hA : A = some ⟨g, 0, none⟩ := by injection hv
  subst hA
  injection e1 with e1
  subst e1
  refine ⟨_, rfl, ⟨Nat.le_trans hB hg, hgl⟩, fun i x hx => ?_⟩
  obtain ⟨cs, hr, hat⟩ := hc i x hx
  exact ⟨cs, hr, hat⟩

theorem read_len {g : Geo} {d : Nat} (hd : g.data = (d : Int)) {l : List UInt8} (h : ReadOk g.data l) : l.length = 9 * (d + 1) := by
  have := h.1
  rw [hd] at this
  omega
theorem read_tab {d : Nat} {l : List UInt8} (h9 : 9 * (d + 1) ≤ l.length) : ReadOk (d : Int) l ↔ (TabOk (d : Int) (tabOf (d + 1) l) ∧ tabL (tabOf (d + 1) l) = l) := by
  have e : ((d : Int) + 1).toNat = d + 1 := by omega
  have hk := tabL_of h9
  unfold ReadOk
  rw [e]
  constructor
  · rintro ⟨h1, h2, h3⟩
    refine ⟨h3, ?_⟩
    have := hk.2 h2
    rwa [List.take_of_length_le (by omega)] at this
  · rintro ⟨h1, h2⟩
    have hl : l.length = 9 * (d + 1) := by rw [← h2, tabL_len, tabOf_len]
    refine ⟨by omega, hk.1 ?_, h1⟩
    rw [List.take_of_length_le (by omega)]
    exact h2

end Go.Proofs.YtamgpbkakmffiaaDoor
