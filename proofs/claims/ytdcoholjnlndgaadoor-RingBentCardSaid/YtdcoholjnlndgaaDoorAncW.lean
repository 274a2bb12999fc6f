/-
  Plain: an anchor in a box: what it reads as, stores into it; homes that are owned, a literal of one home.
-/
import Derived.Test.YtdcoholjnlndgaaDoorAncB
import Derived.Test.YtdcoholjnlndgaaDoorTabF
import Derived.Test.YtdcoholjnlndgaaDoorSpot
namespace Go.Proofs.YtdcoholjnlndgaaDoor
open Go.RowKit Go.Lib
set_option linter.unusedVariables false
set_option maxRecDepth 100000

theorem hom_info : (Tryd.prog.info? 59).map (fun i => (i.zero, i.size, i.bytes)) = some (some (.agg #[.slice none 0 0, .int .i64 0, .int .i64 0]), 3, 40) := by kernel_rfl

theorem put_off' {w : World} {N k j : Nat} {v u : Value} (hkj : k ≠ j) (h : w.cell? ⟨N, j, none⟩ = some u) : (w.setCell ⟨N, k, none⟩ v).cell? ⟨N, j, none⟩ = some u := by
  unfold World.cell? at h ⊢
  unfold World.setCell
  dsimp only at h ⊢
  rw [Array.getElem?_modify, if_pos rfl]
  cases hb : w.heap[N]? with
  | none => rw [hb] at h; cases h
  | some o =>
    rw [hb] at h
    cases o with
    | cells c e f =>
      simp only [Option.map_some, Option.isSome_none, Bool.false_eq_true, if_false] at h ⊢
      rw [Array.getElem?_setIfInBounds_ne hkj]
      exact h
    | _ => cases h

/-- Seven cells at a block. -/
def Sev (w : World) (N : Nat) (v0 v1 v2 v3 v4 v5 v6 : Value) : Prop := w.cell? ⟨N, 0, none⟩ = some v0 ∧ w.cell? ⟨N, 1, none⟩ = some v1 ∧ w.cell? ⟨N, 2, none⟩ = some v2 ∧ w.cell? ⟨N, 3, none⟩ = some v3 ∧ w.cell? ⟨N, 4, none⟩ = some v4 ∧ w.cell? ⟨N, 5, none⟩ = some v5 ∧ w.cell? ⟨N, 6, none⟩ = some v6
theorem Sev.new {w w' : World} {N : Nat} {e : TypeId} {v0 v1 v2 v3 v4 v5 v6 : Value} (hN : w.heap.size = N) (hb : Below (w.alloc (.cells #[v0, v1, v2, v3, v4, v5, v6] e)).heap.size (w.alloc (.cells #[v0, v1, v2, v3, v4, v5, v6] e)) w') : Sev w' N v0 v1 v2 v3 v4 v5 v6 :=
  ⟨bx_at2 hN hb 0 _ rfl, bx_at2 hN hb 1 _ rfl, bx_at2 hN hb 2 _ rfl, bx_at2 hN hb 3 _ rfl, bx_at2 hN hb 4 _ rfl, bx_at2 hN hb 5 _ rfl, bx_at2 hN hb 6 _ rfl⟩
theorem Sev.on {w w' : World} {N : Nat} {v0 v1 v2 v3 v4 v5 v6 : Value} (h : Sev w N v0 v1 v2 v3 v4 v5 v6) (hN : N < w.heap.size) (hb : Below w.heap.size w w') : Sev w' N v0 v1 v2 v3 v4 v5 v6 := by
  obtain ⟨h0, h1, h2, h3, h4, h5, h6⟩ := h
  exact ⟨(hb.cell hN).trans h0, (hb.cell hN).trans h1, (hb.cell hN).trans h2, (hb.cell hN).trans h3, (hb.cell hN).trans h4, (hb.cell hN).trans h5, (hb.cell hN).trans h6⟩
theorem Sev.onB {B : Nat} {w w' : World} {N : Nat} {v0 v1 v2 v3 v4 v5 v6 : Value} (h : Sev w N v0 v1 v2 v3 v4 v5 v6) (hN : N < B) (hb : Below B w w') : Sev w' N v0 v1 v2 v3 v4 v5 v6 := by
  obtain ⟨h0, h1, h2, h3, h4, h5, h6⟩ := h
  exact ⟨(hb.cell hN).trans h0, (hb.cell hN).trans h1, (hb.cell hN).trans h2, (hb.cell hN).trans h3, (hb.cell hN).trans h4, (hb.cell hN).trans h5, (hb.cell hN).trans h6⟩
theorem Sev.six {w : World} {N : Nat} {v0 v1 v2 v3 v4 v5 v6 : Value} (h : Sev w N v0 v1 v2 v3 v4 v5 v6) (v : Value) : Sev (w.setCell ⟨N, 6, none⟩ v) N v0 v1 v2 v3 v4 v5 v := by
  obtain ⟨h0, h1, h2, h3, h4, h5, h6⟩ := h
  exact ⟨put_off' (by omega) h0, put_off' (by omega) h1, put_off' (by omega) h2, put_off' (by omega) h3, put_off' (by omega) h4, put_off' (by omega) h5, put_same h6⟩
/-- All seven, stored one behind the other. -/
def put7 (w : World) (N : Nat) (v0 v1 v2 v3 v4 v5 v6 : Value) : World := ((((((w.setCell ⟨N, 0, none⟩ v0).setCell ⟨N, 1, none⟩ v1).setCell ⟨N, 2, none⟩ v2).setCell ⟨N, 3, none⟩ v3).setCell ⟨N, 4, none⟩ v4).setCell ⟨N, 5, none⟩ v5).setCell ⟨N, 6, none⟩ v6
theorem put7_sev {w : World} {N : Nat} {u0 u1 u2 u3 u4 u5 u6 : Value} (h : Sev w N u0 u1 u2 u3 u4 u5 u6) (v0 v1 v2 v3 v4 v5 v6 : Value) : Sev (put7 w N v0 v1 v2 v3 v4 v5 v6) N v0 v1 v2 v3 v4 v5 v6 := by
  obtain ⟨h0, h1, h2, h3, h4, h5, h6⟩ := h
  unfold put7
  have a0 := put_same (v := v0) h0
  have a1 := put_off' (v := v0) (show 0 ≠ 1 by omega) h1
  have a2 := put_off' (v := v0) (show 0 ≠ 2 by omega) h2
  have a3 := put_off' (v := v0) (show 0 ≠ 3 by omega) h3
  have a4 := put_off' (v := v0) (show 0 ≠ 4 by omega) h4
  have a5 := put_off' (v := v0) (show 0 ≠ 5 by omega) h5
  have a6 := put_off' (v := v0) (show 0 ≠ 6 by omega) h6
  have b0 := put_off' (v := v1) (show 1 ≠ 0 by omega) a0
  have b1 := put_same (v := v1) a1
  have b2 := put_off' (v := v1) (show 1 ≠ 2 by omega) a2
  have b3 := put_off' (v := v1) (show 1 ≠ 3 by omega) a3
  have b4 := put_off' (v := v1) (show 1 ≠ 4 by omega) a4
  have b5 := put_off' (v := v1) (show 1 ≠ 5 by omega) a5
  have b6 := put_off' (v := v1) (show 1 ≠ 6 by omega) a6
  have c2 := put_same (v := v2) b2
  have c3 := put_off' (v := v2) (show 2 ≠ 3 by omega) b3
  have c4 := put_off' (v := v2) (show 2 ≠ 4 by omega) b4
  have c5 := put_off' (v := v2) (show 2 ≠ 5 by omega) b5
  have c6 := put_off' (v := v2) (show 2 ≠ 6 by omega) b6
  have d3 := put_same (v := v3) c3
  have d4 := put_off' (v := v3) (show 3 ≠ 4 by omega) c4
  have d5 := put_off' (v := v3) (show 3 ≠ 5 by omega) c5
  have d6 := put_off' (v := v3) (show 3 ≠ 6 by omega) c6
  have e4 := put_same (v := v4) d4
  have e5 := put_off' (v := v4) (show 4 ≠ 5 by omega) d5
  have e6 := put_off' (v := v4) (show 4 ≠ 6 by omega) d6
  have f5 := put_same (v := v5) e5
  have f6 := put_off' (v := v5) (show 5 ≠ 6 by omega) e6
  have g6 := put_same (v := v6) f6
  have mv : ∀ {w : World} {j : Nat} {u : Value}, w.cell? ⟨N, j, none⟩ = some u → ∀ k v, k ≠ j → (w.setCell ⟨N, k, none⟩ v).cell? ⟨N, j, none⟩ = some u := fun h k v hk => put_off' hk h
  exact ⟨mv (mv (mv (mv (mv b0 2 v2 (by omega)) 3 v3 (by omega)) 4 v4 (by omega)) 5 v5 (by omega)) 6 v6 (by omega),
    mv (mv (mv (mv (mv b1 2 v2 (by omega)) 3 v3 (by omega)) 4 v4 (by omega)) 5 v5 (by omega)) 6 v6 (by omega),
    mv (mv (mv (mv c2 3 v3 (by omega)) 4 v4 (by omega)) 5 v5 (by omega)) 6 v6 (by omega),
    mv (mv (mv d3 4 v4 (by omega)) 5 v5 (by omega)) 6 v6 (by omega),
    mv (mv e4 5 v5 (by omega)) 6 v6 (by omega), mv f5 6 v6 (by omega), g6⟩
theorem put7_size (w : World) (N : Nat) (v0 v1 v2 v3 v4 v5 v6 : Value) : (put7 w N v0 v1 v2 v3 v4 v5 v6).heap.size = w.heap.size := by unfold put7; simp only [set_size]
theorem put7_below {B : Nat} {w w' : World} {N : Nat} (h : Below B w w') (hN : B ≤ N) (v0 v1 v2 v3 v4 v5 v6 : Value) : Below B w (put7 w' N v0 v1 v2 v3 v4 v5 v6) :=
  ((((((h.setCell hN v0).setCell hN v1).setCell hN v2).setCell hN v3).setCell hN v4).setCell hN v5).setCell hN v6
theorem put7_new {α : Type} {R : Rp α} {s B n N : Nat} {w : World} {A : Option Addr} {c : Nat} {L : List α} (hF : Fine R s) (h : Sl R s w (New B w) A n c L) (hN : N < B) (v0 v1 v2 v3 v4 v5 v6 : Value) : Sl R s (put7 w N v0 v1 v2 v3 v4 v5 v6) (New B (put7 w N v0 v1 v2 v3 v4 v5 v6)) A n c L :=
  ((((((h.new_set hF _ v0 hN).new_set hF _ v1 hN).new_set hF _ v2 hN).new_set hF _ v3 hN).new_set hF _ v4 hN).new_set hF _ v5 hN).new_set hF _ v6 hN

/-- Owned homes stay while a block below them is stored into. -/
theorem homPut {w : World} {base lo : Nat} {e : TypeId} {V : Value} {n : Nat} {L : List Hom} (h : Ow homR 3 w base lo e V n L) (p : Addr) (v : Value) (hp : p.block < base) (hl : p.block < lo) : Ow homR 3 (w.setCell p v) base lo e V n L :=
  h.kept (rw := some p.block) homR_fine (put_grown w p v) (.inr fun e => by have := (h.lt _ e).1; omega) (fun b hb => put_blk _ _ _ _ (by have := hb.1; omega))
theorem intPut {w : World} {base lo : Nat} {e : TypeId} {V : Value} {n : Nat} {L : List Int} (h : Ow intR 1 w base lo e V n L) (p : Addr) (v : Value) (hp : p.block < base) : Ow intR 1 (w.setCell p v) base lo e V n L := by
  obtain ⟨hl, xs, hx, h1, hel⟩ := h
  exact ⟨hl, xs, hx.kept (put_grown w p v) (.inr fun e => by have := (Ow.lt ⟨hl, xs, hx, h1, hel⟩ _ e).1; omega), h1, fun i x hi => hel i x hi⟩

/-- A literal of one home. -/
theorem lit_hom {w : World} {S : Nat → Prop} {e : TypeId} {A : Option Addr} {n c : Nat} {x : Hom} (hs : Sl intR 1 (w.alloc (.cells #[.slice A n c, .int .i64 x.next, .int .i64 x.root] e)) S A n c x.places) (h1 : InI x.next) (h2 : InI x.root) (hS : S w.heap.size) :
    Sl homR 3 (w.alloc (.cells #[.slice A n c, .int .i64 x.next, .int .i64 x.root] e)) S (some ⟨w.heap.size, 0, none⟩) 1 1 [x] := by
  refine ⟨rfl, Nat.le_refl _, fun _ => ⟨_, rfl, hS, fun i y hi => ⟨[.slice A n c, .int .i64 x.next, .int .i64 x.root], ?_, ?_⟩⟩⟩
  · obtain rfl : i = 0 := by have := (List.getElem?_eq_some_iff.1 hi).1; simp at this; omega
    simp at hi
    subst hi
    exact ⟨A, n, c, rfl, h1, h2, hs⟩
  · obtain rfl : i = 0 := by have := (List.getElem?_eq_some_iff.1 hi).1; simp at this; omega
    intro j u hu
    rw [Nat.zero_mul, add_zero']
    exact World.news_of_block (heap_alloc_new w _) j u hu

/-- No anchor. -/
def noAnc : Anc := ⟨0, 0, 0, 0, 0, ⟨#[]⟩, []⟩
/-- An anchor that a call hands back, its homes in new memory. -/
def AncRet (w : World) (a : Anc) (v : Value) (w' : World) : Prop := ∃ A n c, v = a.v (.slice A n c) ∧ Sl homR 3 w' (New w.heap.size w') A n c a.homes
/-- The numbers below k. -/
def upTo (k : Nat) : List Int := (List.range k).map fun (i : Nat) => (i : Int)
theorem upTo_succ (k : Nat) : upTo (k + 1) = upTo k ++ [(k : Int)] := by simp [upTo, List.range_succ]
/-- A new zone's home; a new volume's anchor. -/
def newHom (d : Nat) : Hom := ⟨upTo (d + 1), (d : Int) + 1, 0⟩
def newAnc (z d : Nat) (label : ByteArray) : Anc := ⟨1, 0, 0, 1, 0, label, List.replicate z (newHom d)⟩

end Go.Proofs.YtdcoholjnlndgaaDoor
