/-
  Rows' headers that are owned and a table's box, both stored into.
-/
import Derived.Test.YtikjhcfalofgaaaStrQ
import Derived.Test.YtikjhcfalofgaaaStrR
namespace Go.Proofs.Ytikjhcfalofgaaa
open Go.RowKit Go.Lib
set_option linter.unusedVariables false

theorem Hdrs.to {w w' : World} {D D' : Nat → Prop} {hs : List (Option Addr × Nat × Nat)} {L : List (List UInt8)} (h : Hdrs w D hs L) (hD : ∀ b, D b → w'.heap[b]? = w.heap[b]? ∧ D' b) : Hdrs w' D' hs L :=
  ⟨h.1, fun j x hx => by
    obtain ⟨l, h1, h2⟩ := h.2 j x hx
    exact ⟨l, h1, h2.move byteR_fine (fun b hb => (hD b hb).1) (fun b hb => (hD b hb).2)⟩⟩
theorem Hdrs.set_ {w : World} {D : Nat → Prop} {hs : List (Option Addr × Nat × Nat)} {L : List (List UInt8)} (h : Hdrs w D hs L) (k : Nat) {A : Option Addr} {n c : Nat} {l : List UInt8} (hl : Sl byteR 1 w D A n c l) : Hdrs w D (hs.set k (A, n, c)) (L.set k l) := by
  have hlen := h.1
  refine ⟨by simp [h.1], fun j x hx => ?_⟩
  have hj := (List.getElem?_eq_some_iff.1 hx).1
  rw [List.length_set] at hj
  by_cases e : j = k
  · subst e
    rw [List.getElem?_set_self hj] at hx
    injection hx with hx
    subst hx
    exact ⟨l, List.getElem?_set_self (by omega), hl⟩
  · rw [List.getElem?_set_ne (fun e2 => e e2.symm)] at hx ⊢
    exact h.2 j x hx
def hdrOf : Value → Option Addr × Nat × Nat
  | .slice A n c => (A, n, c)
  | _ => (none, 0, 0)
theorem split_hdr {w : World} {base lo : Nat} {e : TypeId} {A : Option Addr} {n c : Nat} {L : List (List UInt8)} (h : Ow (slR byteR 1) 1 w base lo e (.slice A n c) n L) : ∃ hs, Ow hdrR 1 w base 0 e (.slice A n c) n hs ∧ Hdrs w (But w lo (.slice A n c)) hs L := by
  obtain ⟨hl, xs, hx, h1, hel⟩ := h
  have hxl : xs.length = n * 1 := hx.1
  have hv : ∀ i (hi : i < L.length), ∃ A1 n1 c1, (xs.drop (i * 1)).take 1 = [.slice A1 n1 c1] ∧ xs[i]? = some (.slice A1 n1 c1) ∧ Sl byteR 1 w (But w lo (.slice A n c)) A1 n1 c1 L[i] := fun i hi => by
    obtain ⟨A1, n1, c1, hw, hs⟩ := hel i L[i] (List.getElem?_eq_getElem hi)
    refine ⟨A1, n1, c1, hw, ?_, hs⟩
    have := congrArg (·[0]?) hw
    simpa [List.getElem?_take, List.getElem?_drop] using this
  refine ⟨xs.map hdrOf, ⟨by simp; omega, xs, hx, h1, fun i x hi => ?_⟩, by simp; omega, fun j x hj => ?_⟩
  · have hil := (List.getElem?_eq_some_iff.1 hi).1
    obtain ⟨A1, n1, c1, hw, hxi, hs⟩ := hv i (by simp at hil; omega)
    rw [List.getElem?_map, hxi] at hi
    simp [hdrOf] at hi
    subst hi
    exact hw
  · have hil := (List.getElem?_eq_some_iff.1 hj).1
    obtain ⟨A1, n1, c1, hw, hxi, hs⟩ := hv j (by simp at hil; omega)
    rw [List.getElem?_map, hxi] at hj
    simp [hdrOf] at hj
    subst hj
    exact ⟨L[j]'(by simp at hil; omega), List.getElem?_eq_getElem _, hs⟩

/-- What a block is apart from the two that are stored into. -/
def Els2 (gx N : Nat) (w : World) (b : Nat) : Prop := b < w.heap.size ∧ b ≠ gx ∧ b ≠ N
structure TwAt (W : World) (d gx x5 N : Nat) (e : TypeId) (L : List Ent) (H : List (List UInt8)) (A : Option Addr) (c : Nat) (wr : World) : Prop where
  bel : Below W.heap.size W wr
  gl : W.heap.size ≤ gx ∧ gx < wr.heap.size
  nl : W.heap.size ≤ N ∧ N < wr.heap.size
  ne : gx ≠ N
  box : wr.cell? ⟨N, 0, none⟩ = some (.slice A (d + 1) c)
  free : wr.frozen? ⟨N, 0, none⟩ = false
  tab : Sl entR 3 wr (Els2 gx N wr) A (d + 1) c L
  hdr : ∃ hs, Ow hdrR 1 wr W.heap.size 0 e (.slice (some ⟨gx, 0, none⟩) (d + 1) x5) (d + 1) hs ∧ Hdrs wr (Els2 gx N wr) hs H
section
variable {W wr wr' : World} {d gx x5 N c c' n1 c1 k : Nat} {e : TypeId} {L L' : List Ent} {H : List (List UInt8)} {A A' A1 : Option Addr} {l : List UInt8}
theorem TwAt.on (h : TwAt W d gx x5 N e L H A c wr) (hb : Below wr.heap.size wr wr') : TwAt W d gx x5 N e L H A c wr' := by
  obtain ⟨hs, ho, hh⟩ := h.hdr
  exact ⟨th h.bel hb, ⟨h.gl.1, Nat.lt_of_lt_of_le h.gl.2 hb.size⟩, ⟨h.nl.1, Nat.lt_of_lt_of_le h.nl.2 hb.size⟩, h.ne, (hb.cell (by exact h.nl.2)).trans h.box, (hb.frozen (by exact h.nl.2)).trans h.free,
    h.tab.move entR_fine (fun b hb' => hb.block b hb'.1) (fun b hb' => ⟨Nat.lt_of_lt_of_le hb'.1 hb.size, hb'.2⟩), hs, ho.below hdrR_fine hb, hh.to fun b hb' => ⟨hb.block b hb'.1, Nat.lt_of_lt_of_le hb'.1 hb.size, hb'.2⟩⟩
theorem TwAt.rows (h : TwAt W d gx x5 N e L H A c wr) : Rs wr (some ⟨gx, 0, none⟩) (d + 1) x5 H := by
  obtain ⟨hs, ho, hh⟩ := h.hdr
  exact hh.rows (fun b hb => ⟨rfl, hb.1⟩) (ho.read hdrR_fine)
theorem TwAt.ents (h : TwAt W d gx x5 N e L H A c wr) : Sl entR 3 wr (Old wr) A (d + 1) c L := h.tab.move entR_fine (fun _ _ => rfl) (fun b hb => hb.1)
theorem TwAt.put_box (h : TwAt W d gx x5 N e L H A c wr) (ht : Sl entR 3 wr (Els2 gx N wr) A' (d + 1) c' L') : TwAt W d gx x5 N e L' H A' c' (wr.setCell ⟨N, 0, none⟩ (.slice A' (d + 1) c')) := by
  obtain ⟨hs, ho, hh⟩ := h.hdr
  have hne := h.ne
  exact ⟨h.bel.setCell (by exact h.nl.1) _, by rw [set_size]; exact h.gl, by rw [set_size]; exact h.nl, h.ne, put_same h.box, by rw [put_free]; exact h.free,
    ht.move entR_fine (fun b hb => put_blk _ _ _ _ hb.2.2) (fun b hb => ⟨by rw [set_size]; exact hb.1, hb.2⟩), hs,
    hdr_kept ho (grownBy_set _ _ _) (.inr (by intro e2; injection e2 with e2; exact hne e2)),
    hh.to fun b hb => ⟨put_blk _ _ _ _ hb.2.2, by rw [set_size]; exact hb.1, hb.2⟩⟩
theorem TwAt.put_row (h : TwAt W d gx x5 N e L H A c wr) (hk : k < d + 1) (hl : Sl byteR 1 wr (Els2 gx N wr) A1 n1 c1 l) : TwAt W d gx x5 N e L (H.set k l) A c (wr.setCell ⟨gx, k, none⟩ (.slice A1 n1 c1)) := by
  obtain ⟨hs, ho, hh⟩ := h.hdr
  have hne := h.ne
  obtain ⟨g, x, u, hg0, hg, hgl, hx, hu, hcell, hfr, hst⟩ := ho.spot hdrR_fine hk
  injection hg0 with hg0
  injection hg0 with hg0
  subst hg0
  exact ⟨h.bel.setCell (by exact h.gl.1) _, by rw [set_size]; exact h.gl, by rw [set_size]; exact h.nl, h.ne, put_far (fun e2 => hne e2.symm) h.box, by rw [put_free]; exact h.free,
    h.tab.move entR_fine (fun b hb => put_blk _ _ _ _ hb.2.1) (fun b hb => ⟨by rw [set_size]; exact hb.1, hb.2⟩), hs.set k (A1, n1, c1), hst _ (A1, n1, c1) rfl rfl,
    (hh.set_ k hl).to fun b hb => ⟨put_blk _ _ _ _ hb.2.1, by rw [set_size]; exact hb.1, hb.2⟩⟩
theorem TwAt.cell (h : TwAt W d gx x5 N e L H A c wr) (hk : k < d + 1) : ∃ u, wr.cell? ⟨gx, k, none⟩ = some u ∧ wr.frozen? ⟨gx, k, none⟩ = false := by
  obtain ⟨hs, ho, hh⟩ := h.hdr
  obtain ⟨g, x, u, hg0, hg, hgl, hx, hu, hcell, hfr, hst⟩ := ho.spot hdrR_fine hk
  injection hg0 with hg0
  injection hg0 with hg0
  subst hg0
  exact ⟨u, hcell, hfr⟩
end

/-- What stands when the rows are twinned and the box is made. -/
theorem tw_made {W w8 W9 : World} {d x5 B : Nat} {e eT : TypeId} {L : List Ent} {H : List (List UInt8)} {A X : Option Addr} {c : Nat} (hb : Below W.heap.size W w8) (ho : Ow (slR byteR 1) 1 w8 B B e (.slice X (d + 1) x5) (d + 1) H) (hB : W.heap.size ≤ B) (ht : Sl entR 3 W (Old W) A (d + 1) c L)
    (h9 : Below (w8.alloc (.cells #[.slice A (d + 1) c] eT)).heap.size (w8.alloc (.cells #[.slice A (d + 1) c] eT)) W9) : ∃ gx, X = some ⟨gx, 0, none⟩ ∧ TwAt W d gx x5 w8.heap.size e L H A c W9 := by
  obtain ⟨hs, ho2, hh⟩ := split_hdr ho
  obtain ⟨gx, x, u, rfl, hg, hgl, _⟩ := ho2.spot hdrR_fine (show 0 < d + 1 by omega)
  have hsz := hb.size
  have hE := alloc_below w8 (.cells #[.slice A (d + 1) c] eT)
  have hN : (w8.alloc (.cells #[.slice A (d + 1) c] eT)).heap.size = w8.heap.size + 1 := by simp
  have h8 : Below W.heap.size W (w8.alloc (.cells #[.slice A (d + 1) c] eT)) := th hb hE
  have hT : TwAt W d gx x5 w8.heap.size e L H A c (w8.alloc (.cells #[.slice A (d + 1) c] eT)) :=
    ⟨h8, ⟨by omega, by omega⟩, ⟨hsz, by omega⟩, by omega, box_cell (Below.refl _ _) 0 _ rfl, box_free (Below.refl _ _) 0,
      ht.move entR_fine (fun b hb' => h8.block b hb') (fun b hb' => by have : b < W.heap.size := hb'; exact ⟨by omega, by omega, by omega⟩), hs, (ho2.less hdrR_fine (by omega) (Nat.le_refl _)).below hdrR_fine hE,
      hh.to fun b hb' => ⟨hE.block b hb'.2.1, by have := hb'.2.1; omega, fun e2 => hb'.2.2 (by rw [e2]; rfl), by have := hb'.2.1; omega⟩⟩
  exact ⟨gx, rfl, hT.on h9⟩

/-- A cut of one. -/
theorem one_cut {α : Type} {R : Rp α} {w : World} {S : Nat → Prop} {ad : Addr} {n c i : Nat} {L : List α} {x : α} (h : Sl R 1 w S (some ad) n c L) (hi : i < n) (hx : L[i]? = some x) : Sl R 1 w S (some (ad.add i)) 1 (c - i) [x] := by
  have hc := h.cap
  have h1 := cut1 h (i := i) (j := i + 1) (by omega) (by omega) (by omega)
  rw [show i + 1 - i = 1 from by omega] at h1
  obtain ⟨h2, e2⟩ := List.getElem?_eq_some_iff.1 hx
  have e3 : (L.drop i).take 1 = [x] := by
    rw [List.drop_eq_getElem_cons h2, e2]
    rfl
  rw [e3] at h1
  exact h1
theorem upd_nil (Bd : Nat → List UInt8) (ats : List Int) (bl : List (List UInt8)) : updF Bd (ats.take 0) (bl.take 0) = Bd := by
  funext i
  simp [updF, blkOf]
/-- What Write made, and its table's box. -/
theorem wr_made {wr w11 W12 : World} {B n m cV cP : Nat} {V P : Option Addr} {eT : TypeId} {T : List Ent} {l : List UInt8} (hB : wr.heap.size ≤ B) (hs : Sl entR 3 w11 (New B w11) V n cV T) (hp : Sl byteR 1 w11 (New B w11) P m cP l) (hb : Below wr.heap.size wr w11)
    (h12 : Below (w11.alloc (.cells #[.slice V n cV] eT)).heap.size (w11.alloc (.cells #[.slice V n cV] eT)) W12) :
    W12.cell? ⟨w11.heap.size, 0, none⟩ = some (.slice V n cV) ∧ wr.heap.size ≤ w11.heap.size ∧ w11.heap.size < W12.heap.size ∧ Sl entR 3 W12 (New wr.heap.size W12) V n cV T ∧ Sl byteR 1 W12 (New wr.heap.size W12) P m cP l ∧ Below wr.heap.size wr W12 := by
  have hE := alloc_below w11 (.cells #[.slice V n cV] eT)
  have h13 := th hE h12
  have hN : (w11.alloc (.cells #[.slice V n cV] eT)).heap.size = w11.heap.size + 1 := by simp
  have hsz := h12.size
  exact ⟨box_cell h12 0 _ rfl, hb.size, by omega, hs.move entR_fine (fun b hb' => h13.block b hb'.2) (fun b hb' => ⟨Nat.le_trans hB hb'.1, Nat.lt_of_lt_of_le hb'.2 h13.size⟩),
    hp.move byteR_fine (fun b hb' => h13.block b hb'.2) (fun b hb' => ⟨Nat.le_trans hB hb'.1, Nat.lt_of_lt_of_le hb'.2 h13.size⟩), th hb h13⟩
/-- Behind the three stores. -/
theorem tw_three {W wx Wf : World} {d gx x5 N k c c' n1 c1 m1 cP : Nat} {e : TypeId} {L L' : List Ent} {H : List (List UInt8)} {A A' A1 P : Option Addr} {b l : List UInt8} (h : TwAt W d gx x5 N e L H A c wx) (hk : k < d + 1) (ht : Sl entR 3 wx (Els2 gx N wx) A' (d + 1) c' L') (hx : Sl byteR 1 wx (Els2 gx N wx) A1 n1 c1 b) (hp : Sl byteR 1 wx (Els2 gx N wx) P m1 cP l)
    (hf : Below (((wx.setCell ⟨N, 0, none⟩ (.slice A' (d + 1) c')).setCell ⟨gx, k, none⟩ (.slice A1 n1 c1)).setCell ⟨gx, d, none⟩ (.slice P m1 cP)).heap.size (((wx.setCell ⟨N, 0, none⟩ (.slice A' (d + 1) c')).setCell ⟨gx, k, none⟩ (.slice A1 n1 c1)).setCell ⟨gx, d, none⟩ (.slice P m1 cP)) Wf) :
    TwAt W d gx x5 N e L' ((H.set k b).set d l) A' c' Wf := by
  have h1 := h.put_box ht
  have mv : ∀ {A0 : Option Addr} {n0 c0 : Nat} {z : List UInt8}, Sl byteR 1 wx (Els2 gx N wx) A0 n0 c0 z → Sl byteR 1 (wx.setCell ⟨N, 0, none⟩ (.slice A' (d + 1) c')) (Els2 gx N (wx.setCell ⟨N, 0, none⟩ (.slice A' (d + 1) c'))) A0 n0 c0 z := fun hz =>
    hz.move byteR_fine (fun b hb => put_blk _ _ _ _ hb.2.2) (fun b hb => ⟨by rw [set_size]; exact hb.1, hb.2⟩)
  have h2 := h1.put_row hk (mv hx)
  have h3 := h2.put_row (show d < d + 1 by omega) ((mv hp).move byteR_fine (fun b hb => put_blk _ _ _ _ hb.2.1) (fun b hb => ⟨by rw [set_size]; exact hb.1, hb.2⟩))
  exact h3.on hf

/-- The same, the box made before the rows are twinned: stored into behind it, or before. -/
theorem tw_gen {W w8 w9 W9 : World} {d x5 B N : Nat} {e : TypeId} {L : List Ent} {H : List (List UInt8)} {A X : Option Addr} {c : Nat} (hN : W.heap.size ≤ N) (hbW : Below W.heap.size W w9) (h89 : ∀ b, b ≠ N → b < w8.heap.size → w9.heap[b]? = w8.heap[b]?) (hsz : w8.heap.size ≤ w9.heap.size) (hNl : N < w9.heap.size)
    (hbox : w9.cell? ⟨N, 0, none⟩ = some (.slice A (d + 1) c)) (hfree : w9.frozen? ⟨N, 0, none⟩ = false) (ho : Ow (slR byteR 1) 1 w8 B B e (.slice X (d + 1) x5) (d + 1) H) (hB : W.heap.size ≤ B) (hNB : N < B ∨ w8.heap.size ≤ N)
    (ho9 : ∀ hs, Ow hdrR 1 w8 B 0 e (.slice X (d + 1) x5) (d + 1) hs → (∀ g, X = some ⟨g, 0, none⟩ → g ≠ N) → Ow hdrR 1 w9 B 0 e (.slice X (d + 1) x5) (d + 1) hs) (ht : Sl entR 3 W (Old W) A (d + 1) c L)
    (h9 : Below w9.heap.size w9 W9) : ∃ gx, X = some ⟨gx, 0, none⟩ ∧ TwAt W d gx x5 N e L H A c W9 := by
  obtain ⟨hs, ho2, hh⟩ := split_hdr ho
  obtain ⟨gx, x, u, rfl, hg, hgl, _⟩ := ho2.spot hdrR_fine (show 0 < d + 1 by omega)
  have hne : gx ≠ N := by omega
  have ho3 := ho9 hs ho2 (fun g hg => by injection hg with hg; injection hg with hg; omega)
  have hszW := hbW.size
  have hT : TwAt W d gx x5 N e L H A c w9 :=
    ⟨hbW, ⟨by omega, by omega⟩, ⟨hN, hNl⟩, hne, hbox, hfree,
      ht.move entR_fine (fun b hb' => hbW.block b hb') (fun b hb' => by have : b < W.heap.size := hb'; exact ⟨by omega, by omega, by omega⟩), hs, ho3.less hdrR_fine (by omega) (Nat.le_refl _),
      hh.to fun b hb' => by
        have hbN : b ≠ N := by have h1 := hb'.1; have h2 := hb'.2.1; omega
        exact ⟨h89 b hbN hb'.2.1, by have := hb'.2.1; omega, fun e2 => hb'.2.2 (by rw [e2]; rfl), hbN⟩⟩
  exact ⟨gx, rfl, hT.on h9⟩
theorem tw_before {W w8 W9 : World} {d x5 B : Nat} {e eT : TypeId} {L : List Ent} {H : List (List UInt8)} {A X : Option Addr} {c : Nat} {v : Value} (hb : Below (W.alloc (.cells #[v] eT)).heap.size (W.alloc (.cells #[v] eT)) w8) (ho : Ow (slR byteR 1) 1 w8 B B e (.slice X (d + 1) x5) (d + 1) H) (hB : (W.alloc (.cells #[v] eT)).heap.size ≤ B) (ht : Sl entR 3 W (Old W) A (d + 1) c L)
    (h9 : Below (w8.setCell ⟨W.heap.size, 0, none⟩ (.slice A (d + 1) c)).heap.size (w8.setCell ⟨W.heap.size, 0, none⟩ (.slice A (d + 1) c)) W9) : ∃ gx, X = some ⟨gx, 0, none⟩ ∧ TwAt W d gx x5 W.heap.size e L H A c W9 := by
  have hN : (W.alloc (.cells #[v] eT)).heap.size = W.heap.size + 1 := by simp
  have hsz := hb.size
  exact tw_gen (Nat.le_refl _) ((th (alloc_below _ _) hb).setCell (Nat.le_refl _) _) (fun b h1 h2 => put_blk _ _ _ _ h1) (by rw [set_size]; exact Nat.le_refl _) (by rw [set_size]; omega) (put_same (box_cell hb 0 _ rfl)) (by rw [put_free]; exact box_free hb 0) ho (by omega) (.inl (by omega))
    (fun hs h hx => hdr_kept h (grownBy_set _ _ _) (by
      cases X with
      | none => exact .inl rfl
      | some a =>
        refine .inr fun e2 => ?_
        obtain ⟨b, o, sp⟩ := a
        injection e2 with e2
        have := (h.lt W.heap.size (by show some b = some W.heap.size; exact congrArg some e2)).1
        omega)) ht h9
theorem tw_early {W w8 W9 : World} {d x5 B : Nat} {e eT : TypeId} {L : List Ent} {H : List (List UInt8)} {A X : Option Addr} {c : Nat} (hb : Below (W.alloc (.cells #[.slice A (d + 1) c] eT)).heap.size (W.alloc (.cells #[.slice A (d + 1) c] eT)) w8) (ho : Ow (slR byteR 1) 1 w8 B B e (.slice X (d + 1) x5) (d + 1) H) (hB : (W.alloc (.cells #[.slice A (d + 1) c] eT)).heap.size ≤ B) (ht : Sl entR 3 W (Old W) A (d + 1) c L)
    (h9 : Below w8.heap.size w8 W9) : ∃ gx, X = some ⟨gx, 0, none⟩ ∧ TwAt W d gx x5 W.heap.size e L H A c W9 := by
  have hN : (W.alloc (.cells #[.slice A (d + 1) c] eT)).heap.size = W.heap.size + 1 := by simp
  have hsz := hb.size
  exact tw_gen (Nat.le_refl _) (th (alloc_below _ _) hb) (fun b h1 h2 => rfl) (Nat.le_refl _) (by omega) (box_cell hb 0 _ rfl) (box_free hb 0) ho (by omega) (.inl (by omega)) (fun hs h _ => h) ht h9

/-- What Write made, its table's box made before it. -/
theorem wr_before {wr w11 W12 : World} {B n m cV cP : Nat} {V P : Option Addr} {eT : TypeId} {v : Value} {T : List Ent} {l : List UInt8} (hb : Below (wr.alloc (.cells #[v] eT)).heap.size (wr.alloc (.cells #[v] eT)) w11) (hB : (wr.alloc (.cells #[v] eT)).heap.size ≤ B) (hs : Sl entR 3 w11 (New B w11) V n cV T) (hp : Sl byteR 1 w11 (New B w11) P m cP l)
    (h12 : Below (w11.setCell ⟨wr.heap.size, 0, none⟩ (.slice V n cV)).heap.size (w11.setCell ⟨wr.heap.size, 0, none⟩ (.slice V n cV)) W12) :
    W12.cell? ⟨wr.heap.size, 0, none⟩ = some (.slice V n cV) ∧ wr.heap.size ≤ wr.heap.size ∧ wr.heap.size < W12.heap.size ∧ Sl entR 3 W12 (New wr.heap.size W12) V n cV T ∧ Sl byteR 1 W12 (New wr.heap.size W12) P m cP l ∧ Below wr.heap.size wr W12 := by
  have hN : (wr.alloc (.cells #[v] eT)).heap.size = wr.heap.size + 1 := by simp
  have hsz := hb.size
  have hsz2 := h12.size
  rw [set_size] at hsz2
  have hlt : wr.heap.size < (w11.setCell ⟨wr.heap.size, 0, none⟩ (.slice V n cV)).heap.size := by rw [set_size]; omega
  have hm : ∀ b, New B w11 b → W12.heap[b]? = w11.heap[b]? ∧ New wr.heap.size W12 b := fun b hb' => by
    have h1 := hb'.1
    have h2 := hb'.2
    exact ⟨(h12.block b (by rw [set_size]; exact h2)).trans (put_blk _ _ _ _ (by show b ≠ wr.heap.size; omega)), by omega, by omega⟩
  exact ⟨(h12.cell (by exact hlt)).trans (put_same (box_cell hb 0 _ rfl)), Nat.le_refl _, by omega, hs.move entR_fine (fun b hb' => (hm b hb').1) (fun b hb' => (hm b hb').2),
    hp.move byteR_fine (fun b hb' => (hm b hb').1) (fun b hb' => (hm b hb').2), th ((th (alloc_below _ _) hb).setCell (Nat.le_refl _) _) h12⟩

end Go.Proofs.Ytikjhcfalofgaaa
