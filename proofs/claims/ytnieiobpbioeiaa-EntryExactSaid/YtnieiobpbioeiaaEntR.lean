/-
  Contracts: casemateref08.Sector, Block, TableOf; casematelaw09.Heavy.
-/
import Derived.Test.YtnieiobpbioeiaaEntT
import Derived.Test.YtnieiobpbioeiaaSealR
import Derived.Test.YtnieiobpbioeiaaTabG
namespace Go.Proofs.Ytnieiobpbioeiaa
open Go.RowKit
set_option linter.unusedVariables false
set_option maxRecDepth 100000

/-- Bytes stay while a cell that holds no byte is stored into. -/
theorem bs_put {w : World} {A : Option Addr} {n c N k : Nat} {l : List UInt8} {u v : Value} (h : Bs w A n c l) (hc : w.cell? ⟨N, k, none⟩ = some u) (hu : ∀ b : UInt8, (.int .u8 (b.toNat : Int) : Value) ≠ u) : Bs (w.setCell ⟨N, k, none⟩ v) A n c l := by
  refine ⟨h.len, h.cap, fun hn => ?_⟩
  obtain ⟨ad, e, hb, hx⟩ := h.at0 hn
  refine ⟨ad, e, by show ad.block < (w.setCell _ _).heap.size; rw [set_size]; exact hb, fun i x hi => ?_⟩
  obtain ⟨cs, hr, hat⟩ := hx i x hi
  have hr : cs = [.int .u8 (x.toNat : Int)] := hr
  subst hr
  refine ⟨_, rfl, fun j y hy => ?_⟩
  obtain rfl : j = 0 := by have := (List.getElem?_eq_some_iff.1 hy).1; simp at this; omega
  simp at hy
  subst hy
  exact put_apart (hat 0 _ rfl) hc (hu x)

theorem put_off {w : World} {N k j : Nat} {v u : Value} (hkj : k ≠ j) (h : w.cell? ⟨N, j, none⟩ = some u) : (w.setCell ⟨N, k, none⟩ v).cell? ⟨N, j, none⟩ = some u := by
  unfold World.cell? at h ⊢
  unfold World.setCell
  dsimp only at h ⊢
  rw [Array.getElem?_modify, if_pos rfl]
  cases hb : w.heap[N]? with
  | none => rw [hb] at h; cases h
  | some o =>
    rw [hb] at h
    cases o with
    | cells c e f =>
      simp only [Option.map_some, Option.isSome_none, Bool.false_eq_true, if_false] at h ⊢
      rw [Array.getElem?_setIfInBounds_ne hkj]
      exact h
    | _ => cases h
/-- A struct of two numbers and bytes, stored into its box. -/
theorem put3 {w : World} {M : Nat} {x0 x1 y0 y1 : Int} {A0 A : Option Addr} {n0 c0 n c : Nat} {e : TypeId} {cs : Array Value} {l : List UInt8} (p0 : w.cell? ⟨M, 0, none⟩ = some (.int .i64 x0)) (p1 : w.cell? ⟨M, 1, none⟩ = some (.int .i64 x1)) (p2 : w.cell? ⟨M, 2, none⟩ = some (.slice A0 n0 c0)) (hM : M < w.heap.size) (hs : Bs w A n c l) :
    let W := (((w.setCell ⟨M, 0, none⟩ (.int .i64 y0)).setCell ⟨M, 1, none⟩ (.int .i64 y1)).setCell ⟨M, 2, none⟩ (.slice A n c)).alloc (.cells cs e)
    W.cell? ⟨M, 0, none⟩ = some (.int .i64 y0) ∧ W.cell? ⟨M, 1, none⟩ = some (.int .i64 y1) ∧ W.cell? ⟨M, 2, none⟩ = some (.slice A n c) ∧ Bs W A n c l := by
  have q0 := put_same (v := .int .i64 y0) p0
  have q1 := put_off (v := .int .i64 y0) (show 0 ≠ 1 by omega) p1
  have q2 := put_off (v := .int .i64 y0) (show 0 ≠ 2 by omega) p2
  have s1 := bs_put (v := .int .i64 y0) hs p0 (by intro b h; injection h with h; cases h)
  have r0 := put_off (v := .int .i64 y1) (show 1 ≠ 0 by omega) q0
  have r1 := put_same (v := .int .i64 y1) q1
  have r2 := put_off (v := .int .i64 y1) (show 1 ≠ 2 by omega) q2
  have s2 := bs_put (v := .int .i64 y1) s1 q1 (by intro b h; injection h with h; cases h)
  have t0 := put_off (v := .slice A n c) (show 2 ≠ 0 by omega) r0
  have t1 := put_off (v := .slice A n c) (show 2 ≠ 1 by omega) r1
  have t2 := put_same (v := .slice A n c) r2
  have s3 := bs_put (v := .slice A n c) s2 r2 (by intro b h; cases h)
  have hb := alloc_below (((w.setCell ⟨M, 0, none⟩ (.int .i64 y0)).setCell ⟨M, 1, none⟩ (.int .i64 y1)).setCell ⟨M, 2, none⟩ (.slice A n c)) (.cells cs e)
  have hm : M < (((w.setCell ⟨M, 0, none⟩ (.int .i64 y0)).setCell ⟨M, 1, none⟩ (.int .i64 y1)).setCell ⟨M, 2, none⟩ (.slice A n c)).heap.size := by rw [set_size, set_size, set_size]; exact hM
  exact ⟨(hb.cell hm).trans t0, (hb.cell hm).trans t1, (hb.cell hm).trans t2, s3.on byteR_fine hb⟩

/-- What the page's Sector tells. -/
def sctL (err : Int) (l : List UInt8) (a : Int) : Sec × Bool := if err = 0 ∧ (openS l).2 = 0 ∧ (openS l).1.addr = a then ((openS l).1, true) else (noSec, false)
def SctPost (w : World) (S : Sec × Bool) (e : Ending) (w' : World) : Prop := Below w.heap.size w w' ∧ ∃ V n c, e = .returned (.tuple #[.agg #[.int .i64 S.1.addr, .int .i64 S.1.stamp, .slice V n c], .bool S.2]) ∧ Bs w' V n c S.1.load

set_option maxHeartbeats 2000000 in
theorem sector_any {A : Option Addr} {n c : Nat} {l : List UInt8} {w : World} (err a : Int) (hl : Bs w A n c l) (hn : n ≤ 65536) :
    Calls Try.prog 97 #[.agg #[.int .i64 err, .slice A n c], .int .i64 a] w (SctPost w (sctL err l a)) := by
  have hS0 : (w.alloc (.cells #[.int .i64 err, .slice A n c] 85)).heap.size = w.heap.size + 1 := by simp
  have hb0 : Below w.heap.size w ((w.alloc (.cells #[.int .i64 err, .slice A n c] 85)).alloc (.cells #[.int .i64 0, .int .i64 0, .slice none 0 0] 62)) := (alloc_below w _).alloc (by simp) _
  have bx : ∀ W, Below ((w.alloc (.cells #[.int .i64 err, .slice A n c] 85)).alloc (.cells #[.int .i64 0, .int .i64 0, .slice none 0 0] 62)).heap.size ((w.alloc (.cells #[.int .i64 err, .slice A n c] 85)).alloc (.cells #[.int .i64 0, .int .i64 0, .slice none 0 0] 62)) W →
      W.cell? ⟨w.heap.size + 1, 0, none⟩ = some (.int .i64 0) ∧ W.cell? ⟨w.heap.size + 1, 1, none⟩ = some (.int .i64 0) ∧ W.cell? ⟨w.heap.size + 1, 2, none⟩ = some (.slice none 0 0) ∧ W.frozen? ⟨w.heap.size + 1, 0, none⟩ = false ∧ W.frozen? ⟨w.heap.size + 1, 1, none⟩ = false ∧ W.frozen? ⟨w.heap.size + 1, 2, none⟩ = false ∧ Below w.heap.size w W := fun W hW =>
    ⟨bx_at2 hS0 hW 0 _ rfl, bx_at2 hS0 hW 1 _ rfl, bx_at2 hS0 hW 2 _ rfl, bx_free2 hS0 hW 0, bx_free2 hS0 hW 1, bx_free2 hS0 hW 2, th (alloc_below _ _) (th (alloc_below _ _) hW)⟩
  have BX := hide bx
  have hop := ropen_any (hl.on byteR_fine hb0) hn
  unfold OpenPost at hop
  unfold SctPost sctL
  obtain ⟨O, hO⟩ : ∃ O, O = openS l := ⟨_, rfl⟩
  rw [← hO] at hop ⊢
  obtain ⟨⟨oa, os, ol⟩, oe⟩ := O
  dsimp only at hop ⊢
  have HOP := hide hop
  clear hop hO bx hS0
  by_cases h0 : err = 0
  · subst h0
    by_cases h1 : oe = 0
    · subst h1
      by_cases h2 : oa = a
      · subst h2
        rw [if_pos ⟨rfl, rfl, rfl⟩]
        dsimp only
        go_enter Try.func97, Try.ntmps97
        go_wp2_with fail
        refine HOP.out.mono ?_
        rintro e w1 ⟨A1, n1, c1, rfl, hs1, hb1⟩
        obtain ⟨p0, p1, p2, f0, f1, f2, hbw⟩ := BX.out w1 hb1
        have hlt : w.heap.size + 1 < w1.heap.size := by have := hb1.size; simp at this; omega
        go_wp2_with fail
        obtain ⟨u0, u1, u2, hsf⟩ := put3 (y0 := oa) (y1 := os) (e := 62) (cs := #[.int .i64 oa, .int .i64 os, .slice A1 n1 c1]) p0 p1 p2 hlt hs1
        exact bodyPost_ret (v := .tuple #[.agg #[.int .i64 oa, .int .i64 os, .slice A1 n1 c1], .bool true]) (by simp [results, Try.results97, go_sem, u0, u1, u2]) rfl ⟨(((hbw.setCell (by simp) _).setCell (by simp) _).setCell (by simp) _).alloc (by rw [set_size, set_size, set_size]; exact hbw.size) _, A1, n1, c1, rfl, hsf⟩
      · rw [if_neg (fun h => h2 h.2.2)]
        have e3 : (oa != a) = true := by simpa using h2
        unfold noSec
        clear h2
        dsimp only
        go_enter Try.func97, Try.ntmps97
        go_wp2_with fail
        refine HOP.out.mono ?_
        rintro e w1 ⟨A1, n1, c1, rfl, hs1, hb1⟩
        obtain ⟨p0, p1, p2, f0, f1, f2, hbw⟩ := BX.out w1 hb1
        have hlt : w.heap.size + 1 < w1.heap.size := by have := hb1.size; simp at this; omega
        go_wp2_with fail
        obtain ⟨u0, u1, u2, hsf⟩ := put3 (A := none) (n := 0) (c := 0) (y0 := 0) (y1 := 0) (e := 62) (cs := #[.int .i64 oa, .int .i64 os, .slice A1 n1 c1]) p0 p1 p2 hlt (Sl.nil_ _)
        exact bodyPost_ret (v := .tuple #[.agg #[.int .i64 0, .int .i64 0, .slice none 0 0], .bool false]) (by simp [results, Try.results97, go_sem, u0, u1, u2]) rfl ⟨(((hbw.setCell (by simp) _).setCell (by simp) _).setCell (by simp) _).alloc (by rw [set_size, set_size, set_size]; exact hbw.size) _, none, 0, 0, rfl, hsf⟩
    · rw [if_neg (fun h => h1 h.2.1)]
      have e3 : (oe != 0) = true := by simpa using h1
      unfold noSec
      clear h1
      dsimp only
      go_enter Try.func97, Try.ntmps97
      go_wp2_with fail
      refine HOP.out.mono ?_
      rintro e w1 ⟨A1, n1, c1, rfl, hs1, hb1⟩
      obtain ⟨p0, p1, p2, f0, f1, f2, hbw⟩ := BX.out w1 hb1
      have hlt : w.heap.size + 1 < w1.heap.size := by have := hb1.size; simp at this; omega
      go_wp2_with fail
      obtain ⟨u0, u1, u2, hsf⟩ := put3 (A := none) (n := 0) (c := 0) (y0 := 0) (y1 := 0) (e := 62) (cs := #[.int .i64 oa, .int .i64 os, .slice A1 n1 c1]) p0 p1 p2 hlt (Sl.nil_ _)
      exact bodyPost_ret (v := .tuple #[.agg #[.int .i64 0, .int .i64 0, .slice none 0 0], .bool false]) (by simp [results, Try.results97, go_sem, u0, u1, u2]) rfl ⟨(((hbw.setCell (by simp) _).setCell (by simp) _).setCell (by simp) _).alloc (by rw [set_size, set_size, set_size]; exact hbw.size) _, none, 0, 0, rfl, hsf⟩
  · rw [if_neg (fun h => h0 h.1)]
    have e3 : (err != 0) = true := by simpa using h0
    unfold noSec
    clear h0
    dsimp only
    go_enter Try.func97, Try.ntmps97
    go_wp2_with fail
    exact bodyPost_ret (v := .tuple #[.agg #[.int .i64 0, .int .i64 0, .slice none 0 0], .bool false]) (by simp [results, Try.results97, go_sem]) rfl ⟨hb0, none, 0, 0, rfl, Sl.nil_ _⟩

end Go.Proofs.Ytnieiobpbioeiaa
