/-
  Literals just made.
-/
import Derived.Test.YtdcoholjnlndgaaDoorWords
namespace Go.Proofs.YtdcoholjnlndgaaDoor
open Go.RowKit
set_option linter.unusedVariables false

/-- A literal of bytes just made. -/
theorem lit_bytes (w : World) (l : List UInt8) (cs : Array Value) (e : TypeId) (hl : l.length ≤ 65536) (h : cs = (l.map fun x => Value.int .u8 (x.toNat : Int)).toArray) :
    Bs (w.alloc (.cells cs e)) (some ⟨w.heap.size, 0, none⟩) l.length l.length l := by
  subst h
  refine (Ow.made (R := byteR) (s := 1) (lo := 0) (e := e) (n := l.length) (L := l) w _ (by simp only [maxLen]; omega) (by simp) rfl ?_ ?_ byteR_fine).read byteR_fine
  · intro u hu
    simp only [List.mem_map] at hu
    obtain ⟨_, _, rfl⟩ := hu
    rfl
  · intro i x hx
    obtain ⟨h1, e1⟩ := List.getElem?_eq_some_iff.1 hx
    show _ = _
    rw [Nat.mul_one, List.drop_eq_getElem_cons (by simpa using h1)]
    simp [e1]

theorem lit_bytes_at {w : World} {N n : Nat} {l : List UInt8} {cs : Array Value} {e : TypeId} (hN : w.heap.size = N) (hl : l.length = n) (hn : n ≤ 65536) (h : cs = (l.map fun x => Value.int .u8 (x.toNat : Int)).toArray) :
    Bs (w.alloc (.cells cs e)) (some ⟨N, 0, none⟩) n n l := by
  subst hN
  subst hl
  exact lit_bytes w l cs e hn h

/-- A literal of slices just made. -/
theorem lit_one {w : World} {A : Option Addr} {n c : Nat} {l : List UInt8} (e : TypeId) (h : Bs w A n c l) :
    Rs (w.alloc (.cells #[.slice A n c] e)) (some ⟨w.heap.size, 0, none⟩) 1 1 [l] :=
  (Ow.made (R := slR byteR 1) (s := 1) (lo := 0) (e := e) (n := 1) (L := [l]) w #[.slice A n c] (by simp only [maxLen]; omega) rfl rfl (by simp [Value.oneCell']) (fun i x hx => by
    obtain rfl : i = 0 := by have := (List.getElem?_eq_some_iff.1 hx).1; simp at this; omega
    simp at hx
    subst hx
    exact ⟨A, n, c, rfl, h.move byteR_fine (fun _ _ => rfl) (fun b hb => ⟨Nat.zero_le _, hb⟩)⟩) bytesR_fine).read bytesR_fine
theorem lit_two {w : World} {A A' : Option Addr} {n c n' c' : Nat} {l l' : List UInt8} (e : TypeId) (h : Bs w A n c l) (h' : Bs w A' n' c' l') :
    Rs (w.alloc (.cells #[.slice A n c, .slice A' n' c'] e)) (some ⟨w.heap.size, 0, none⟩) 2 2 [l, l'] :=
  (Ow.made (R := slR byteR 1) (s := 1) (lo := 0) (e := e) (n := 2) (L := [l, l']) w #[.slice A n c, .slice A' n' c'] (by simp only [maxLen]; omega) rfl rfl (by simp [Value.oneCell']) (fun i x hx => by
    have hi := (List.getElem?_eq_some_iff.1 hx).1
    simp at hi
    obtain rfl | rfl : i = 0 ∨ i = 1 := by omega
    · simp at hx
      subst hx
      exact ⟨A, n, c, rfl, h.move byteR_fine (fun _ _ => rfl) (fun b hb => ⟨Nat.zero_le _, hb⟩)⟩
    · simp at hx
      subst hx
      exact ⟨A', n', c', rfl, h'.move byteR_fine (fun _ _ => rfl) (fun b hb => ⟨Nat.zero_le _, hb⟩)⟩) bytesR_fine).read bytesR_fine

theorem lit_two_at {w : World} {N : Nat} {A A' : Option Addr} {n c n' c' : Nat} {l l' : List UInt8} (e : TypeId) (hN : w.heap.size = N) (h : Bs w A n c l) (h' : Bs w A' n' c' l') :
    Rs (w.alloc (.cells #[.slice A n c, .slice A' n' c'] e)) (some ⟨N, 0, none⟩) 2 2 [l, l'] := by
  subst hN
  exact lit_two e h h'

/- Cuts of slices whose elements have one cell, as the walk spells them. -/
section
variable {α : Type} {R : Rp α} {w : World} {S : Nat → Prop} {A : Option Addr} {n c i j : Nat} {L : List α}
theorem rest1 (h : Sl R 1 w S A n c L) (hi : i ≤ n) (hc : c ≠ i) : Sl R 1 w S (A.map (·.add i)) (n - i) (c - i) (L.drop i) := by
  have h' := h.rest hi
  rw [if_neg hc] at h'
  simpa using h'
theorem rest1_end (h : Sl R 1 w S A n c L) (hi : i ≤ n) (hc : c = i) : Sl R 1 w S A (n - i) 0 (L.drop i) := by
  have h' := h.rest hi
  rw [if_pos hc] at h'
  subst hc
  simpa using h'
theorem cut1 (h : Sl R 1 w S A n c L) (hi : i ≤ j) (hj : j ≤ n) (hc : c ≠ i) : Sl R 1 w S (A.map (·.add i)) (j - i) (c - i) ((L.drop i).take (j - i)) := by
  have h' := h.cut hi hj
  rw [if_neg hc] at h'
  simpa using h'
end

end Go.Proofs.YtdcoholjnlndgaaDoor
