/-
  Plain: stores into what the call owns: one cell of an element of several; a store that later worlds see.
-/
import Derived.Test.YtdcoholjnlndgaaDoorWords
namespace Go.Proofs.YtdcoholjnlndgaaDoor
open Go.RowKit
set_option linter.unusedVariables false

theorem win_other {α : Type} (xs : List α) (u : α) {i k j s : Nat} (hik : i ≠ k) (hj : j < s) : ((xs.set (k * s + j) u).drop (i * s)).take s = (xs.drop (i * s)).take s := by
  refine List.ext_getElem? fun m => ?_
  rw [List.getElem?_take, List.getElem?_take]
  split
  · rename_i hm
    rw [List.getElem?_drop, List.getElem?_drop, List.getElem?_set_ne]
    intro e
    rcases Nat.lt_or_gt_of_ne hik with h | h
    · have := Nat.mul_le_mul_right s (show i + 1 ≤ k from h)
      rw [Nat.add_mul, Nat.one_mul] at this
      omega
    · have := Nat.mul_le_mul_right s (show k + 1 ≤ i from h)
      rw [Nat.add_mul, Nat.one_mul] at this
      omega
  · rfl
theorem win_same {α : Type} (xs : List α) (u : α) {k j s : Nat} (hj : j < s) : ((xs.set (k * s + j) u).drop (k * s)).take s = ((xs.drop (k * s)).take s).set j u := by
  refine List.ext_getElem? fun m => ?_
  by_cases hm : m = j
  · subst hm
    rw [List.getElem?_take, if_pos hj, List.getElem?_drop, List.getElem?_set_self', List.getElem?_set_self', List.getElem?_take, if_pos hj, List.getElem?_drop]
  · rw [List.getElem?_set_ne (fun e => hm e.symm), List.getElem?_take, List.getElem?_take]
    split
    · rw [List.getElem?_drop, List.getElem?_drop, List.getElem?_set_ne (by omega)]
    · rfl

/-- A cell of an element of what is owned. -/
theorem Ow.spotN {α : Type} {R : Rp α} {s : Nat} {w : World} {base lo : Nat} {e : TypeId} {A : Option Addr} {n c : Nat} {L : List α} (hF : Fine R s) (h : Ow R s w base lo e (.slice A n c) n L) {k j : Nat} (hk : k < n) (hj : j < s) :
    ∃ g x cs u, A = some ⟨g, 0, none⟩ ∧ base ≤ g ∧ g < w.heap.size ∧ L[k]? = some x ∧ R w (But w lo (.slice A n c)) cs x ∧ cs[j]? = some u ∧ w.cell? ⟨g, k * s + j, none⟩ = some u ∧ w.frozen? ⟨g, k * s + j, none⟩ = false ∧
      ∀ u' x', u'.oneCell' = true → R w (But w lo (.slice A n c)) (cs.set j u') x' → Ow R s (w.setCell ⟨g, k * s + j, none⟩ u') base lo e (.slice A n c) n (L.set k x') := by
  obtain ⟨hl, xs, hx, h1, hel⟩ := h
  obtain ⟨g, cap, hv, hg, hlt⟩ := hx.form (by omega)
  obtain ⟨rfl, rfl⟩ : A = some ⟨g, 0, none⟩ ∧ c = cap := by injection hv with h1 h2 h3; exact ⟨h1, h3⟩
  have hxl : xs.length = n * s := hx.1
  have hkl : k < L.length := by omega
  have hr := hel k L[k] (List.getElem?_eq_getElem hkl)
  have hle : k * s + s ≤ n * s := by rw [← Nat.succ_mul]; exact Nat.mul_le_mul_right _ hk
  have hkj : k * s + j < xs.length := by omega
  refine ⟨g, L[k], _, xs[k * s + j], rfl, hg, hlt, List.getElem?_eq_getElem hkl, hr, ?_, ?_, hx.frozenAt _, fun u' x' hu' hr' => ?_⟩
  · rw [List.getElem?_take, if_pos hj, List.getElem?_drop, List.getElem?_eq_getElem hkj]
  · rw [hx.cellAt _ (by omega), List.getElem?_eq_getElem hkj]
  · have hst := hx.stored (k * s + j) u'
    refine ⟨by rw [List.length_set, hl], xs.set (k * s + j) u', hst.1, ?_, fun i x hix => ?_⟩
    · intro u hu
      rcases List.mem_or_eq_of_mem_set hu with hu | rfl
      · exact h1 u hu
      · exact hu'
    · have hmv : ∀ cs y, R w (But w lo (.slice (some ⟨g, 0, none⟩) n c)) cs y → R (w.setCell ⟨g, k * s + j, none⟩ u') (But (w.setCell ⟨g, k * s + j, none⟩ u') lo (.slice (some ⟨g, 0, none⟩) n c)) cs y := fun cs y hy =>
        hF.move hy (fun b hb => hst.2.block b hb.2.1 (by simpa [Value.ownBlock] using hb.2.2)) (fun b hb => ⟨hb.1, Nat.lt_of_lt_of_le hb.2.1 hst.2.size, hb.2.2⟩)
      have hil := (List.getElem?_eq_some_iff.1 hix).1
      rw [List.length_set] at hil
      by_cases hik : i = k
      · subst hik
        rw [List.getElem?_set_self hil] at hix
        injection hix with hix
        subst hix
        rw [win_same xs u' hj]
        exact hmv _ _ hr'
      · rw [List.getElem?_set_ne (by omega)] at hix
        rw [win_other xs u' hik hj]
        exact hmv _ _ (hel i x hix)

/-- What a store makes of a block, in a later world. -/
theorem set_later {w w' : World} (hb : Below w.heap.size w w') (p : Addr) (v : Value) {b : Nat} (h : b < w.heap.size) : (w'.setCell p v).heap[b]? = (w.setCell p v).heap[b]? := by
  unfold World.setCell
  dsimp only
  rw [Array.getElem?_modify, Array.getElem?_modify, hb.block b h]
theorem set_size (w : World) (p : Addr) (v : Value) : (w.setCell p v).heap.size = w.heap.size := by simp [World.setCell]

theorem put_blk (w : World) (p : Addr) (v : Value) (b : Nat) (h : b ≠ p.block) : (w.setCell p v).heap[b]? = w.heap[b]? := Below.heap_setCell _ _ _ _ h
theorem put_same {w : World} {N k : Nat} {u v : Value} (h : w.cell? ⟨N, k, none⟩ = some u) : (w.setCell ⟨N, k, none⟩ v).cell? ⟨N, k, none⟩ = some v := by
  unfold World.cell? at h ⊢
  unfold World.setCell
  dsimp only at h ⊢
  rw [Array.getElem?_modify, if_pos rfl]
  cases hb : w.heap[N]? with
  | none => rw [hb] at h; cases h
  | some o =>
    rw [hb] at h
    cases o with
    | cells c e f =>
      simp only [Option.map_some, Option.isSome_none, Bool.false_eq_true, if_false] at h ⊢
      have hk := (Array.getElem?_eq_some_iff.1 h).1
      rw [Array.getElem?_setIfInBounds_self_of_lt hk]
    | _ => cases h
theorem put_free (w : World) (p a : Addr) (v : Value) : (w.setCell p v).frozen? a = w.frozen? a := by
  unfold World.frozen? World.setCell
  dsimp only
  rw [Array.getElem?_modify]
  by_cases h : p.block = a.block
  · rw [if_pos h]
    cases hb : w.heap[a.block]? with
    | none => rfl
    | some o => cases o <;> rfl
  · rw [if_neg h]
theorem put_apart {w : World} {N k : Nat} {v u u' : Value} {a : Addr} (h : w.cell? a = some u) (hp : w.cell? ⟨N, k, none⟩ = some u') (hne : u ≠ u') : (w.setCell ⟨N, k, none⟩ v).cell? a = some u := by
  by_cases hb : a.block = N
  · subst hb
    unfold World.cell? at h hp ⊢
    unfold World.setCell
    dsimp only at h hp ⊢
    rw [Array.getElem?_modify, if_pos rfl]
    cases hx : w.heap[a.block]? with
    | none => rw [hx] at h; cases h
    | some o =>
      rw [hx] at h hp
      cases o with
      | cells c e f =>
        simp only [Option.map_some, Option.isSome_none, Bool.false_eq_true, if_false] at h hp ⊢
        by_cases hs : a.spot.isSome = true
        · rw [if_pos hs] at h; cases h
        · rw [if_neg hs] at h ⊢
          rw [Array.getElem?_setIfInBounds_ne (by rintro rfl; rw [hp] at h; injection h with h; exact hne h.symm)]
          exact h
      | _ => cases h
  · exact (World.cell?_of_block (put_blk _ _ _ _ hb)).trans h

end Go.Proofs.YtdcoholjnlndgaaDoor
