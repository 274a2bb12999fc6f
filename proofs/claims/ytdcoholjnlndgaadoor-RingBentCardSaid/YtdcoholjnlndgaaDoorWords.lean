/-
  Plain words for memory: what cells read as (a slice of whatever elements, nil and empty let in), what the call owns, and what follows for cuts and appends. No program in sight.
-/
import Derived.WalkKit
import Derived.Maps.AppendAt
import Derived.Deep.AppendLies
import Derived.Deep.Draws
import Derived.RegionTactic
import Derived.OwnWalk
import Derived.Deep.Slices
namespace Go.Proofs.YtdcoholjnlndgaaDoor
open Go.RowKit

theorem hide {p : Prop} (h : p) : Hid p := h
theorem unhide {p : Prop} (h : Hid p) : p := h

theorem block_of_add (a : Addr) (n : Nat) : (a.add n).block = a.block := by unfold Addr.add; split <;> rfl
theorem add_of_add (a : Addr) (i j : Nat) : (a.add i).add j = a.add (i + j) := by
  unfold Addr.add
  by_cases hi : i = 0 <;> by_cases hj : j = 0 <;> simp [hi, hj, Nat.add_assoc]
theorem add_zero' (a : Addr) : a.add 0 = a := by unfold Addr.add; rw [if_pos rfl]

/-- A reading: the cells cs, their memory in the blocks S, read as x in the world w. -/
abbrev Rp (α : Type) := World → (Nat → Prop) → List Value → α → Prop

/-- A reading of s cells that stays where its blocks stay. -/
structure Fine {α : Type} (R : Rp α) (s : Nat) : Prop where
  size : ∀ {w S cs x}, R w S cs x → cs.length = s
  one : ∀ {w S cs x}, R w S cs x → ∀ u ∈ cs, u.oneCell' = true
  move : ∀ {w w' S S' cs x}, R w S cs x → (∀ b, S b → w'.heap[b]? = w.heap[b]?) → (∀ b, S b → S' b) → R w' S' cs x

/-- Cells at an address. -/
def At (w : World) (ad : Addr) (cs : List Value) : Prop := ∀ j u, cs[j]? = some u → w.cell? (ad.add j) = some u

theorem At.move {w w' : World} {ad : Addr} {cs : List Value} (h : At w ad cs) (hb : w'.heap[ad.block]? = w.heap[ad.block]?) : At w' ad cs :=
  fun j u hu => (World.cell?_of_block (a := ad.add j) (by rw [block_of_add]; exact hb)).trans (h j u hu)

/-- The slice (A, n, c) of elements of s cells reads as the list L. -/
structure Sl {α : Type} (R : Rp α) (s : Nat) (w : World) (S : Nat → Prop) (A : Option Addr) (n c : Nat) (L : List α) : Prop where
  len : L.length = n
  cap : n ≤ c
  at0 : 0 < n → ∃ ad, A = some ad ∧ S ad.block ∧ ∀ i x, L[i]? = some x → ∃ cs, R w S cs x ∧ At w (ad.add (i * s)) cs

/-- All blocks that there are. -/
def Old (w : World) : Nat → Prop := fun b => b < w.heap.size
/-- All blocks that there are from lo on, but the one that a slice owns. -/
def But (w : World) (lo : Nat) (V : Value) : Nat → Prop := fun b => lo ≤ b ∧ b < w.heap.size ∧ some b ≠ V.ownBlock

section
variable {α : Type} {R : Rp α} {s : Nat} {w w' : World} {S S' : Nat → Prop} {A : Option Addr} {n c : Nat} {L : List α}

theorem Sl.nil_ (c : Nat) : Sl R s w S none 0 c ([] : List α) := ⟨rfl, Nat.zero_le _, fun h => absurd h (by omega)⟩
theorem Sl.empty_ (A : Option Addr) (c : Nat) : Sl R s w S A 0 c ([] : List α) := ⟨rfl, Nat.zero_le _, fun h => absurd h (by omega)⟩

theorem Sl.move (hF : Fine R s) (h : Sl R s w S A n c L) (hk : ∀ b, S b → w'.heap[b]? = w.heap[b]?) (hS : ∀ b, S b → S' b) : Sl R s w' S' A n c L :=
  ⟨h.len, h.cap, fun hn => by
    obtain ⟨ad, e, hb, hc⟩ := h.at0 hn
    refine ⟨ad, e, hS _ hb, fun i x hx => ?_⟩
    obtain ⟨cs, hr, hat⟩ := hc i x hx
    exact ⟨cs, hF.move hr hk hS, hat.move (by rw [block_of_add]; exact hk _ hb)⟩⟩

/-- Kept, and said of the heap as it is now. -/
theorem Sl.on (hF : Fine R s) (h : Sl R s w (Old w) A n c L) (hb : Below w.heap.size w w') : Sl R s w' (Old w') A n c L :=
  h.move hF (fun b hb' => hb.block b hb') (fun b hb' => Nat.lt_of_lt_of_le (show b < w.heap.size from hb') hb.size)

theorem Sl.at_ (h : Sl R s w S A n c L) {k : Nat} (hk : k < n) : ∃ ad x cs, A = some ad ∧ S ad.block ∧ L[k]? = some x ∧ R w S cs x ∧ At w (ad.add (k * s)) cs := by
  obtain ⟨ad, e, hb, hc⟩ := h.at0 (by omega)
  have hl : k < L.length := by rw [h.len]; exact hk
  obtain ⟨cs, hr, hat⟩ := hc k L[k] (List.getElem?_eq_getElem hl)
  exact ⟨ad, L[k], cs, e, hb, List.getElem?_eq_getElem hl, hr, hat⟩

/-- A slice's cut from i to j. -/
theorem Sl.cut (h : Sl R s w S A n c L) {i j : Nat} (hi : i ≤ j) (hj : j ≤ n) :
    Sl R s w S (if c = i then A else A.map (·.add (i * s))) (j - i) (c - i) ((L.drop i).take (j - i)) := by
  have hl := h.len
  have hc := h.cap
  refine ⟨by rw [List.length_take, List.length_drop]; omega, by omega, fun hn => ?_⟩
  obtain ⟨ad, rfl, hb, hcell⟩ := h.at0 (by omega)
  rw [if_neg (by omega)]
  refine ⟨ad.add (i * s), rfl, by rw [block_of_add]; exact hb, fun q x hx => ?_⟩
  rw [List.getElem?_take] at hx
  split at hx
  · rw [List.getElem?_drop] at hx
    obtain ⟨cs, hr, hat⟩ := hcell _ x hx
    refine ⟨cs, hr, ?_⟩
    rw [add_of_add, ← Nat.add_mul]
    exact hat
  · cases hx

/-- A cut from i on. -/
theorem Sl.rest (h : Sl R s w S A n c L) {i : Nat} (hi : i ≤ n) : Sl R s w S (if c = i then A else A.map (·.add (i * s))) (n - i) (c - i) (L.drop i) := by
  have h' := h.cut hi (Nat.le_refl n)
  rwa [List.take_of_length_le (by rw [List.length_drop, h.len]; omega)] at h'

/-- A cut up to j. -/
theorem Sl.init_ (h : Sl R s w S A n c L) {j : Nat} (hj : j ≤ n) : Sl R s w S A j c (L.take j) := by
  refine ⟨by rw [List.length_take, h.len]; omega, Nat.le_trans hj h.cap, fun hn => ?_⟩
  obtain ⟨ad, rfl, hb, hcell⟩ := h.at0 (by omega)
  refine ⟨ad, rfl, hb, fun q x hx => hcell q x ?_⟩
  rw [List.getElem?_take] at hx
  split at hx
  · exact hx
  · cases hx

/-- The cells of a slice, all of them. -/
theorem Sl.flat (hF : Fine R s) (h : Sl R s w S A n c L) (hn : 0 < n) : ∃ ad xs, A = some ad ∧ S ad.block ∧ xs.length = n * s ∧ At w ad xs ∧ (∀ u ∈ xs, u.oneCell' = true) ∧ ∀ i x, L[i]? = some x → R w S ((xs.drop (i * s)).take s) x := by
  obtain ⟨ad, e, hb, hc⟩ := h.at0 hn
  have key : ∀ m, m ≤ L.length → ∃ xs : List Value, xs.length = m * s ∧ At w ad xs ∧ (∀ u ∈ xs, u.oneCell' = true) ∧ ∀ i x, i < m → L[i]? = some x → R w S ((xs.drop (i * s)).take s) x := by
    intro m
    induction m with
    | zero => exact fun _ => ⟨[], by simp, fun j u hu => by simp at hu, by simp, fun i x hi => absurd hi (by omega)⟩
    | succ m ih =>
      intro hm
      obtain ⟨xs, hxl, hat, h1, hel⟩ := ih (by omega)
      have hlt : m < L.length := by omega
      obtain ⟨cs, hr, hcat⟩ := hc m L[m] (List.getElem?_eq_getElem hlt)
      have hcl := hF.size hr
      refine ⟨xs ++ cs, by rw [List.length_append, hxl, hcl, Nat.add_mul, Nat.one_mul], fun j u hu => ?_, ?_, fun i x hi hx => ?_⟩
      · by_cases hj : j < xs.length
        · rw [List.getElem?_append_left hj] at hu
          exact hat j u hu
        · rw [List.getElem?_append_right (by omega)] at hu
          have := hcat _ u hu
          rw [add_of_add] at this
          rw [← this]
          congr 2
          omega
      · intro u hu
        rcases List.mem_append.1 hu with hu | hu
        · exact h1 u hu
        · exact hF.one hr u hu
      · by_cases him : i < m
        · have hle : i * s + s ≤ xs.length := by rw [hxl, ← Nat.succ_mul]; exact Nat.mul_le_mul_right _ him
          rw [List.drop_append_of_le_length (by omega), List.take_append_of_le_length (by rw [List.length_drop]; omega)]
          exact hel i x him hx
        · obtain rfl : i = m := by omega
          rw [List.getElem?_eq_getElem hlt] at hx
          injection hx with hx
          subst hx
          rw [← hxl, List.drop_left, ← hcl, List.take_length]
          exact hr
  obtain ⟨xs, hxl, hat, h1, hel⟩ := key n (by rw [h.len]; exact Nat.le_refl _)
  refine ⟨ad, xs, e, hb, hxl, hat, h1, fun i x hx => hel i x ?_ hx⟩
  have := (List.getElem?_eq_some_iff.1 hx).1
  rw [h.len] at this
  exact this
end

/-- The slice's value, as one cell. -/
def slR {α : Type} (R : Rp α) (s : Nat) : Rp (List α) := fun w S cs L => ∃ A n c, cs = [.slice A n c] ∧ Sl R s w S A n c L
theorem slR_fine {α : Type} {R : Rp α} {s : Nat} (hF : Fine R s) : Fine (slR R s) 1 where
  size := by rintro _ _ _ _ ⟨A, n, c, rfl, _⟩; rfl
  one := by rintro _ _ _ _ ⟨A, n, c, rfl, _⟩ u hu; simp at hu; subst hu; rfl
  move := by rintro _ _ _ _ _ _ ⟨A, n, c, rfl, h⟩ hk hS; exact ⟨A, n, c, rfl, h.move hF hk hS⟩

/-- Readings of plain cells. -/
def byteR : Rp UInt8 := fun _ _ cs x => cs = [.int .u8 (x.toNat : Int)]
theorem byteR_fine : Fine byteR 1 where
  size := by rintro _ _ _ _ rfl; rfl
  one := by rintro _ _ _ _ rfl u hu; simp at hu; subst hu; rfl
  move := by rintro _ _ _ _ _ _ rfl _ _; rfl
def InI (x : Int) : Prop := -9223372036854775808 ≤ x ∧ x ≤ 9223372036854775807
def intR : Rp Int := fun _ _ cs x => cs = [.int .i64 x] ∧ InI x
theorem intR_fine : Fine intR 1 where
  size := by rintro _ _ _ _ ⟨rfl, _⟩; rfl
  one := by rintro _ _ _ _ ⟨rfl, _⟩ u hu; simp at hu; subst hu; rfl
  move := by rintro _ _ _ _ _ _ ⟨rfl, h⟩ _ _; exact ⟨rfl, h⟩
def boolR : Rp Bool := fun _ _ cs x => cs = [.bool x]
theorem boolR_fine : Fine boolR 1 where
  size := by rintro _ _ _ _ rfl; rfl
  one := by rintro _ _ _ _ rfl u hu; simp at hu; subst hu; rfl
  move := by rintro _ _ _ _ _ _ rfl _ _; rfl

/-- A slice of bytes, of ints, of slices of bytes. -/
abbrev Bs (w : World) (A : Option Addr) (n c : Nat) (l : List UInt8) : Prop := Sl byteR 1 w (Old w) A n c l
abbrev Is (w : World) (A : Option Addr) (n c : Nat) (l : List Int) : Prop := Sl intR 1 w (Old w) A n c l
abbrev Rs (w : World) (A : Option Addr) (n c : Nat) (l : List (List UInt8)) : Prop := Sl (slR byteR 1) 1 w (Old w) A n c l
theorem bytesR_fine : Fine (slR byteR 1) 1 := slR_fine byteR_fine

section
variable {w w' : World} {S : Nat → Prop} {A : Option Addr} {n c : Nat}
theorem at_byte {l : List UInt8} (h : Sl byteR 1 w S A n c l) {k : Nat} (hk : k < n) : ∃ ad x, A = some ad ∧ S ad.block ∧ l[k]? = some x ∧ w.cell? (ad.add k) = some (.int .u8 (x.toNat : Int)) := by
  obtain ⟨ad, x, cs, e, hb, hx, hr, hat⟩ := h.at_ hk
  obtain rfl : cs = _ := hr
  refine ⟨ad, x, e, hb, hx, ?_⟩
  have := hat 0 _ rfl
  rwa [Nat.mul_one, add_zero'] at this
theorem at_int {l : List Int} (h : Sl intR 1 w S A n c l) {k : Nat} (hk : k < n) : ∃ ad x, A = some ad ∧ S ad.block ∧ l[k]? = some x ∧ InI x ∧ w.cell? (ad.add k) = some (.int .i64 x) := by
  obtain ⟨ad, x, cs, e, hb, hx, hr, hat⟩ := h.at_ hk
  obtain ⟨rfl, hi⟩ := hr
  refine ⟨ad, x, e, hb, hx, hi, ?_⟩
  have := hat 0 _ rfl
  rwa [Nat.mul_one, add_zero'] at this
theorem at_row {α : Type} {R : Rp α} {s : Nat} {l : List (List α)} (h : Sl (slR R s) 1 w S A n c l) {k : Nat} (hk : k < n) :
    ∃ ad x A' n' c', A = some ad ∧ S ad.block ∧ l[k]? = some x ∧ Sl R s w S A' n' c' x ∧ w.cell? (ad.add k) = some (.slice A' n' c') := by
  obtain ⟨ad, x, cs, e, hb, hx, hr, hat⟩ := h.at_ hk
  obtain ⟨A', n', c', rfl, hs⟩ := hr
  refine ⟨ad, x, A', n', c', e, hb, hx, hs, ?_⟩
  have := hat 0 _ rfl
  rwa [Nat.mul_one, add_zero'] at this
end

/-- What the call owns: the slice V (nil, or at the head of a block from 'base' on that nobody else has) reads as L; what its elements lead to lies elsewhere, in blocks from lo on. -/
structure Ow {α : Type} (R : Rp α) (s : Nat) (w : World) (base lo : Nat) (e : TypeId) (V : Value) (n : Nat) (L : List α) : Prop where
  len : L.length = n
  row : ∃ xs, w.ownsRow base e s V n xs ∧ (∀ u ∈ xs, u.oneCell' = true) ∧ ∀ i x, L[i]? = some x → R w (But w lo V) ((xs.drop (i * s)).take s) x

theorem own_form {w : World} {base : Nat} {e : TypeId} {s : Nat} {v : Value} {n : Nat} {xs : List Value} (h : w.ownsRow base e s v n xs) : ∃ A c, v = .slice A n c := by
  rcases h.2 with ⟨hv, rfl⟩ | ⟨g, cap, cur, hv, _⟩
  · exact ⟨none, 0, hv⟩
  · exact ⟨_, _, hv⟩

section
variable {α : Type} {R : Rp α} {s : Nat} {w w' : World} {base lo : Nat} {e : TypeId} {V : Value} {n : Nat} {L : List α}

theorem Ow.nil_ (w : World) (base lo : Nat) (e : TypeId) : Ow R s w base lo e (.slice none 0 0) 0 ([] : List α) :=
  ⟨rfl, [], World.ownsRow_nil _ _ _ _, by simp, fun i x hx => by simp at hx⟩
theorem Ow.form (h : Ow R s w base lo e V n L) : ∃ A c, V = .slice A n c := by
  obtain ⟨_, xs, hx, _⟩ := h
  exact own_form hx
theorem Ow.lt (h : Ow R s w base lo e V n L) : ∀ k, V.ownBlock = some k → base ≤ k ∧ k < w.heap.size := by
  obtain ⟨_, xs, hx, _⟩ := h
  exact hx.lt
theorem Ow.less {base' lo' : Nat} (hF : Fine R s) (h : Ow R s w base lo e V n L) (hb : base' ≤ base) (hlo : lo' ≤ lo) : Ow R s w base' lo' e V n L := by
  obtain ⟨hl, xs, hx, h1, r⟩ := h
  refine ⟨hl, xs, ⟨hx.1, ?_⟩, h1, fun i x hi => hF.move (r i x hi) (fun _ _ => rfl) (fun b hb => ⟨Nat.le_trans hlo hb.1, hb.2⟩)⟩
  rcases hx.2 with h0 | ⟨g, cap, cur, h1, h2, h3⟩
  · exact .inl h0
  · exact .inr ⟨g, cap, cur, h1, by omega, h3⟩

/-- It stays while other blocks are made or written. -/
theorem Ow.kept {rw : Option Nat} (hF : Fine R s) (h : Ow R s w base lo e V n L) (hg : w.grownBy w' rw) (hne : V.ownBlock = none ∨ V.ownBlock ≠ rw) (hk : ∀ b, But w lo V b → w'.heap[b]? = w.heap[b]?) : Ow R s w' base lo e V n L := by
  obtain ⟨hl, xs, hx, h1, hel⟩ := h
  exact ⟨hl, xs, hx.kept hg hne, h1, fun i x hx => hF.move (hel i x hx) hk (fun b hb => ⟨hb.1, Nat.lt_of_lt_of_le hb.2.1 hg.size, hb.2.2⟩)⟩
theorem grown_of_below (hb : Below w.heap.size w w') (row : Option Nat) : w.grownBy w' row := ⟨hb.os, hb.tape, hb.output, hb.size, fun k hk _ => hb.block k hk⟩
theorem Ow.below (hF : Fine R s) (h : Ow R s w base lo e V n L) (hb : Below w.heap.size w w') : Ow R s w' base lo e V n L :=
  h.kept (rw := none) hF (grown_of_below hb none) (by cases hv : V.ownBlock <;> simp) (fun b hb' => hb.block b hb'.2.1)
theorem Ow.alloc (hF : Fine R s) (h : Ow R s w base lo e V n L) (o : Obj) : Ow R s (w.alloc o) base lo e V n L :=
  h.below hF ((Below.refl _ _).alloc (Nat.le_refl _) o)

/-- What is owned reads. -/
theorem Ow.read (hF : Fine R s) {A : Option Addr} {c : Nat} (h : Ow R s w base lo e (.slice A n c) n L) : Sl R s w (Old w) A n c L := by
  obtain ⟨hl, xs, hx, h1, hel⟩ := h
  have hform := hx.2
  refine ⟨hl, ?_, fun hn => ?_⟩
  · rcases hform with ⟨hv, rfl⟩ | ⟨g, cap, cur, hv, _, _, hnc, _⟩
    · omega
    · injection hv with _ _ hcc
      omega
  · obtain ⟨g, cap, hv, _, hlt⟩ := hx.form hn
    have hA : A = some ⟨g, 0, none⟩ := by injection hv
    subst hA
    refine ⟨_, rfl, hlt, fun i x hi => ⟨_, hF.move (hel i x hi) (fun _ _ => rfl) (fun b hb => hb.2.1), fun j u hu => ?_⟩⟩
    rw [List.getElem?_take] at hu
    split at hu
    · rw [List.getElem?_drop] at hu
      have := hx.cells (g := g) rfl _ _ hu
      rw [add_of_add]
      exact this
    · cases hu

/-- What is owned, and all that its elements lead to, lies from lo on. -/
theorem Ow.apart (hF : Fine R s) {A : Option Addr} {c : Nat} (h : Ow R s w base lo e (.slice A n c) n L) {V' : Value} {lo' : Nat} (hb : lo' ≤ base) (hlo : lo' ≤ lo) (hV : ∀ k, V'.ownBlock = some k → k < base ∧ k < lo) : Sl R s w (But w lo' V') A n c L := by
  obtain ⟨hl, xs, hx, h1, hel⟩ := h
  have hform := hx.2
  refine ⟨hl, ?_, fun hn => ?_⟩
  · rcases hform with ⟨hv, rfl⟩ | ⟨g, cap, cur, hv, _, _, hnc, _⟩
    · omega
    · injection hv with _ _ hcc
      omega
  · obtain ⟨g, cap, hv, hg, hlt⟩ := hx.form hn
    have hA : A = some ⟨g, 0, none⟩ := by injection hv
    subst hA
    have hne : ∀ b, base ≤ b ∨ lo ≤ b → some b ≠ V'.ownBlock := fun b hb' he => by
      have := hV b he.symm
      omega
    refine ⟨_, rfl, ⟨Nat.le_trans hb hg, hlt, hne _ (.inl hg)⟩, fun i x hi => ⟨_, hF.move (hel i x hi) (fun _ _ => rfl) (fun b hb => ⟨Nat.le_trans hlo hb.1, hb.2.1, hne _ (.inr hb.1)⟩), fun j u hu => ?_⟩⟩
    rw [List.getElem?_take] at hu
    split at hu
    · rw [List.getElem?_drop] at hu
      have := hx.cells (g := g) rfl _ _ hu
      rw [add_of_add]
      exact this
    · cases hu

/-- A block just made whole: a literal, a make. -/
theorem Ow.made (w : World) (cs : Array Value) (hm : n ≤ maxLen) (hs : cs.size = n * s) (hl : L.length = n) (h1 : ∀ u ∈ cs.toList, u.oneCell' = true)
    (hel : ∀ i x, L[i]? = some x → R w (fun b => lo ≤ b ∧ b < w.heap.size) ((cs.toList.drop (i * s)).take s) x) (hF : Fine R s) :
    Ow R s (w.alloc (.cells cs e)) w.heap.size lo e (.slice (some ⟨w.heap.size, 0, none⟩) n n) n L :=
  ⟨hl, cs.toList, World.ownsRow_lit w cs n (Nat.le_refl _) hm hs, h1, fun i x hx => hF.move (hel i x hx) (fun b hb => Below.heap_alloc _ _ _ hb.2) (fun b hb => ⟨hb.1, by have := hb.2; simp; omega, by
    have := hb.2
    simp [Value.ownBlock]; omega⟩)⟩

/-- A literal of one element, on its way into an append. -/
theorem Sl.one_ (hF : Fine R s) {cs : Array Value} {x : α} (hr : R w (But w lo V) cs.toList x) (hV : ∀ k, V.ownBlock = some k → k < w.heap.size) (hlo : lo ≤ w.heap.size) :
    Sl R s (w.alloc (.cells cs e)) (But (w.alloc (.cells cs e)) lo V) (some ⟨w.heap.size, 0, none⟩) 1 1 [x] := by
  refine ⟨rfl, Nat.le_refl _, fun _ => ⟨_, rfl, ⟨hlo, by simp, fun he => ?_⟩, fun i y hi => ⟨cs.toList, ?_, ?_⟩⟩⟩
  · have := hV _ he.symm
    simp at this
  · obtain rfl : i = 0 := by have := (List.getElem?_eq_some_iff.1 hi).1; simp at this; omega
    simp at hi
    subst hi
    exact hF.move hr (fun b hb => Below.heap_alloc _ _ _ hb.2.1) (fun b hb => ⟨hb.1, by have := hb.2.1; simp; omega, hb.2.2⟩)
  · obtain rfl : i = 0 := by have := (List.getElem?_eq_some_iff.1 hi).1; simp at this; omega
    intro j u hu
    rw [Nat.zero_mul, add_zero']
    exact World.news_of_block (heap_alloc_new w _) j u hu
end

theorem append_none {P : Program} (w : World) (base : Nat) (t ty e : TypeId) (i : TypeInfo) (size : Nat) (ht : P.underlying t = some (.slice e)) (hi : P.info? e = some i)
    (v : Value) (n : Nat) (xs : List Value) (hown : w.ownsRow base e size v n xs) (c : Nat) : (Builtin.append_ #[t, t] ty #[v, .slice none 0 c]).run P w = .ok v w := by
  rcases hown.2 with ⟨rfl, rfl⟩ | ⟨g, cap, cur, rfl, _, _, hnc, _⟩
  · simp [Builtin.append_, run_underlying ht, sizeOf, typeInfo, hi, Builtin.lenOf, Builtin.firstCells]
  · simp [Builtin.append_, run_underlying ht, sizeOf, typeInfo, hi, Builtin.lenOf, Builtin.firstCells, hnc, storeCells]

/-- append of nothing, at whatever address. -/
theorem append_zero {P : Program} (w : World) (base : Nat) (t ty e : TypeId) (i : TypeInfo) (z : Value) (size bytes : Nat) (ht : P.underlying t = some (.slice e)) (hi : P.info? e = some i) (hz : i.zero = some z)
    (hsize : i.size = size) (hby : i.bytes = bytes) (hzs : z.cells.size = size) (hsz : 0 < size)
    (v : Value) (n : Nat) (xs : List Value) (hown : w.ownsRow base e size v n xs) (hn : n ≤ maxLen) (hbytes : n * bytes ≤ 140737488355328) (hbase : base ≤ w.heap.size) (A : Option Addr) (c : Nat) :
    ∃ v' w', (Builtin.append_ #[t, t] ty #[v, .slice A 0 c]).run P w = .ok v' w' ∧ w'.ownsRow base e size v' n xs ∧ w.grownBy w' v.ownBlock ∧ (v'.ownBlock = v.ownBlock ∨ v'.ownBlock = some w.heap.size) := by
  rcases A with _ | ad
  · exact ⟨v, w, append_none w base t ty e i size ht hi v n xs hown c, hown, World.grownBy.refl w _, .inl rfl⟩
  · obtain ⟨v', w', h1, h2, h3, _, h5⟩ := run_append_own_at (P := P) w base t ty e i z size bytes ht hi hz hsize hby hzs hsz v n xs hown ad 0 c [] (by simp) (fun j u hu => by simp at hu) (by simp) (by simpa using hn) (by simpa using hbytes) hbase
    exact ⟨v', w', h1, by simpa using h2, h3, h5⟩

/-- append onto a slice of the call's own, from whatever source whose elements lead elsewhere. -/
theorem run_append_ow {α : Type} {R : Rp α} {s : Nat} {P : Program} (w : World) (hF : Fine R s) (base lo : Nat) (t ty e : TypeId) (i : TypeInfo) (z : Value) (bytes : Nat) (ht : P.underlying t = some (.slice e)) (hi : P.info? e = some i) (hz : i.zero = some z)
    (hsize : i.size = s) (hby : i.bytes = bytes) (hzs : z.cells.size = s) (hsz : 0 < s)
    (V : Value) (n : Nat) (L : List α) (hown : Ow R s w base lo e V n L) (S : Nat → Prop) (A : Option Addr) (m c : Nat) (L' : List α) (hr : Sl R s w S A m c L') (hel' : ∀ cs x, x ∈ L' → R w S cs x → R w (But w lo V) cs x)
    (h63 : n + m ≤ maxLen) (hbytes : (n + m) * bytes ≤ 140737488355328) (hbase : base ≤ w.heap.size) :
    ∃ V' w', (Builtin.append_ #[t, t] ty #[V, .slice A m c]).run P w = .ok V' w' ∧ Ow R s w' base lo e V' (n + m) (L ++ L') ∧ w.grownBy w' V.ownBlock ∧ (V'.ownBlock = V.ownBlock ∨ V'.ownBlock = some w.heap.size) := by
  obtain ⟨hl, xs, hx, h1, hel⟩ := hown
  have hlt := hx.lt
  have stays : ∀ (w' : World) (V' : Value), w.grownBy w' V.ownBlock → (V'.ownBlock = V.ownBlock ∨ V'.ownBlock = some w.heap.size) → ∀ cs x, R w (But w lo V) cs x → R w' (But w' lo V') cs x := by
    intro w' V' hg hat cs x hr
    refine hF.move hr (fun b hb => hg.block b hb.2.1 hb.2.2) (fun b hb => ⟨hb.1, Nat.lt_of_lt_of_le hb.2.1 hg.size, ?_⟩)
    rcases hat with h | h <;> rw [h]
    · exact hb.2.2
    · intro he
      have hbl := hb.2.1
      injection he with he
      omega
  rcases Nat.eq_zero_or_pos m with rfl | hm
  · obtain ⟨V', w', hrun, ho, hg, hat⟩ := append_zero (P := P) w base t ty e i z s bytes ht hi hz hsize hby hzs hsz V n xs hx (by omega) (by simpa using hbytes) hbase A c
    have hL : L' = [] := List.eq_nil_of_length_eq_zero hr.len
    subst hL
    exact ⟨V', w', hrun, ⟨by simpa using hl, xs, by simpa using ho, h1, fun i x hi => stays w' V' hg hat _ _ (hel i x (by simpa using hi))⟩, hg, hat⟩
  · obtain ⟨ad, news, rfl, _, hnl, hnat, hn1, hnel⟩ := hr.flat hF hm
    obtain ⟨V', w', hrun, ho, hg, _, hat⟩ := run_append_own_at (P := P) w base t ty e i z s bytes ht hi hz hsize hby hzs hsz V n xs hx ad m c news hnl hnat hn1 h63 hbytes hbase
    refine ⟨V', w', hrun, ⟨by rw [List.length_append, hl, hr.len], xs ++ news, ho, ?_, fun i x hix => stays w' V' hg hat _ _ ?_⟩, hg, hat⟩
    · intro u hu
      rcases List.mem_append.1 hu with hu | hu
      · exact h1 u hu
      · exact hn1 u hu
    · have hxl := hx.1
      by_cases hin : i < n
      · rw [List.getElem?_append_left (by omega)] at hix
        have hle : i * s + s ≤ xs.length := by rw [hxl, ← Nat.succ_mul]; exact Nat.mul_le_mul_right _ hin
        rw [List.drop_append_of_le_length (by omega), List.take_append_of_le_length (by rw [List.length_drop]; omega)]
        exact hel i x hix
      · rw [List.getElem?_append_right (by omega), hl] at hix
        have hd : i * s = xs.length + (i - n) * s := by rw [hxl, ← Nat.add_mul]; congr 1; omega
        rw [hd, List.drop_append, List.drop_of_length_le (by omega), List.nil_append, Nat.add_sub_cancel_left]
        exact hel' _ _ (List.mem_of_getElem? hix) (hnel _ x hix)

theorem Ow.drew {α : Type} {R : Rp α} {s : Nat} {w : World} {base lo : Nat} {e : TypeId} {V : Value} {n : Nat} {L : List α} (hF : Fine R s) (h : Ow R s w base lo e V n L) : Ow R s w.drew base lo e V n L :=
  h.below hF (Below.refl _ _).drew
theorem Sl.drew {α : Type} {R : Rp α} {s : Nat} {w : World} {S : Nat → Prop} {A : Option Addr} {n c : Nat} {L : List α} (hF : Fine R s) (h : Sl R s w S A n c L) : Sl R s w.drew S A n c L :=
  h.move hF (fun _ _ => rfl) (fun _ h => h)

/-- The same at the operation. -/
theorem wp_append_ow {α : Type} {R : Rp α} {s : Nat} {P : Program} (w : World) {o : Oper} {a : Act} {K : Act → World → Prop} {Q : Exit → Act → World → Prop} (so x : Operand) (t : TypeId)
    (ho : o.op = .call { callee := .builtin .append, args := #[so, x], argTypes := #[t, t] }) (hF : Fine R s)
    (base lo : Nat) (e : TypeId) (i : TypeInfo) (z : Value) (bytes : Nat) (ht : P.underlying t = some (.slice e)) (hi : P.info? e = some i) (hz : i.zero = some z)
    (hsize : i.size = s) (hby : i.bytes = bytes) (hzs : z.cells.size = s) (hsz : 0 < s)
    (V : Value) (n : Nat) (L : List α) (hs : a.eval so = V) (hown : Ow R s w base lo e V n L)
    (S : Nat → Prop) (A : Option Addr) (m c : Nat) (L' : List α) (hx : a.eval x = .slice A m c) (hr : Sl R s w S A m c L') (hel' : ∀ cs x, x ∈ L' → R w S cs x → R w (But w lo V) cs x)
    (h63 : n + m ≤ maxLen) (hbytes : (n + m) * bytes ≤ 140737488355328) (hbase : base ≤ w.heap.size)
    (h : ∀ V' w', Ow R s w' base lo e V' (n + m) (L ++ L') → w.grownBy w' V.ownBlock → (V'.ownBlock = V.ownBlock ∨ V'.ownBlock = some w.heap.size) → K (a.put o.dst V') w') : o.wp P a w K Q := by
  obtain ⟨V', w', hrun, h2, h3, h4⟩ := run_append_ow (P := P) w hF base lo t o.type e i z bytes ht hi hz hsize hby hzs hsz V n L hown S A m c L' hr hel' h63 hbytes hbase
  unfold Oper.wp execOp
  simp only [ho, resolve, invoke, builtin, Sem.run_bind, Sem.run_pure, Result.andThen_ok, List.map_toArray, List.map_cons, List.map_nil, hs, hx, hrun]
  exact h V' w' h2 h3 h4

theorem wpList_append_ow {α : Type} {R : Rp α} {s : Nat} {P : Program} (w : World) {ops : Array Oper} {rest : List Oper} {o : Oper} {a : Act} {Q : Exit → Act → World → Prop} (hgd : o.guard = none) (so x : Operand) (t : TypeId)
    (ho : o.op = .call { callee := .builtin .append, args := #[so, x], argTypes := #[t, t] }) (hF : Fine R s)
    (base lo : Nat) (e : TypeId) (i : TypeInfo) (z : Value) (bytes : Nat) (ht : P.underlying t = some (.slice e)) (hi : P.info? e = some i) (hz : i.zero = some z)
    (hsize : i.size = s) (hby : i.bytes = bytes) (hzs : z.cells.size = s) (hsz : 0 < s)
    (V : Value) (n : Nat) (L : List α) (hs : a.eval so = V) (hown : Ow R s w base lo e V n L)
    (S : Nat → Prop) (A : Option Addr) (m c : Nat) (L' : List α) (hx : a.eval x = .slice A m c) (hr : Sl R s w S A m c L') (hel' : ∀ cs x, x ∈ L' → R w S cs x → R w (But w lo V) cs x)
    (h63 : n + m ≤ maxLen) (hbytes : (n + m) * bytes ≤ 140737488355328) (hbase : base ≤ w.heap.size)
    (h : ∀ V' w', Ow R s w' base lo e V' (n + m) (L ++ L') → w.grownBy w' V.ownBlock → (V'.ownBlock = V.ownBlock ∨ V'.ownBlock = some w.heap.size) → wpList P ops Q rest (a.put o.dst V') w') : wpList P ops Q (o :: rest) a w :=
  wpList_plain hgd fun _ hK => wp_append_ow w so x t ho hF base lo e i z bytes ht hi hz hsize hby hzs hsz V n L hs hown S A m c L' hx hr hel' h63 hbytes hbase fun V' w' h2 h3 h4 => hK _ _ (h V' w' h2 h3 h4)

theorem step_append_ow {α : Type} {R : Rp α} {s : Nat} {P : Program} (w : World) {ops : Array Oper} {o : Oper} {a : Act} {K : Act → World → Prop} {Q : Exit → Act → World → Prop} {E : Prop} (hgd : o.guard = none) (so x : Operand) (t : TypeId)
    (ho : o.op = .call { callee := .builtin .append, args := #[so, x], argTypes := #[t, t] }) (hF : Fine R s)
    (base lo : Nat) (e : TypeId) (i : TypeInfo) (z : Value) (bytes : Nat) (ht : P.underlying t = some (.slice e)) (hi : P.info? e = some i) (hz : i.zero = some z)
    (hsize : i.size = s) (hby : i.bytes = bytes) (hzs : z.cells.size = s) (hsz : 0 < s)
    (V : Value) (n : Nat) (L : List α) (hs : a.eval so = V) (hown : Ow R s w base lo e V n L)
    (S : Nat → Prop) (A : Option Addr) (m c : Nat) (L' : List α) (hx : a.eval x = .slice A m c) (hr : Sl R s w S A m c L') (hel' : ∀ cs x, x ∈ L' → R w S cs x → R w (But w lo V) cs x)
    (h63 : n + m ≤ maxLen) (hbytes : (n + m) * bytes ≤ 140737488355328) (hbase : base ≤ w.heap.size)
    (h : ∀ V' w', Ow R s w' base lo e V' (n + m) (L ++ L') → w.grownBy w' V.ownBlock → (V'.ownBlock = V.ownBlock ∨ V'.ownBlock = some w.heap.size) → K (a.put o.dst V') w') :
    if Region.wanted o (yielded ops a.tmps) = true then Oper.wp P o a w K Q else E := by
  have hw : Region.wanted o (yielded ops a.tmps) = true := by simp [Region.wanted, hgd]
  rw [if_pos hw]
  exact wp_append_ow w so x t ho hF base lo e i z bytes ht hi hz hsize hby hzs hsz V n L hs hown S A m c L' hx hr hel' h63 hbytes hbase h

/-- A cell of what is owned: where it lies, that it may be written, and what is owned behind the store. -/
theorem Ow.spot {α : Type} {R : Rp α} {w : World} {base lo : Nat} {e : TypeId} {A : Option Addr} {n c : Nat} {L : List α} (hF : Fine R 1) (h : Ow R 1 w base lo e (.slice A n c) n L) {k : Nat} (hk : k < n) :
    ∃ g x u, A = some ⟨g, 0, none⟩ ∧ base ≤ g ∧ g < w.heap.size ∧ L[k]? = some x ∧ R w (But w lo (.slice A n c)) [u] x ∧ w.cell? ⟨g, k, none⟩ = some u ∧ w.frozen? ⟨g, k, none⟩ = false ∧
      ∀ u' x', u'.oneCell' = true → R w (But w lo (.slice A n c)) [u'] x' → Ow R 1 (w.setCell ⟨g, k, none⟩ u') base lo e (.slice A n c) n (L.set k x') := by
  obtain ⟨hl, xs, hx, h1, hel⟩ := h
  obtain ⟨g, cap, hv, hg, hlt⟩ := hx.form (by omega)
  obtain ⟨rfl, rfl⟩ : A = some ⟨g, 0, none⟩ ∧ c = cap := by injection hv with h1 h2 h3; exact ⟨h1, h3⟩
  have hxl : xs.length = n := by have := hx.1; omega
  have hkl : k < L.length := by omega
  have hr := hel k L[k] (List.getElem?_eq_getElem hkl)
  have hcs : (xs.drop (k * 1)).take 1 = [xs[k]'(by omega)] := by
    rw [Nat.mul_one, List.drop_eq_getElem_cons (by omega)]
    rfl
  rw [hcs] at hr
  refine ⟨g, L[k], xs[k]'(by omega), rfl, hg, hlt, List.getElem?_eq_getElem hkl, hr, ?_, hx.frozenAt k, fun u' x' hu' hr' => ?_⟩
  · rw [hx.cellAt k (by omega), List.getElem?_eq_getElem (by omega)]
  · have hst := hx.stored k u'
    refine ⟨by rw [List.length_set, hl], xs.set k u', hst.1, ?_, fun i x hix => ?_⟩
    · intro u hu
      rcases List.mem_or_eq_of_mem_set hu with hu | rfl
      · exact h1 u hu
      · exact hu'
    · have hmv : ∀ cs y, R w (But w lo (.slice (some ⟨g, 0, none⟩) n c)) cs y → R (w.setCell ⟨g, k, none⟩ u') (But (w.setCell ⟨g, k, none⟩ u') lo (.slice (some ⟨g, 0, none⟩) n c)) cs y := fun cs y hy =>
        hF.move hy (fun b hb => hst.2.block b hb.2.1 (by simpa [Value.ownBlock] using hb.2.2)) (fun b hb => ⟨hb.1, Nat.lt_of_lt_of_le hb.2.1 hst.2.size, hb.2.2⟩)
      have hil := (List.getElem?_eq_some_iff.1 hix).1
      rw [List.length_set] at hil
      have hcs' : ((xs.set k u').drop (i * 1)).take 1 = [(xs.set k u')[i]'(by rw [List.length_set]; omega)] := by
        rw [Nat.mul_one, List.drop_eq_getElem_cons (by rw [List.length_set]; omega)]
        rfl
      rw [hcs']
      by_cases hik : i = k
      · subst hik
        rw [List.getElem?_set_self hil] at hix
        injection hix with hix
        subst hix
        rw [List.getElem_set_self]
        exact hmv _ _ hr'
      · rw [List.getElem?_set_ne (by omega)] at hix
        rw [List.getElem_set_ne (by omega)]
        have := hel i x hix
        have hcs2 : (xs.drop (i * 1)).take 1 = [xs[i]'(by omega)] := by
          rw [Nat.mul_one, List.drop_eq_getElem_cons (by omega)]
          rfl
        rw [hcs2] at this
        exact hmv _ _ this

/-- Behind an append: nothing below the base has turned. -/
theorem below_grown {w w' : World} {base : Nat} {V : Value} (hg : w.grownBy w' V.ownBlock) (hlt : ∀ k, V.ownBlock = some k → base ≤ k ∧ k < w.heap.size) (hb : base ≤ w.heap.size) : Below base w w' :=
  (Below.refl _ _).grown hg hb (fun k hk => (hlt k hk).1)

/-- make([]T, n), as one equation for every world. -/
theorem run_make_all {P : Program} (t e : TypeId) (i : TypeInfo) (z : Value) (size bytes : Nat) (ht : P.underlying t = some (.slice e)) (hi : P.info? e = some i) (hz : i.zero = some z) (hsize : i.size = size) (hby : i.bytes = bytes)
    (kl kc : IntKind) (n : Nat) (hbytes : bytes * n ≤ 281474976710656) (hn : n ≤ 9223372036854775807) (w : World) :
    (Instr.makeSlice t (.int kl (n : Int)) (.int kc (n : Int))).run P w = .ok (.slice (some ⟨w.heap.size, 0, none⟩) n n) (w.alloc (.cells (madeCells z.cells (n * size)) e)) := by
  subst hsize
  subst hby
  have hb : (i.bytes : Int) * (n : Int) ≤ 281474976710656 := by
    have h : ((i.bytes * n : Nat) : Int) ≤ 281474976710656 := by omega
    rwa [Int.natCast_mul] at h
  have hr := run_make (P := P) w t e i z ht hi hz kl kc n n (by omega) (by omega) hb (by omega)
  simp only [Int.toNat_natCast] at hr
  exact hr

/-- A literal of one plain cell, on its way into an append. -/
theorem lit_plain {α : Type} {R : Rp α} {w : World} {S : Nat → Prop} {u : Value} {x : α} {e : TypeId} (hr : R (w.alloc (.cells #[u] e)) S [u] x) (hS : S w.heap.size) : Sl R 1 (w.alloc (.cells #[u] e)) S (some ⟨w.heap.size, 0, none⟩) 1 1 [x] := by
  refine ⟨rfl, Nat.le_refl _, fun _ => ⟨_, rfl, hS, fun i y hi => ⟨[u], ?_, ?_⟩⟩⟩
  · obtain rfl : i = 0 := by have := (List.getElem?_eq_some_iff.1 hi).1; simp at this; omega
    simp at hi
    subst hi
    exact hr
  · obtain rfl : i = 0 := by have := (List.getElem?_eq_some_iff.1 hi).1; simp at this; omega
    intro j u hu
    rw [Nat.zero_mul, add_zero']
    exact World.news_of_block (heap_alloc_new w _) j u hu

theorem below_cell {B k : Nat} {w w' : World} {ad : Addr} {v : Value} (hb : Below B w w') (hlt : ad.block < B) (h : w.cell? (ad.add k) = some v) : w'.cell? (ad.add k) = some v :=
  (hb.cell (by rw [block_of_add]; exact hlt)).trans h

/-- One call behind the other. -/
theorem th {w w1 w2 : World} (h1 : Below w.heap.size w w1) (h2 : Below w1.heap.size w1 w2) : Below w.heap.size w w2 := h1.trans (h2.mono h1.size)
theorem drewN_below (w : World) (q : Nat) : Below w.heap.size w (w.drewN q) := ⟨rfl, rfl, rfl, Nat.le_refl _, fun _ _ => rfl⟩
theorem alloc_below (w : World) (o : Obj) : Below w.heap.size w (w.alloc o) := (Below.refl _ _).alloc (Nat.le_refl _) _

/-- What was made before a slice of the call's own lies apart from it. -/
theorem rep_past {α : Type} {R : Rp α} {s lo : Nat} {W w' : World} {cs : List Value} {x : α} {V : Value} (hF : Fine R s) (h : R W (But W lo (.slice none 0 0)) cs x) (hb : Below W.heap.size W w') (hV : ∀ k, V.ownBlock = some k → W.heap.size ≤ k) : R w' (But w' lo V) cs x :=
  hF.move h (fun b hb' => hb.block b hb'.2.1) (fun b hb' => ⟨hb'.1, Nat.lt_of_lt_of_le hb'.2.1 hb.size, fun he => by have h1 := hV b he.symm; have h2 := hb'.2.1; omega⟩)
theorem Sl.past {α : Type} {R : Rp α} {s lo : Nat} {W w' : World} {A : Option Addr} {n c : Nat} {L : List α} {V : Value} (hF : Fine R s) (h : Sl R s W (But W lo (.slice none 0 0)) A n c L) (hb : Below W.heap.size W w') (hV : ∀ k, V.ownBlock = some k → W.heap.size ≤ k) : Sl R s w' (But w' lo V) A n c L :=
  h.move hF (fun b hb' => hb.block b hb'.2.1) (fun b hb' => ⟨hb'.1, Nat.lt_of_lt_of_le hb'.2.1 hb.size, fun he => by have h1 := hV b he.symm; have h2 := hb'.2.1; omega⟩)

theorem undrew {B : Nat} {w w' : World} (h : Below B w.drew w') : Below B w w' := ⟨h.os, h.tape, h.output, h.size, h.block⟩

theorem below_grown2 {w w' : World} {base : Nat} {V : Value} (hg : w.grownBy w' V.ownBlock) (hlt : ∀ k, V.ownBlock = some k → base ≤ k) (hb : base ≤ w.heap.size) : Below base w w' :=
  (Below.refl _ _).grown hg hb hlt

set_option linter.unusedVariables false
/-- The blocks that came behind B. -/
def New (B : Nat) (w : World) : Nat → Prop := fun b => B ≤ b ∧ b < w.heap.size
theorem Ow.new_ {α : Type} {R : Rp α} {s base lo B n : Nat} {w : World} {e : TypeId} {A : Option Addr} {c : Nat} {L : List α} (hF : Fine R s) (h : Ow R s w base lo e (.slice A n c) n L) (hb : B ≤ base) (hlo : B ≤ lo) : Sl R s w (New B w) A n c L :=
  (h.apart hF (V' := .slice none 0 0) hb hlo (by simp [Value.ownBlock])).move hF (fun _ _ => rfl) (fun b hb => ⟨hb.1, hb.2.1⟩)
theorem Sl.old_ {α : Type} {R : Rp α} {s B n : Nat} {w : World} {A : Option Addr} {c : Nat} {L : List α} (hF : Fine R s) (h : Sl R s w (New B w) A n c L) : Sl R s w (Old w) A n c L :=
  h.move hF (fun _ _ => rfl) (fun b hb => hb.2)
theorem Sl.new_on {α : Type} {R : Rp α} {s B n : Nat} {w w' : World} {A : Option Addr} {c : Nat} {L : List α} (hF : Fine R s) (h : Sl R s w (New B w) A n c L) (hb : Below w.heap.size w w') : Sl R s w' (New B w') A n c L :=
  h.move hF (fun b hb' => hb.block b hb'.2) (fun b hb' => ⟨hb'.1, Nat.lt_of_lt_of_le hb'.2 hb.size⟩)
/-- A store into a block of the call's own, made before. -/
theorem Sl.new_set {α : Type} {R : Rp α} {s B n : Nat} {w : World} {A : Option Addr} {c : Nat} {L : List α} (hF : Fine R s) (h : Sl R s w (New B w) A n c L) (p : Addr) (v : Value) (hp : p.block < B) : Sl R s (w.setCell p v) (New B (w.setCell p v)) A n c L :=
  h.move hF (fun b hb => by
    unfold World.setCell
    rw [Array.getElem?_modify, if_neg (by have := hb.1; omega)]) (fun b hb => ⟨hb.1, by unfold World.setCell; rw [Array.size_modify]; exact hb.2⟩)
theorem Sl.new_drew {α : Type} {R : Rp α} {s B n : Nat} {w : World} {A : Option Addr} {c : Nat} {L : List α} (hF : Fine R s) (h : Sl R s w (New B w) A n c L) : Sl R s w.drew (New B w.drew) A n c L :=
  h.move hF (fun _ _ => rfl) (fun b hb => hb)
theorem Sl.new_less {α : Type} {R : Rp α} {s B B' n : Nat} {w : World} {A : Option Addr} {c : Nat} {L : List α} (hF : Fine R s) (h : Sl R s w (New B w) A n c L) (hb : B' ≤ B) : Sl R s w (New B' w) A n c L :=
  h.move hF (fun _ _ => rfl) (fun b hb' => ⟨Nat.le_trans hb hb'.1, hb'.2⟩)

end Go.Proofs.YtdcoholjnlndgaaDoor
