/-
  Plain: two slices that grow beside each other: a table's entries, the rows' words; and the parity.
-/
import Derived.Test.YtikjhcfalofgaaaZKnow
import Derived.Test.YtikjhcfalofgaaaZoneA
import Derived.Test.YtikjhcfalofgaaaZoneL
import Derived.Test.YtikjhcfalofgaaaZKeep
namespace Go.Proofs.Ytikjhcfalofgaaa
open Go.RowKit
set_option linter.unusedVariables false
set_option maxRecDepth 100000

theorem ent_kept {w w' : World} {base lo : Nat} {e : TypeId} {V : Value} {n : Nat} {L : List Ent} {rw : Option Nat} (h : Ow entR 3 w base lo e V n L) (hg : w.grownBy w' rw) (hne : V.ownBlock = none ∨ V.ownBlock ≠ rw) : Ow entR 3 w' base lo e V n L := by
  obtain ⟨hl, xs, hx, h1, hel⟩ := h
  exact ⟨hl, xs, hx.kept hg hne, h1, fun i x hi => hel i x hi⟩

theorem Els.own {base n : Nat} {w : World} {v V : Value} {hs : List (Option Addr × Nat × Nat)} {K : Nat → List UInt8} {e : TypeId} (h : Els base w v V hs K) (ho : Ow hdrR 1 w base 0 e V n hs) : Ow (slR byteR 1) 1 w base base e V n ((List.range n).map K) := by
  obtain ⟨hl, xs, hx, h1, hel⟩ := ho
  refine ⟨by simp, xs, hx, h1, fun i x hi => ?_⟩
  have hil := (List.getElem?_eq_some_iff.1 hi).1
  simp at hil
  rw [List.getElem?_map, List.getElem?_range hil] at hi
  simp at hi
  subst hi
  obtain ⟨y, hy⟩ : ∃ y, hs[i]? = some y := ⟨_, List.getElem?_eq_getElem (by omega)⟩
  exact ⟨y.1, y.2.1, y.2.2, hel i y hy, (h i y hy).move byteR_fine (fun _ _ => rfl) (fun b hb => ⟨hb.1, hb.2.1, hb.2.2.2⟩)⟩

/-- Entries, rows' words, parity: apart. -/
structure FS (base : Nat) (eT eH : TypeId) (w : World) (vT vH : Value) (kt kh : Nat) (LT : List Ent) (hs : List (Option Addr × Nat × Nat)) (K : Nat → List UInt8) (A : Option Addr) (cp : Nat) (par : List UInt8) : Prop where
  t : Ow entR 3 w base 0 eT vT kt LT
  h : Ow hdrR 1 w base 0 eH vH kh hs
  dis : vH.ownBlock = none ∨ vH.ownBlock ≠ vT.ownBlock
  els : Els base w vT vH hs K
  par : Sl byteR 1 w (El base w vT vH) A 8 cp par

section
variable {base : Nat} {eT eH : TypeId} {w w' : World} {vT vH vT' vH' : Value} {kt kh kt' kh' : Nat} {LT LT' : List Ent} {hs : List (Option Addr × Nat × Nat)} {K : Nat → List UInt8} {A B : Option Addr} {m c cp : Nat} {par : List UInt8}
theorem FS.below (h : FS base eT eH w vT vH kt kh LT hs K A cp par) (hb : Below w.heap.size w w') : FS base eT eH w' vT vH kt kh LT hs K A cp par :=
  ⟨h.t.below entR_fine hb, h.h.below hdrR_fine hb, h.dis, h.els.below hb, h.par.move byteR_fine (fun b hb' => hb.block b hb'.2.1) (fun b hb' => ⟨hb'.1, Nat.lt_of_lt_of_le hb'.2.1 hb.size, hb'.2.2⟩)⟩
theorem FS.set (h : FS base eT eH w vT vH kt kh LT hs K A cp par) (p : Addr) (v : Value) (hp : p.block < base) : FS base eT eH (w.setCell p v) vT vH kt kh LT hs K A cp par :=
  ⟨ent_kept h.t (grownBy_set w p v) (.inr fun e => by have := (h.t.lt _ e).1; omega), hdr_kept h.h (grownBy_set w p v) (.inr fun e => by have := (h.h.lt _ e).1; omega), h.dis,
    h.els.to (fun b hb => blk_set w p v b (by have := hb.1; omega)) (fun b hb => ⟨hb.1, by simpa [World.setCell] using hb.2.1, hb.2.2⟩),
    h.par.move byteR_fine (fun b hb => blk_set w p v b (by have := hb.1; omega)) (fun b hb => ⟨hb.1, by simpa [World.setCell] using hb.2.1, hb.2.2⟩)⟩
theorem FS.more_t (h : FS base eT eH w vT vH kt kh LT hs K A cp par) (hg : w.grownBy w' vT.ownBlock) (hat : vT'.ownBlock = vT.ownBlock ∨ vT'.ownBlock = some w.heap.size) (ht : Ow entR 3 w' base 0 eT vT' kt' LT') : FS base eT eH w' vT' vH kt' kh LT' hs K A cp par :=
  ⟨ht, hdr_kept h.h hg h.dis, dis_v h.dis (fun q hq => (h.h.lt q hq).2) hat, h.els.grow_v hg hat,
    h.par.move byteR_fine (fun b hb => hg.block b hb.2.1 hb.2.2.1) (fun b hb => ⟨hb.1, Nat.lt_of_lt_of_le hb.2.1 hg.size, by
      rcases hat with h | h <;> rw [h]
      · exact hb.2.2.1
      · intro e
        injection e with e
        have := hb.2.1
        omega, hb.2.2.2⟩)⟩
theorem FS.more_h (h : FS base eT eH w vT vH kt kh LT hs K A cp par) (hn : Sl byteR 1 w (El base w vT vH) B m c (K hs.length)) (hg : w.grownBy w' vH.ownBlock) (hat : vH'.ownBlock = vH.ownBlock ∨ vH'.ownBlock = some w.heap.size) (ho : Ow hdrR 1 w' base 0 eH vH' kh' (hs ++ [(B, m, c)])) : FS base eT eH w' vT vH' kt kh' LT (hs ++ [(B, m, c)]) K A cp par :=
  ⟨ent_kept h.t hg (dis_flip h.dis), ho, dis_flip (dis_v (dis_flip h.dis) (fun q hq => (h.t.lt q hq).2) hat), (h.els.snoc hn).grow_b hg hat,
    h.par.move byteR_fine (fun b hb => hg.block b hb.2.1 hb.2.2.2) (fun b hb => ⟨hb.1, Nat.lt_of_lt_of_le hb.2.1 hg.size, hb.2.2.1, by
      rcases hat with h | h <;> rw [h]
      · exact hb.2.2.2
      · intro e
        injection e with e
        have := hb.2.1
        omega⟩)⟩
theorem FS.turn {B' : Nat} {A' : Option Addr} {cp' : Nat} {par' : List UInt8} (h : FS base eT eH w vT vH kt kh LT hs K A cp par) (hn : Sl byteR 1 w (New B' w) A' 8 cp' par') (hb : base ≤ B') (h1 : ∀ q, vT.ownBlock = some q → q < B') (h2 : ∀ q, vH.ownBlock = some q → q < B') : FS base eT eH w vT vH kt kh LT hs K A' cp' par' :=
  ⟨h.t, h.h, h.dis, h.els, new_in hn hb h1 h2⟩
theorem FS.first (w : World) (hn : Sl byteR 1 w (New base w) A 8 cp par) : FS base eT eH w (.slice none 0 0) (.slice none 0 0) 0 0 [] [] K A cp par :=
  ⟨Ow.nil_ _ _ _ _, Ow.nil_ _ _ _ _, .inl rfl, fun j h hj => by simp at hj, new_in hn (Nat.le_refl _) (by simp [Value.ownBlock]) (by simp [Value.ownBlock])⟩
end

theorem FS.congr {base : Nat} {eT eH : TypeId} {w : World} {vT vH : Value} {kt kh : Nat} {LT : List Ent} {hs : List (Option Addr × Nat × Nat)} {K K' : Nat → List UInt8} {A : Option Addr} {cp : Nat} {par : List UInt8} (h : FS base eT eH w vT vH kt kh LT hs K A cp par) (hK : ∀ j, j < hs.length → K j = K' j) : FS base eT eH w vT vH kt kh LT hs K' A cp par :=
  ⟨h.t, h.h, h.dis, fun j x hx => by rw [← hK j (List.getElem?_eq_some_iff.1 hx).1]; exact h.els j x hx, h.par⟩
theorem Ow.but {w : World} {base lo lo' : Nat} {e : TypeId} {A : Option Addr} {n c : Nat} {L : List Ent} {V : Value} (h : Ow entR 3 w base lo e (.slice A n c) n L) (hd : V.ownBlock = none ∨ V.ownBlock ≠ (Value.slice A n c).ownBlock) (hlo : lo' ≤ base) : Sl entR 3 w (But w lo' V) A n c L := by
  have hr := h.read entR_fine
  have hlt := h.lt
  refine ⟨hr.len, hr.cap, fun hn => ?_⟩
  obtain ⟨ad, e1, h1, hc⟩ := hr.at0 hn
  obtain ⟨hl, xs, hx, _, _⟩ := h
  obtain ⟨g, cap, hv, hg, hgl⟩ := hx.form hn
  have hA : A = some ⟨g, 0, none⟩ := by injection hv
  subst hA
  injection e1 with e1
  subst e1
  refine ⟨_, rfl, ⟨Nat.le_trans hlo hg, hgl, fun he => ?_⟩, fun i x hx => ?_⟩
  · rcases hd with h | h
    · rw [h] at he; cases he
    · exact h (by rw [← he]; rfl)
  · obtain ⟨cs, hr, hat⟩ := hc i x hx
    exact ⟨cs, hr, hat⟩

theorem els_below {base : Nat} {w w' : World} {vT vH : Value} {A : Option Addr} {n c : Nat} {l : List UInt8} (h : Sl byteR 1 w (El base w vT vH) A n c l) (hb : Below w.heap.size w w') : Sl byteR 1 w' (El base w' vT vH) A n c l :=
  h.move byteR_fine (fun b hb' => hb.block b hb'.2.1) (fun b hb' => ⟨hb'.1, Nat.lt_of_lt_of_le hb'.2.1 hb.size, hb'.2.2⟩)
theorem els_more_t {base : Nat} {w w' : World} {vT vH vT' : Value} {A : Option Addr} {n c : Nat} {l : List UInt8} (h : Sl byteR 1 w (El base w vT vH) A n c l) (hg : w.grownBy w' vT.ownBlock) (hat : vT'.ownBlock = vT.ownBlock ∨ vT'.ownBlock = some w.heap.size) : Sl byteR 1 w' (El base w' vT' vH) A n c l :=
  h.move byteR_fine (fun b hb => hg.block b hb.2.1 hb.2.2.1) (fun b hb => ⟨hb.1, Nat.lt_of_lt_of_le hb.2.1 hg.size, by
      rcases hat with h | h <;> rw [h]
      · exact hb.2.2.1
      · intro e
        injection e with e
        have := hb.2.1
        omega, hb.2.2.2⟩)

/-- A literal of one entry. -/
theorem lit_ent {w : World} {N : Nat} {e : TypeId} {a s : Int} {l : Bool} (hN : w.heap.size = N) (ha : InI a) (hs : InI s) : Sl entR 3 (w.alloc (.cells #[.int .i64 a, .int .i64 s, .bool l] e)) (fun _ => True) (some ⟨N, 0, none⟩) 1 1 [⟨a, s, l⟩] := by
  subst hN
  refine ⟨rfl, Nat.le_refl _, fun _ => ⟨_, rfl, trivial, fun i y hi => ⟨[.int .i64 a, .int .i64 s, .bool l], ?_, ?_⟩⟩⟩
  · obtain rfl : i = 0 := by have := (List.getElem?_eq_some_iff.1 hi).1; simp at this; omega
    simp at hi
    subst hi
    exact ⟨rfl, ha, hs⟩
  · obtain rfl : i = 0 := by have := (List.getElem?_eq_some_iff.1 hi).1; simp at this; omega
    intro j u hu
    rw [Nat.zero_mul, add_zero']
    exact World.news_of_block (heap_alloc_new w _) j u hu

/-- The blocks of a zone, and whether they are lost. -/
def blkAt (B : List (List UInt8)) (i : Nat) : List UInt8 := match B[i]? with | some b => if b.length = 8 then b else zero8 | none => zero8
def lostAt (F : List Bool) (i : Nat) : Bool := (F[i]?).getD false
def fullB (d : Nat) (B : List (List UInt8)) (F : List Bool) : List (List UInt8 × Bool) := (List.range d).map fun i => (blkAt B i, lostAt F i)
theorem fullB_len (d : Nat) (B : List (List UInt8)) (F : List Bool) : (fullB d B F).length = d := by simp [fullB]
theorem fullB_at {d i : Nat} (B : List (List UInt8)) (F : List Bool) (h : i < d) : (fullB d B F)[i]? = some (blkAt B i, lostAt F i) := by
  rw [fullB, List.getElem?_map, List.getElem?_range h]; rfl
theorem blkAt_len (B : List (List UInt8)) (i : Nat) : (blkAt B i).length = 8 := by
  unfold blkAt
  split
  · split
    · assumption
    · rfl
  · rfl
theorem fullB_8 (d : Nat) (B : List (List UInt8)) (F : List Bool) : ∀ x ∈ fullB d B F, x.1.length = 8 := by
  intro x hx
  simp only [fullB, List.mem_map] at hx
  obtain ⟨i, _, rfl⟩ := hx
  exact blkAt_len B i
theorem blkAt_eq {B : List (List UInt8)} {i : Nat} {b : List UInt8} (h : B[i]? = some b) (h8 : b.length = 8) : blkAt B i = b := by simp [blkAt, h, h8]
theorem blkAt_no {B : List (List UInt8)} {i : Nat} {b : List UInt8} (h : B[i]? = some b) (h8 : b.length ≠ 8) : blkAt B i = zero8 := by simp [blkAt, h, h8]
theorem blkAt_out {B : List (List UInt8)} {i : Nat} (h : B.length ≤ i) : blkAt B i = zero8 := by simp [blkAt, List.getElem?_eq_none h]
theorem lostAt_eq {F : List Bool} {i : Nat} {b : Bool} (h : F[i]? = some b) : lostAt F i = b := by simp [lostAt, h]
theorem lostAt_out {F : List Bool} {i : Nat} (h : F.length ≤ i) : lostAt F i = false := by simp [lostAt, List.getElem?_eq_none h]

/-- The first k of them. -/
def entAt (s : Int) (B : List (List UInt8)) (F : List Bool) (i : Nat) : Ent := ⟨s, crc (blkAt B i), lostAt F i⟩
def rowAt (B : List (List UInt8)) (F : List Bool) (i : Nat) : List UInt8 := if lostAt F i then [] else blkAt B i
theorem fullT_is (s : Int) (d : Nat) (B : List (List UInt8)) (F : List Bool) : fullT s (fullB d B F) = (List.range d).map (entAt s B F) ++ [⟨s, crc (parL (fullB d B F)), false⟩] := by
  simp [fullT, fullB, entAt, Function.comp_def]
theorem fullH_is (d : Nat) (B : List (List UInt8)) (F : List Bool) : fullH (fullB d B F) = (List.range d).map (rowAt B F) ++ [parL (fullB d B F)] := by
  simp [fullH, fullB, rowAt, Function.comp_def]
theorem range_snoc {α : Type} (f : Nat → α) (k : Nat) : (List.range (k + 1)).map f = (List.range k).map f ++ [f k] := by rw [List.range_succ, List.map_append]; rfl
theorem parB_succ (k : Nat) (B : List (List UInt8)) (F : List Bool) : parL (fullB (k + 1) B F) = if lostAt F k then parL (fullB k B F) else zx (parL (fullB k B F)) (blkAt B k) := by
  have h := parL_snoc (fullB_at (d := k + 1) B F (Nat.lt_succ_self k))
  have e : fullB (k + 1) B F = fullB k B F ++ [(blkAt B k, lostAt F k)] := range_snoc _ k
  have e1 : (fullB (k + 1) B F).take (k + 1) = fullB (k + 1) B F := List.take_of_length_le (by simp [fullB_len])
  have e2 : (fullB (k + 1) B F).take k = fullB k B F := by rw [e, List.take_left' (fullB_len k B F)]
  rw [e1, e2] at h
  exact h

end Go.Proofs.Ytikjhcfalofgaaa
