/-
  Contracts: zone.All.
-/
import Derived.Test.YtikjhcfalofgaaaZone
namespace Go.Proofs.Ytikjhcfalofgaaa
open Go.RowKit
set_option linter.unusedVariables false
set_option maxRecDepth 100000

/-- A slice's words alone, its memory not looked at. -/
def hdrR : Rp (Option Addr × Nat × Nat) := fun _ _ cs x => cs = [.slice x.1 x.2.1 x.2.2]
theorem hdrR_fine : Fine hdrR 1 where
  size := by rintro _ _ _ _ rfl; rfl
  one := by rintro _ _ _ _ rfl u hu; simp at hu; subst hu; rfl
  move := by rintro _ _ _ _ _ _ rfl _ _; rfl
theorem hdr_kept {w w' : World} {base lo : Nat} {e : TypeId} {V : Value} {n : Nat} {L : List (Option Addr × Nat × Nat)} {rw : Option Nat} (h : Ow hdrR 1 w base lo e V n L) (hg : w.grownBy w' rw) (hne : V.ownBlock = none ∨ V.ownBlock ≠ rw) : Ow hdrR 1 w' base lo e V n L := by
  obtain ⟨hl, xs, hx, h1, hel⟩ := h
  exact ⟨hl, xs, hx.kept hg hne, h1, fun i x hi => hel i x hi⟩
theorem bool_kept {w w' : World} {base lo : Nat} {e : TypeId} {V : Value} {n : Nat} {L : List Bool} {rw : Option Nat} (h : Ow boolR 1 w base lo e V n L) (hg : w.grownBy w' rw) (hne : V.ownBlock = none ∨ V.ownBlock ≠ rw) : Ow boolR 1 w' base lo e V n L := by
  obtain ⟨hl, xs, hx, h1, hel⟩ := h
  exact ⟨hl, xs, hx.kept hg hne, h1, fun i x hi => hel i x hi⟩

/-- The blocks where the rows told lie. -/
def El (base : Nat) (w : World) (v vb : Value) : Nat → Prop := fun b => base ≤ b ∧ b < w.heap.size ∧ some b ≠ v.ownBlock ∧ some b ≠ vb.ownBlock
def Els (base : Nat) (w : World) (v vb : Value) (hs : List (Option Addr × Nat × Nat)) (K : Nat → List UInt8) : Prop :=
  ∀ j h, hs[j]? = some h → Sl byteR 1 w (El base w v vb) h.1 h.2.1 h.2.2 (K j)
theorem Els.to {base : Nat} {w w' : World} {v vb v' vb' : Value} {hs : List (Option Addr × Nat × Nat)} {K : Nat → List UInt8} (h : Els base w v vb hs K) (hk : ∀ b, El base w v vb b → w'.heap[b]? = w.heap[b]?) (hS : ∀ b, El base w v vb b → El base w' v' vb' b) : Els base w' v' vb' hs K :=
  fun j x hx => (h j x hx).move byteR_fine hk hS
theorem Els.rows {base : Nat} {w : World} {v vb : Value} {hs : List (Option Addr × Nat × Nat)} {K : Nat → List UInt8} (h : Els base w v vb hs K) {A : Option Addr} {n c : Nat} (ho : Sl hdrR 1 w (Old w) A n c hs) : Rs w A n c ((List.range n).map K) := by
  refine ⟨by simp, ho.cap, fun hn => ?_⟩
  obtain ⟨ad, e, hb, hc⟩ := ho.at0 hn
  refine ⟨ad, e, hb, fun i x hx => ?_⟩
  have hil := (List.getElem?_eq_some_iff.1 hx).1
  simp at hil
  rw [List.getElem?_map, List.getElem?_range hil] at hx
  simp at hx
  subst hx
  obtain ⟨y, hy⟩ : ∃ y, hs[i]? = some y := ⟨_, List.getElem?_eq_getElem (by rw [ho.len]; exact hil)⟩
  obtain ⟨cs, hr, hat⟩ := hc i y hy
  refine ⟨cs, ⟨y.1, y.2.1, y.2.2, hr, (h i y hy).move byteR_fine (fun _ _ => rfl) (fun b hb => hb.2.1)⟩, hat⟩

section
variable {base B n c : Nat} {w w' : World} {v vb v' vb' : Value} {hs : List (Option Addr × Nat × Nat)} {K : Nat → List UInt8} {A : Option Addr} {l : List UInt8}
theorem Els.below (h : Els base w v vb hs K) (hb : Below w.heap.size w w') : Els base w' v vb hs K :=
  h.to (fun b hb' => hb.block b hb'.2.1) (fun b hb' => ⟨hb'.1, Nat.lt_of_lt_of_le hb'.2.1 hb.size, hb'.2.2⟩)
theorem Els.snoc (h : Els base w v vb hs K) (hn : Sl byteR 1 w (El base w v vb) A n c (K hs.length)) : Els base w v vb (hs ++ [(A, n, c)]) K := by
  intro j x hx
  by_cases hj : j < hs.length
  · rw [List.getElem?_append_left hj] at hx
    exact h j x hx
  · rw [List.getElem?_append_right (by omega)] at hx
    have h1 := (List.getElem?_eq_some_iff.1 hx).1
    simp at h1
    obtain rfl : j = hs.length := by omega
    simp at hx
    subst hx
    exact hn
theorem new_in (h : Sl byteR 1 w (New B w) A n c l) (hb : base ≤ B) (h1 : ∀ q, v.ownBlock = some q → q < B) (h2 : ∀ q, vb.ownBlock = some q → q < B) : Sl byteR 1 w (El base w v vb) A n c l :=
  h.move byteR_fine (fun _ _ => rfl) (fun b hb' => ⟨Nat.le_trans hb hb'.1, hb'.2, fun e => by have := h1 b e.symm; have := hb'.1; omega, fun e => by have := h2 b e.symm; have := hb'.1; omega⟩)
theorem Els.grow_v (h : Els base w v vb hs K) (hg : w.grownBy w' v.ownBlock) (hat : v'.ownBlock = v.ownBlock ∨ v'.ownBlock = some w.heap.size) : Els base w' v' vb hs K :=
  h.to (fun b hb => hg.block b hb.2.1 hb.2.2.1) (fun b hb => ⟨hb.1, Nat.lt_of_lt_of_le hb.2.1 hg.size, by
    rcases hat with h | h <;> rw [h]
    · exact hb.2.2.1
    · intro e
      injection e with e
      have := hb.2.1
      omega, hb.2.2.2⟩)
theorem Els.grow_b (h : Els base w v vb hs K) (hg : w.grownBy w' vb.ownBlock) (hat : vb'.ownBlock = vb.ownBlock ∨ vb'.ownBlock = some w.heap.size) : Els base w' v vb' hs K :=
  h.to (fun b hb => hg.block b hb.2.1 hb.2.2.2) (fun b hb => ⟨hb.1, Nat.lt_of_lt_of_le hb.2.1 hg.size, hb.2.2.1, by
    rcases hat with h | h <;> rw [h]
    · exact hb.2.2.2
    · intro e
      injection e with e
      have := hb.2.1
      omega⟩)
theorem dis_v (h : vb.ownBlock = none ∨ vb.ownBlock ≠ v.ownBlock) (hlt : ∀ q, vb.ownBlock = some q → q < w.heap.size) (hat : v'.ownBlock = v.ownBlock ∨ v'.ownBlock = some w.heap.size) : vb.ownBlock = none ∨ vb.ownBlock ≠ v'.ownBlock := by
  rcases hat with e | e
  · rw [e]; exact h
  · right
    rw [e]
    intro h2
    have := hlt _ h2
    omega
theorem dis_flip (h : vb.ownBlock = none ∨ vb.ownBlock ≠ v.ownBlock) : v.ownBlock = none ∨ v.ownBlock ≠ vb.ownBlock := by
  rcases h with h | h
  · rw [h]
    cases v.ownBlock with
    | none => exact .inl rfl
    | some q => exact .inr (by simp)
  · exact .inr fun e => h e.symm
end

theorem bool_info : (Try.prog.info? 4).map (fun i => (i.zero, i.size, i.bytes)) = some (some (.bool false), 1, 1) := by kernel_rfl

/-- What zone.All tells. -/
def AllZ (g : Geo) (L : List Ent) (H : List (List UInt8)) (l : List (List UInt8)) (ks : List Bool) (err : Int) : Prop :=
  (¬ (GeoOk g ∧ TabOk g.data L) ∧ err = 1 ∧ l = [] ∧ ks = []) ∨
   ((GeoOk g ∧ TabOk g.data L) ∧ ¬ HadOk g.data H ∧ err = 2 ∧ l = [] ∧ ks = []) ∨
   ((GeoOk g ∧ TabOk g.data L) ∧ HadOk g.data H ∧ err = 0 ∧ l = (List.range (g.data.toNat + 1)).map (knownL L H) ∧ ks = (List.range (g.data.toNat + 1)).map fun j => decide (knownL L H j ≠ []))
def AllPost (w : World) (g : Geo) (L : List Ent) (H : List (List UInt8)) (e : Ending) (w' : World) : Prop :=
  Below w.heap.size w w' ∧ ∃ V n cv V' n' cv' l ks err, e = .returned (.tuple #[.slice V n cv, .slice V' n' cv', .int .i64 err]) ∧ Rs w' V n cv l ∧ Sl boolR 1 w' (Old w') V' n' cv' ks ∧ AllZ g L H l ks err

/-- The same, and that it lies in new memory. -/
def AllPostN (w : World) (g : Geo) (L : List Ent) (H : List (List UInt8)) (e : Ending) (w' : World) : Prop :=
  Below w.heap.size w w' ∧ ∃ V n cv V' n' cv' l ks err, e = .returned (.tuple #[.slice V n cv, .slice V' n' cv', .int .i64 err]) ∧ Sl (slR byteR 1) 1 w' (New w.heap.size w') V n cv l ∧ Sl boolR 1 w' (New w.heap.size w') V' n' cv' ks ∧ AllZ g L H l ks err
theorem hdr_lo {w : World} {base lo lo' : Nat} {e : TypeId} {V : Value} {n : Nat} {L : List (Option Addr × Nat × Nat)} (h : Ow hdrR 1 w base lo e V n L) : Ow hdrR 1 w base lo' e V n L := by
  obtain ⟨hl, xs, hx, h1, hel⟩ := h
  exact ⟨hl, xs, hx, h1, fun i x hi => hel i x hi⟩
theorem bool_lo {w : World} {base lo lo' : Nat} {e : TypeId} {V : Value} {n : Nat} {L : List Bool} (h : Ow boolR 1 w base lo e V n L) : Ow boolR 1 w base lo' e V n L := by
  obtain ⟨hl, xs, hx, h1, hel⟩ := h
  exact ⟨hl, xs, hx, h1, fun i x hi => hel i x hi⟩
theorem Els.rowsN {base B : Nat} {w : World} {v vb : Value} {hs : List (Option Addr × Nat × Nat)} {K : Nat → List UInt8} (h : Els base w v vb hs K) (hB : B ≤ base) {A : Option Addr} {n c : Nat} (ho : Sl hdrR 1 w (New B w) A n c hs) : Sl (slR byteR 1) 1 w (New B w) A n c ((List.range n).map K) := by
  refine ⟨by simp, ho.cap, fun hn => ?_⟩
  obtain ⟨ad, e, hb, hc⟩ := ho.at0 hn
  refine ⟨ad, e, hb, fun i x hx => ?_⟩
  have hil := (List.getElem?_eq_some_iff.1 hx).1
  simp at hil
  rw [List.getElem?_map, List.getElem?_range hil] at hx
  simp at hx
  subst hx
  obtain ⟨y, hy⟩ : ∃ y, hs[i]? = some y := ⟨_, List.getElem?_eq_getElem (by rw [ho.len]; exact hil)⟩
  obtain ⟨cs, hr, hat⟩ := hc i y hy
  exact ⟨cs, ⟨y.1, y.2.1, y.2.2, hr, (h i y hy).move byteR_fine (fun _ _ => rfl) (fun b hb => ⟨Nat.le_trans hB hb.1, hb.2.1⟩)⟩, hat⟩

set_option maxHeartbeats 2000000 in
theorem zall_new (A B : Option Addr) (n c m cb : Nat) (L : List Ent) (H : List (List UInt8)) (g : Geo) (w : World) (ha : Sl entR 3 w (Old w) A n c L) (hh : Rs w B m cb H) (hn : n ≤ 65536) (hm : m ≤ 65536) :
    Calls Try.prog 27 #[g.v, .agg #[.slice A n c], .slice B m cb] w (AllPostN w g L H) := by
  obtain ⟨i0, hi0, hz0, hz1, hz2⟩ := info_parts row_info
  obtain ⟨j0, hj0, hy0, hy1, hy2⟩ := info_parts bool_info
  obtain ⟨z, q, s, l, a⟩ := g
  have hb0 : Below w.heap.size w ((w.alloc (.cells #[.int .i64 z, .int .i64 q, .int .i64 s, .int .i64 l, .int .i64 a] 23)).alloc (.cells #[.slice A n c] 26)) := (alloc_below w _).alloc (by simp) _
  have hbg := begin_any A B n c m cb L H ⟨z, q, s, l, a⟩ _ (ha.on entR_fine hb0) (hh.on bytesR_fine hb0) hn hm
  unfold AllPostN
  unfold BeginPost at hbg
  unfold Geo.v at hbg ⊢
  dsimp only at hbg ⊢
  have bx : ∀ W, Below ((w.alloc (.cells #[.int .i64 z, .int .i64 q, .int .i64 s, .int .i64 l, .int .i64 a] 23)).alloc (.cells #[.slice A n c] 26)).heap.size ((w.alloc (.cells #[.int .i64 z, .int .i64 q, .int .i64 s, .int .i64 l, .int .i64 a] 23)).alloc (.cells #[.slice A n c] 26)) W →
      W.cell? ⟨w.heap.size, 1, none⟩ = some (.int .i64 q) := fun W hW => box_cell (th (alloc_below _ _) hW) 1 _ rfl
  have BX := hide bx
  have HBG := hide hbg
  clear bx hbg
  have ha0 := ha.on entR_fine hb0
  have hh0 := hh.on bytesR_fine hb0
  go_enter Try.func27, Try.ntmps27
  go_wp2_with fail
  refine HBG.out.mono ?_
  rintro e w1 ⟨hb1, ⟨h1, rfl⟩ | ⟨h1, h2, rfl⟩ | ⟨h1, h2, N, hN, rfl, hlk⟩⟩
  · have H1 := hide h1
    clear h1
    go_wp2_with fail
    go_ret3
    refine ⟨th hb0 hb1, none, 0, 0, none, 0, 0, [], [], 1, rfl, Sl.nil_ _, Sl.nil_ _, ?_⟩
    unfold AllZ
    exact .inl ⟨H1.out, rfl, rfl, rfl⟩
  · have H1 := hide h1
    have H2 := hide h2
    clear h1 h2
    go_wp2_with fail
    go_ret3
    refine ⟨th hb0 hb1, none, 0, 0, none, 0, 0, [], [], 2, rfl, Sl.nil_ _, Sl.nil_ _, ?_⟩
    unfold AllZ
    exact .inr (.inl ⟨H1.out, H2.out, rfl, rfl, rfl⟩)
  · have hd := h1.1.2.1
    dsimp only at hd
    obtain ⟨d, hq⟩ : ∃ d : Nat, q = (d : Int) := ⟨q.toNat, by omega⟩
    subst hq
    have hlk : Look w1 N d (.slice A n c) (.slice B m cb) := hlk
    have k1 := BX.out w1 hb1
    have ha1 := ha0.on entR_fine hb1
    have hh1 := hh0.on bytesR_fine hb1
    have H1 := hide h1
    have H2 := hide h2
    have HHL := hide hlk
    clear h1 h2 hlk
    go_wp2_with fail
    go_loopw [6, 7, 26] (fun v vb i wr => ∃ k : Nat, ∃ hs, k ≤ d + 1 ∧ i = .int .i64 k ∧ Ow hdrR 1 wr w1.heap.size 0 29 v k hs ∧ Ow boolR 1 wr w1.heap.size 0 4 vb k ((List.range k).map fun j => decide (knownL L H j ≠ [])) ∧ Hid (vb.ownBlock = none ∨ vb.ownBlock ≠ v.ownBlock) ∧ Hid (Els w1.heap.size wr v vb hs (knownL L H)) ∧ Below w1.heap.size w1 wr) (fun _ _ i _ => d + 1 - (intOf i).toNat)
    case atStart => exact ⟨0, [], by omega, rfl, Ow.nil_ _ _ _ _, Ow.nil_ _ _ _ _, hide (.inl rfl), hide (fun j h hj => by simp at hj), Below.refl _ _⟩
    case round =>
      obtain ⟨k, hs, hk, rfl, ho, hob, hdis, hels, hb⟩ := hrel
      obtain ⟨V0, c0, rfl⟩ := ho.form
      obtain ⟨Vb0, cb0, rfl⟩ := hob.form
      by_cases hlt : k < d + 1
      · have hkn := known_any (HHL.out.on hb) (ha1.on entR_fine hb) (hh1.on bytesR_fine hb) (by omega) H1.out.2 H2.out k (by omega)
        unfold KnownPost at hkn
        have hr : (List.range (k + 1)).map (fun j => decide (knownL L H j ≠ [])) = (List.range k).map (fun j => decide (knownL L H j ≠ [])) ++ [decide (knownL L H k ≠ [])] := by rw [List.range_succ, List.map_append]; rfl
        obtain ⟨D, hD⟩ : ∃ D, D = decide (knownL L H k ≠ []) := ⟨_, rfl⟩
        rw [← hD] at hkn hr
        have HR := hide hr
        have HKN := hide hkn
        clear hkn hr hD
        go_wp2_with fail
        refine HKN.out.mono ?_
        rintro e w2 ⟨hb2, V2, n2, c2, rfl, hs2⟩
        have hkl := ho.len
        have els2 : Els w1.heap.size w2 (.slice V0 k c0) (.slice Vb0 k cb0) (hs ++ [(V2, n2, c2)]) (knownL L H) :=
          (hels.out.below hb2).snoc (new_in (by rw [hkl]; exact hs2) hb.size (fun q hq => (ho.lt q hq).2) (fun q hq => (hob.lt q hq).2))
        have hb23 : Below wr.heap.size wr (w2.alloc (.cells #[.slice V2 n2 c2] 29)) := th hb2 (alloc_below _ _)
        have els3 := els2.below (alloc_below w2 (.cells #[.slice V2 n2 c2] 29))
        have ho3 := ho.below hdrR_fine hb23
        have hob3 := hob.below boolR_fine hb23
        have hbs3 : w1.heap.size ≤ (w2.alloc (.cells #[.slice V2 n2 c2] 29)).heap.size := Nat.le_trans hb.size hb23.size
        have hlit : Sl hdrR 1 (w2.alloc (.cells #[.slice V2 n2 c2] 29)) (fun _ => True) (some ⟨w2.heap.size, 0, none⟩) 1 1 [(V2, n2, c2)] := lit_plain (R := hdrR) rfl trivial
        have ELS := hide els3
        clear els2 els3 hels hs2
        go_wp2_with (first
          | (at_builtin; refine wpList_append_ow _ rfl (.tmp 35) (.tmp 37) _ rfl hdrR_fine w1.heap.size 0 29 i0 _ 24 Try.underlying27 hi0 hz0 hz1 hz2 rfl (by omega) (.slice V0 k c0) k hs rfl ho3 _ _ 1 1 _ rfl hlit (fun _ _ _ h => h) (by simp only [maxLen]; omega) (by omega) hbs3 ?_; intro V4 w4 ho4 hg4 hat4; have hob4 := bool_kept hob3 hg4 hdis.out; have els4 := ELS.out.grow_v hg4 hat4; have dis4 := dis_v hdis.out (fun q hq => (hob3.lt q hq).2) hat4; have hb4 : Below w1.heap.size w1 w4 := (hb.trans (hb23.mono hb.size)).trans (below_grown hg4 ho3.lt hbs3); have hb45 := alloc_below w4 (.cells #[.bool D] 4); have ho5 := ho4.below hdrR_fine hb45; have hob5 := hob4.below boolR_fine hb45; have els5 := els4.below hb45; have hb5 : Below w1.heap.size w1 (w4.alloc (.cells #[.bool D] 4)) := hb4.trans (hb45.mono hb4.size); have hlit2 : Sl boolR 1 (w4.alloc (.cells #[.bool D] 4)) (fun _ => True) (some ⟨w4.heap.size, 0, none⟩) 1 1 [D] := lit_plain (R := boolR) rfl trivial)
          | (at_builtin; refine wpList_append_ow _ rfl (.tmp 39) (.tmp 41) _ rfl boolR_fine w1.heap.size 0 4 j0 _ 1 Try.underlying53 hj0 hy0 hy1 hy2 rfl (by omega) (.slice Vb0 k cb0) k _ rfl hob5 _ _ 1 1 _ rfl hlit2 (fun _ _ _ h => h) (by simp only [maxLen]; omega) (by omega) hb5.size ?_; intro V6 w6 ho6 hg6 hat6; have ho7 := hdr_kept ho5 hg6 (dis_flip dis4); have els6 := els5.grow_b hg6 hat6; have dis6 := dis_flip (dis_v (dis_flip dis4) (fun q hq => (ho5.lt q hq).2) hat6); have hb6 := hb5.trans (below_grown hg6 hob5.lt hb5.size)))
        rw [← HR.out] at ho6
        go_roundw
        case rel => exact ⟨k + 1, _, by omega, by go_num, ho7, ho6, hide dis6, hide els6, hb6⟩
        case measure => simp [intOf]; omega
      · obtain rfl : k = d + 1 := by omega
        go_wp2_with fail
        go_ret3
        refine ⟨th hb0 (th hb1 hb), V0, d + 1, c0, Vb0, d + 1, cb0, _, _, 0, rfl, hels.out.rowsN (th hb0 hb1).size ((hdr_lo (lo' := w1.heap.size) ho).new_ hdrR_fine (th hb0 hb1).size (th hb0 hb1).size), (bool_lo (lo' := w1.heap.size) hob).new_ boolR_fine (th hb0 hb1).size (th hb0 hb1).size, ?_⟩
        unfold AllZ
        exact .inr (.inr ⟨H1.out, H2.out, rfl, rfl, rfl⟩)

theorem zall_any (A B : Option Addr) (n c m cb : Nat) (L : List Ent) (H : List (List UInt8)) (g : Geo) (w : World) (ha : Sl entR 3 w (Old w) A n c L) (hh : Rs w B m cb H) (hn : n ≤ 65536) (hm : m ≤ 65536) :
    Calls Try.prog 27 #[g.v, .agg #[.slice A n c], .slice B m cb] w (AllPost w g L H) := by
  refine (zall_new A B n c m cb L H g w ha hh hn hm).mono ?_
  rintro e w' ⟨hb, V, nv, cv, V', nv', cv', l, ks, err, rfl, hs, hs', hq⟩
  exact ⟨hb, V, nv, cv, V', nv', cv', l, ks, err, rfl, hs.old_ bytesR_fine, hs'.old_ boolR_fine, hq⟩

end Go.Proofs.Ytikjhcfalofgaaa
