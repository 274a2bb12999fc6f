/-
  Contract: casemateref08.Written.
-/
import Derived.Test.YtikjhcfalofgaaaLawS1
import Derived.Test.YtikjhcfalofgaaaZKnow
import Derived.Test.YtikjhcfalofgaaaRefTwo
namespace Go.Proofs.Ytikjhcfalofgaaa
open Go.RowKit Go.Lib
set_option linter.unusedVariables false
set_option maxRecDepth 100000

/-- What stays of a world while only the blocks X are stored into. -/
structure Kept (w W5 : World) (X : Nat → Prop) (wr : World) : Prop where
  dom : ∀ b, b < W5.heap.size → ¬ X b → wr.heap[b]? = W5.heap[b]?
  bel : Below w.heap.size w wr
  big : W5.heap.size ≤ wr.heap.size
section
variable {w W5 wr wr' : World} {X : Nat → Prop}
theorem Kept.refl (hb : Below w.heap.size w W5) : Kept w W5 X W5 := ⟨fun _ _ _ => rfl, hb, Nat.le_refl _⟩
theorem Kept.on (h : Kept w W5 X wr) (hb : Below wr.heap.size wr wr') : Kept w W5 X wr' :=
  ⟨fun b h1 h2 => (hb.block b (Nat.lt_of_lt_of_le h1 h.big)).trans (h.dom b h1 h2), th h.bel hb, Nat.le_trans h.big hb.size⟩
theorem Kept.put (h : Kept w W5 X wr) (p : Addr) (v : Value) (hp : X p.block) (hw : w.heap.size ≤ p.block) : Kept w W5 X (wr.setCell p v) :=
  ⟨fun b h1 h2 => (put_blk _ _ _ _ (fun e => h2 (by rw [e]; exact hp))).trans (h.dom b h1 h2), h.bel.setCell hw _, by rw [set_size]; exact h.big⟩
theorem Kept.cell (h : Kept w W5 X wr) {p : Addr} {v : Value} (hc : W5.cell? p = some v) (hp : p.block < W5.heap.size) (hX : ¬ X p.block) : wr.cell? p = some v :=
  (World.cell?_of_block (h.dom _ hp hX)).trans hc
theorem Kept.free (h : Kept w W5 X wr) {p : Addr} (hc : W5.frozen? p = false) (hp : p.block < W5.heap.size) (hX : ¬ X p.block) : wr.frozen? p = false :=
  (World.frozen?_of_block (h.dom _ hp hX)).trans hc
end

/-- What was met of a block, and what its entry is by then. -/
def HitR (L : List Ent) (H : List (List UInt8)) (ats : List Int) (bl : List (List UInt8)) (s : Int) (k j : Nat) (l : List UInt8) (M : List Ent) : Prop :=
  ((k : Int) ∉ ats.take j ∧ l = knownL L H k ∧ M = mixE L H ats bl s k) ∨ (∃ t, t < j ∧ ats[t]? = some (k : Int) ∧ bl[t]? = some l ∧ M = (mixE L H ats bl s k).set k ⟨s, crc l, false⟩)
section
variable {L M : List Ent} {H : List (List UInt8)} {ats : List Int} {bl : List (List UInt8)} {l b : List UInt8} {s a : Int} {d k j : Nat}
theorem hitr_zero : HitR L H ats bl s k 0 (knownL L H k) (mixE L H ats bl s k) := .inl ⟨by simp, rfl, rfl⟩
theorem hitr_here (hA : AtsOk (d : Int) ats) (hq : HitR L H ats bl s k j l M) (ha : ats[j]? = some a) (hb : bl[j]? = some b) (h : a = (k : Int)) : M = mixE L H ats bl s k ∧ HitR L H ats bl s k (j + 1) b ((mixE L H ats bl s k).set k ⟨s, crc b, false⟩) := by
  rcases hq with ⟨_, _, h3⟩ | ⟨t, h2, h3, _, _⟩
  · exact ⟨h3, .inr ⟨j, by omega, by rw [ha, h], hb, rfl⟩⟩
  · have := ats_inj hA h3 (by rw [ha, h])
    omega
theorem hitr_on (hq : HitR L H ats bl s k j l M) (ha : ats[j]? = some a) (h : a ≠ (k : Int)) : HitR L H ats bl s k (j + 1) l M := by
  rcases hq with ⟨h1, h2, h3⟩ | ⟨t, h2, h3, h4, h5⟩
  · refine .inl ⟨fun hm => ?_, h2, h3⟩
    obtain ⟨h5, e5⟩ := List.getElem?_eq_some_iff.1 ha
    rw [List.take_succ_eq_append_getElem h5, e5] at hm
    rcases List.mem_append.1 hm with h6 | h6
    · exact h1 h6
    · simp at h6
      exact h h6.symm
  · exact .inr ⟨t, by omega, h3, h4, h5⟩
/-- At the end of the places: the block, its entry; nothing is lost. -/
theorem hitr_end (hA : AtsOk (d : Int) ats) (hL : k < L.length) (h8 : ∀ x ∈ bl, x.length = 8) (hq : HitR L H ats bl s k ats.length l M) :
    l = nowB L H ats bl k ∧ (l = [] → ∃ e, M[k]? = some e ∧ M.set k { e with lost := true } = mixE L H ats bl s (k + 1)) ∧ (l ≠ [] → M = mixE L H ats bl s (k + 1)) := by
  rcases hq with ⟨h1, h2, h3⟩ | ⟨t, h2, h3, h4, h5⟩
  · rw [List.take_length] at h1
    obtain ⟨hnw, hne⟩ := now_out (L := L) (H := H) (s := s) (blkOf_none bl h1)
    subst h2
    subst h3
    refine ⟨hnw.symm, fun h => ⟨entN L k, mix_at hL, ?_⟩, fun h => ?_⟩
    · rw [if_pos h] at hne
      rw [← hne]
      exact mix_succ hL
    · rw [if_neg h] at hne
      exact mix_same hL hne
  · have hbo := blkOf_at hA h3 h4
    obtain ⟨hnw, hne⟩ := now_in (L := L) (H := H) (s := s) hbo
    refine ⟨hnw.symm, fun h => ?_, fun _ => ?_⟩
    · have := h8 l (List.mem_of_getElem? h4)
      subst h
      cases this
    · rw [h5, ← hne]
      exact mix_succ hL
end

theorem hitr_len {L M : List Ent} {H : List (List UInt8)} {ats : List Int} {bl : List (List UInt8)} {l : List UInt8} {s : Int} {d k j : Nat} (hH : HadOk (d : Int) H) (h8 : ∀ x ∈ bl, x.length = 8) (hq : HitR L H ats bl s k j l M) : l.length = 0 ∨ l.length = 8 := by
  rcases hq with ⟨_, rfl, _⟩ | ⟨t, _, _, h4, _⟩
  · exact known_len hH k
  · exact .inr (h8 l (List.mem_of_getElem? h4))

set_option maxHeartbeats 4000000 in
theorem rwritten_any {g : Geo} {d : Nat} (hG : GeoOk g) (hd : g.data = (d : Int)) {A B C E : Option Addr} {n c m cb q cq p cp : Nat} {L : List Ent} {H : List (List UInt8)} {ats : List Int} {bl : List (List UInt8)} (s : Int) {w : World}
    (ha : Sl entR 3 w (Old w) A n c L) (hh : Rs w B m cb H) (hc : Is w C q cq ats) (hb : Rs w E p cp bl) (hT : TabOk g.data L) (hH : HadOk g.data H) (hA : AtsOk g.data ats) (hl : bl.length = ats.length) (h8 : ∀ x ∈ bl, x.length = 8) (hs : NumOk s) :
    Calls Try.prog 23 #[g.v, .agg #[.slice A n c], .slice B m cb, .slice C q cq, .slice E p cp, .int .i64 s] w fun e w' => ∃ V cv P cP, e = .returned (.tuple #[.agg #[.slice V (d + 1) cv], .slice P 8 cP]) ∧
      Sl entR 3 w' (Old w') V (d + 1) cv (wrT L H ats bl s d) ∧ Sl byteR 1 w' (Old w') P 8 cP (parN L H ats bl d) ∧ Below w.heap.size w w' := by
  obtain ⟨j0, hj0, hy0, hy1, hy2⟩ := info_parts u8_info
  obtain ⟨gz, gd, gs, gl, ga⟩ := g
  dsimp only at hd
  subst hd
  dsimp only at hT hH hA
  have hd4 := hG.2.1
  dsimp only at hd4
  have hn : n = d + 1 := by have h1 := ha.len; have h2 := hT.1; omega
  have hm : m = d + 1 := by have h1 := hh.len; have h2 := hH.1; omega
  have hqd : q ≤ d := by have h1 := hc.len; have h2 := ats_len hA; omega
  have hpq : p = q := by have h1 := hc.len; have h2 := hb.len; omega
  subst hn
  subst hm
  subst hpq
  have hLl : L.length = d + 1 := ha.len
  have hlc := hc.len
  obtain ⟨hsl, hsm⟩ := hs
  have hmk : ∀ W, (Instr.makeSlice 29 (.int .i64 8) (.int .i64 8)).run Try.prog W = .ok (.slice (some ⟨W.heap.size, 0, none⟩) 8 8) (W.alloc (.cells (madeCells #[.int .u8 0] 8) 5)) := fun W => run_make_all (P := Try.prog) 29 5 j0 _ 1 1 Try.underlying29 hj0 hy0 hy1 hy2 .i64 .i64 8 (by omega) (by omega) W
  have hkn := fun (k : Nat) (hk : k < d) w ha hh => rknown_any (A := A) (B := B) (n := d + 1) (c := c) (m := d + 1) (cb := cb) (L := L) (H := H) (w := w) hG ha hh hT hH k (by show (k : Int) ≤ (d : Int); omega)
  unfold RKnown at hkn
  have htw := fun w ha => twintable_any A (d + 1) c L w ha (by omega)
  obtain ⟨W0, hW0⟩ : ∃ W0, W0 = ((w.alloc (.cells #[.int .i64 gz, .int .i64 d, .int .i64 gs, .int .i64 gl, .int .i64 ga] 23)).alloc (.cells #[.slice A (d + 1) c] 26)).alloc (.cells #[.slice none 0 0] 26) := ⟨_, rfl⟩
  have hb0 : Below w.heap.size w W0 := by rw [hW0]; exact ((alloc_below w _).alloc (by simp) _).alloc (by simp; omega) _
  have hN0 : W0.heap.size = w.heap.size + 3 := by rw [hW0]; simp
  have hx : ∀ W, Below W0.heap.size W0 W → (W.cell? ⟨w.heap.size, 0, none⟩ = some (.int .i64 gz) ∧ W.cell? ⟨w.heap.size, 1, none⟩ = some (.int .i64 (d : Int)) ∧ W.cell? ⟨w.heap.size, 2, none⟩ = some (.int .i64 gs) ∧ W.cell? ⟨w.heap.size, 3, none⟩ = some (.int .i64 gl) ∧ W.cell? ⟨w.heap.size, 4, none⟩ = some (.int .i64 ga)) ∧ W.cell? ⟨w.heap.size + 1, 0, none⟩ = some (.slice A (d + 1) c) ∧ W.cell? ⟨w.heap.size + 1 + 1, 0, none⟩ = some (.slice none 0 0) ∧ W.frozen? ⟨w.heap.size + 1 + 1, 0, none⟩ = false := fun W hW => by
    have h1 : Below (w.alloc (.cells #[.int .i64 gz, .int .i64 d, .int .i64 gs, .int .i64 gl, .int .i64 ga] 23)).heap.size (w.alloc (.cells #[.int .i64 gz, .int .i64 d, .int .i64 gs, .int .i64 gl, .int .i64 ga] 23)) W0 := by rw [hW0]; exact (alloc_below _ _).alloc (by simp) _
    have h3 := th h1 hW
    have h2 : W0.cell? ⟨w.heap.size + 1, 0, none⟩ = some (.slice A (d + 1) c) := by
      rw [hW0]
      refine ((alloc_below _ _).cell (by simp)).trans ?_
      simp
    refine ⟨⟨box_cell h3 0 _ rfl, box_cell h3 1 _ rfl, box_cell h3 2 _ rfl, box_cell h3 3 _ rfl, box_cell h3 4 _ rfl⟩, (hW.cell (by show w.heap.size + 1 < _; omega)).trans h2, ?_, ?_⟩
    · subst hW0
      have := box_cell hW 0 _ rfl
      simpa using this
    · subst hW0
      have := box_free hW 0
      simpa using this
  have HX := hide hx
  have HN0 := hide hN0
  have HKN := hide hkn
  have HTW := hide htw
  have HMK := hide hmk
  have HLL := hide hLl
  have HLC := hide hlc
  have HHH := hide hH
  have HH8 := hide h8
  have HHA := hide hA
  have ha0 := ha.on entR_fine hb0
  have hh0 := hh.on bytesR_fine hb0
  obtain ⟨⟨p0, p1, p2, p3, p4⟩, pt, _⟩ := hx W0 (Below.refl _ _)
  rw [hW0] at p0 p1 p2 p3 p4 pt
  clear hkn htw hmk hx hN0 hLl hlc hH h8 hA hl hT hG
  unfold Geo.v at *
  go_enter Try.func23, Try.ntmps23
  go_wp2_with fail
  rw [← hW0]
  clear p0 p1 p2 p3 p4 pt hW0
  refine (HTW.out _ ha0).mono ?_
  rintro e w3 ⟨A3, c3, rfl, ho3, hb3⟩
  obtain ⟨g3, x3, rfl, hg3, hgl3, _, _, _, _, _, _⟩ := ent_spot ho3 (show 0 < d + 1 by omega)
  obtain ⟨W4, hW4⟩ : ∃ W4, W4 = w3.alloc (.cells #[.slice (some ⟨g3, 0, none⟩) (d + 1) c3] 26) := ⟨_, rfl⟩
  obtain ⟨W5, hW5⟩ : ∃ W5, W5 = W4.alloc (.cells (madeCells #[.int .u8 0] 8) 5) := ⟨_, rfl⟩
  have hE4 : Below w3.heap.size w3 W4 := by rw [hW4]; exact alloc_below _ _
  have hE5 : Below W4.heap.size W4 W5 := by rw [hW5]; exact alloc_below _ _
  have hb35 := th hE4 hE5
  have hs4 : W4.heap.size = w3.heap.size + 1 := by rw [hW4]; simp
  have hs5 : W5.heap.size = w3.heap.size + 1 + 1 := by rw [hW5]; simp [hs4]
  have ho5 := ho3.below entR_fine hb35
  have hmz : Sl byteR 1 W5 (New W4.heap.size W5) (some ⟨w3.heap.size + 1, 0, none⟩) 8 8 zero8 := by
    have h := (made_zero W4 5 8 (by omega)).new_ byteR_fine (Nat.le_refl _) (Nat.le_refl _)
    rw [← hW5, hs4] at h
    rw [hs4]
    exact h
  have hnx : ∀ W, Below W5.heap.size W5 W → W.cell? ⟨w3.heap.size, 0, none⟩ = some (.slice (some ⟨g3, 0, none⟩) (d + 1) c3) := fun W hW => by
    have h := th hE5 hW
    subst hW4
    exact box_cell h 0 _ rfl
  have hK5 : Kept w W5 (fun b => b = g3) W5 := Kept.refl (th hb0 (th hb3 hb35))
  have hsz := hb3.size
  have hN0 := HN0.out
  have HSZ := hide (show w.heap.size + 3 ≤ g3 ∧ g3 < w3.heap.size ∧ W4.heap.size = w3.heap.size + 1 ∧ W5.heap.size = w3.heap.size + 1 + 1 ∧ w.heap.size + 3 ≤ w3.heap.size by omega)
  have hx5 := HX.out W5 (th hb3 hb35)
  have hn5 := hnx W5 (Below.refl _ _)
  have HC : Hid (∀ wr, Kept w W5 (fun b => b = g3) wr → (wr.cell? ⟨w.heap.size, 0, none⟩ = some (.int .i64 gz) ∧ wr.cell? ⟨w.heap.size, 1, none⟩ = some (.int .i64 (d : Int)) ∧ wr.cell? ⟨w.heap.size, 2, none⟩ = some (.int .i64 gs) ∧ wr.cell? ⟨w.heap.size, 3, none⟩ = some (.int .i64 gl) ∧ wr.cell? ⟨w.heap.size, 4, none⟩ = some (.int .i64 ga)) ∧ wr.cell? ⟨w.heap.size + 1, 0, none⟩ = some (.slice A (d + 1) c) ∧ (wr.cell? ⟨w.heap.size + 1 + 1, 0, none⟩ = some (.slice none 0 0) ∧ wr.frozen? ⟨w.heap.size + 1 + 1, 0, none⟩ = false) ∧ wr.cell? ⟨w3.heap.size, 0, none⟩ = some (.slice (some ⟨g3, 0, none⟩) (d + 1) c3)) := hide fun wr hk => by
    obtain ⟨⟨a0, a1, a2, a3, a4⟩, a5, a6, a7⟩ := hx5
    have hz := HSZ.out
    exact ⟨⟨hk.cell a0 (by show w.heap.size < _; omega) (by show ¬ w.heap.size = g3; omega), hk.cell a1 (by show w.heap.size < _; omega) (by show ¬ w.heap.size = g3; omega), hk.cell a2 (by show w.heap.size < _; omega) (by show ¬ w.heap.size = g3; omega), hk.cell a3 (by show w.heap.size < _; omega) (by show ¬ w.heap.size = g3; omega), hk.cell a4 (by show w.heap.size < _; omega) (by show ¬ w.heap.size = g3; omega)⟩,
      hk.cell a5 (by show w.heap.size + 1 < _; omega) (by show ¬ w.heap.size + 1 = g3; omega), ⟨hk.cell a6 (by show w.heap.size + 1 + 1 < _; omega) (by show ¬ w.heap.size + 1 + 1 = g3; omega), hk.free a7 (by show w.heap.size + 1 + 1 < _; omega) (by show ¬ w.heap.size + 1 + 1 = g3; omega)⟩, hk.cell hn5 (by show w3.heap.size < _; omega) (by show ¬ w3.heap.size = g3; omega)⟩
  have hmk5 := HMK.out W4
  rw [hs4, hW4] at hmk5
  have hE5' := hW5
  rw [hW4] at hE5'
  clear hx5 hn5 hnx hsz hN0 hg3 hgl3
  go_wp2_with fail
  rw [← hE5']
  clear hE5' hW4 hW5 hmk5
  have hOE : ∀ {W : World} {M : List Ent}, Ow entR 3 W W0.heap.size W0.heap.size 61 (.slice (some ⟨g3, 0, none⟩) (d + 1) c3) (d + 1) M → ∀ k, k < d + 1 → ∃ x, M[k]? = some x ∧ (W.cell? ⟨g3, k * 3, none⟩ = some (.int .i64 x.stamp) ∧ W.cell? ⟨g3, k * 3 + 1, none⟩ = some (.int .i64 x.sum) ∧ W.cell? ⟨g3, k * 3 + 2, none⟩ = some (.bool x.lost)) ∧ (∀ j, W.frozen? ⟨g3, j, none⟩ = false) ∧ Ow entR 3 (W.setCell ⟨g3, k * 3 + 2, none⟩ (.bool true)) W0.heap.size W0.heap.size 61 (.slice (some ⟨g3, 0, none⟩) (d + 1) c3) (d + 1) (M.set k { x with lost := true }) := fun h k hk => by
    obtain ⟨gq, x, eq, _, _, hx, hcq, hfq, _, _, hs2⟩ := ent_spot h hk
    injection eq with eq
    injection eq with eq
    subst eq
    exact ⟨x, hx, hcq, hfq, hs2 true⟩
  have HOE := @hOE
  clear hOE
  go_loopw [15, 16] (fun v i wr => ∃ k : Nat, ∃ P cP, k ≤ d ∧ i = .int .i64 k ∧ v = .slice P 8 cP ∧ Sl byteR 1 wr (New W4.heap.size wr) P 8 cP (zxs zero8 (stayL L H ats bl k)) ∧ Ow entR 3 wr W0.heap.size W0.heap.size 61 (.slice (some ⟨g3, 0, none⟩) (d + 1) c3) (d + 1) (mixE L H ats bl s k) ∧ Kept w W5 (fun b => b = g3) wr) (fun _ i _ => d - (RowKit.intOf i).toNat)
  case atStart => exact ⟨0, some ⟨w3.heap.size + 1, 0, none⟩, 8, Nat.zero_le _, rfl, rfl, hmz, by rw [mix_zero]; exact ho5, hK5⟩
  case round =>
    obtain ⟨k, P, cP, hk, rfl, rfl, hpar, hot, hkp⟩ := hrel
    obtain ⟨wo, rfl⟩ : ∃ wo : World, wo = wr := ⟨_, rfl⟩
    have HKP := hide hkp
    clear hkp
    obtain ⟨⟨p0, p1, p2, p3, p4⟩, pt, ⟨pr, pf⟩, pn⟩ := HC.out wo HKP.out
    by_cases hlt : k < d
    · have hlI : (k : Int) < (d : Int) := by omega
      have k0 : (0 : Int) ≤ (k : Int) := by omega
      have kd1 : (k : Int) < (d : Int) + 1 := by omega
      obtain ⟨par, hpe⟩ : ∃ par, par = zxs zero8 (stayL L H ats bl k) := ⟨_, rfl⟩
      rw [← hpe] at hpar
      have HPE := hide hpe
      have HKK := hide (HKN.out k hlt wo (ha.on entR_fine HKP.out.bel) (hh.on bytesR_fine HKP.out.bel))
      clear hpe
      go_wp2_with fail
      refine HKK.out.mono ?_
      rintro e w7 ⟨hb7, V7, n7, c7, rfl, hs7⟩
      have hpar7 := hpar.new_on byteR_fine hb7
      have hot7 := hot.below entR_fine hb7
      have hkp7 := HKP.out.on hb7
      clear p0 p1 p2 p3 p4 pt pr pf pn
      go_wp2_with fail
      go_loopw [17, 18] (fun u i wr => ∃ j : Nat, ∃ A' n' c' l M, j ≤ p ∧ i = .int .i64 j ∧ u = .slice A' n' c' ∧ Sl byteR 1 wr (Old wr) A' n' c' l ∧ Hid (HitR L H ats bl s k j l M) ∧ Ow entR 3 wr W0.heap.size W0.heap.size 61 (.slice (some ⟨g3, 0, none⟩) (d + 1) c3) (d + 1) M ∧ Kept w W5 (fun b => b = g3) wr ∧ Sl byteR 1 wr (New W4.heap.size wr) P 8 cP par) (fun _ i _ => p - (RowKit.intOf i).toNat)
      case atStart => exact ⟨0, V7, n7, c7, _, _, Nat.zero_le _, rfl, rfl, hs7, hide hitr_zero, hot7, hkp7, hpar7⟩
      case round =>
        obtain ⟨j, A', n', c', l, M, hj, rfl, rfl, hsl', hhit, hoi, hki, hpi⟩ := hrel
        have HKI := hide hki
        clear hki
        obtain ⟨⟨p0, p1, p2, p3, p4⟩, pt, ⟨pr, pf⟩, pn⟩ := HC.out wr HKI.out
        by_cases hltj : j < p
        · have jI : (j : Int) < (p : Int) := by omega
          have j0 : (0 : Int) ≤ (j : Int) := by omega
          obtain ⟨ad, a, rfl, hadl, haj, hai, hac⟩ := at_int (hc.on intR_fine HKI.out.bel) hltj
          by_cases hak : a = (k : Int)
          · obtain ⟨ed, b, A2, n2, c2, rfl, hedl, hbj, hbs, hbc⟩ := at_row hb hltj
            have hb8 : b.length = 8 := HH8.out b (List.mem_of_getElem? hbj)
            obtain rfl : n2 = 8 := by have := hbs.len; omega
            obtain ⟨rfl, hh2⟩ := hitr_here HHA.out hhit.out haj hbj hak
            have e1 : (a == (k : Int)) = true := by simpa using hak
            have hbw : wr.cell? (ed.add j) = some (.slice A2 8 c2) := below_cell HKI.out.bel hedl hbc
            have hmk2 := fun w hb => entry8_any (A := A2) (n := 8) (c := c2) (l := b) (w := w) s hb (by omega)
            unfold Ent.v at hmk2
            dsimp only at hmk2
            obtain ⟨cb8, hcb8⟩ : ∃ z : Nat, z = crc b := ⟨_, rfl⟩
            have hcl : cb8 < 4294967296 := by rw [hcb8]; exact crc_lt b
            rw [← hcb8] at hmk2 hh2
            have HMK2 := hide hmk2
            have HH2 := hide hh2
            have HS : Hid (∀ W, Below wr.heap.size wr W → W.cell? ⟨w3.heap.size, 0, none⟩ = some (.slice (some ⟨g3, 0, none⟩) (d + 1) c3)) := hide fun W hW => (HC.out W (HKI.out.on hW)).2.2.2
            have HE : Hid (∀ W, Below wr.heap.size wr W → (∃ x : Ent, W.cell? ⟨g3, k * 3, none⟩ = some (.int .i64 x.stamp) ∧ W.cell? ⟨g3, k * 3 + 1, none⟩ = some (.int .i64 x.sum) ∧ W.cell? ⟨g3, k * 3 + 2, none⟩ = some (.bool x.lost)) ∧ ∀ j, W.frozen? ⟨g3, j, none⟩ = false) := hide fun W hW => by
              obtain ⟨x, _, hc1, hf1, _⟩ := HOE (hoi.below entR_fine hW) k (by omega)
              exact ⟨⟨x, hc1⟩, hf1⟩
            have HBB := hide fun W (hW : Below wr.heap.size wr W) => (hbs.on byteR_fine (HKI.out.bel.trans (hW.mono HKI.out.bel.size)))
            have hcur := Below.refl wr.heap.size wr
            have HFIN : Hid (∀ w6, Below wr.heap.size wr w6 → Sl byteR 1 (((w6.setCell ⟨g3, k * 3, none⟩ (.int .i64 s)).setCell ⟨g3, k * 3 + 1, none⟩ (.int .i64 cb8)).setCell ⟨g3, k * 3 + 2, none⟩ (.bool false)) (Old (((w6.setCell ⟨g3, k * 3, none⟩ (.int .i64 s)).setCell ⟨g3, k * 3 + 1, none⟩ (.int .i64 cb8)).setCell ⟨g3, k * 3 + 2, none⟩ (.bool false))) A2 8 c2 b ∧ Ow entR 3 (((w6.setCell ⟨g3, k * 3, none⟩ (.int .i64 s)).setCell ⟨g3, k * 3 + 1, none⟩ (.int .i64 cb8)).setCell ⟨g3, k * 3 + 2, none⟩ (.bool false)) W0.heap.size W0.heap.size 61 (.slice (some ⟨g3, 0, none⟩) (d + 1) c3) (d + 1) ((mixE L H ats bl s k).set k ⟨s, cb8, false⟩) ∧ Kept w W5 (fun b => b = g3) (((w6.setCell ⟨g3, k * 3, none⟩ (.int .i64 s)).setCell ⟨g3, k * 3 + 1, none⟩ (.int .i64 cb8)).setCell ⟨g3, k * 3 + 2, none⟩ (.bool false)) ∧ Sl byteR 1 (((w6.setCell ⟨g3, k * 3, none⟩ (.int .i64 s)).setCell ⟨g3, k * 3 + 1, none⟩ (.int .i64 cb8)).setCell ⟨g3, k * 3 + 2, none⟩ (.bool false)) (New W4.heap.size (((w6.setCell ⟨g3, k * 3, none⟩ (.int .i64 s)).setCell ⟨g3, k * 3 + 1, none⟩ (.int .i64 cb8)).setCell ⟨g3, k * 3 + 2, none⟩ (.bool false))) P 8 cP par) := hide fun w6 h6 => by
              have hz := HSZ.out
              have hk6 := (((HKI.out.on h6).put ⟨g3, k * 3, none⟩ (.int .i64 s) rfl (by show w.heap.size ≤ g3; omega)).put ⟨g3, k * 3 + 1, none⟩ (.int .i64 cb8) rfl (by show w.heap.size ≤ g3; omega)).put ⟨g3, k * 3 + 2, none⟩ (.bool false) rfl (by show w.heap.size ≤ g3; omega)
              refine ⟨hbs.on byteR_fine hk6.bel, ent_three (hoi.below entR_fine h6) (show k < d + 1 by omega) ⟨s, cb8, false⟩ ⟨by show -9223372036854775808 ≤ s; omega, by show s ≤ 9223372036854775807; omega⟩ ⟨by show -9223372036854775808 ≤ (cb8 : Int); omega, by show (cb8 : Int) ≤ 9223372036854775807; omega⟩, hk6, ?_⟩
              exact (((hpi.new_on byteR_fine h6).new_set byteR_fine _ _ (by show g3 < _; omega)).new_set byteR_fine _ _ (by show g3 < _; omega)).new_set byteR_fine _ _ (by show g3 < _; omega)
            have HS3 : Hid (∀ W, Below wr.heap.size wr W → (((W.setCell ⟨g3, k * 3, none⟩ (.int .i64 s)).setCell ⟨g3, k * 3 + 1, none⟩ (.int .i64 cb8)).setCell ⟨g3, k * 3 + 2, none⟩ (.bool false)).cell? ⟨w3.heap.size, 0, none⟩ = some (.slice (some ⟨g3, 0, none⟩) (d + 1) c3)) := hide fun W hW => by
              have h1 := HS.out W hW
              have hz := HSZ.out
              have n1 : w3.heap.size ≠ g3 := by omega
              exact put_far n1 (put_far n1 (put_far n1 h1))
            clear hmk2 hh2 hhit haj hbj hak hb8 hcb8 hbs hbc p0 p1 p2 p3 p4 pt pr pf
            go_wp2_with fail
            go_region_held3 (fun W => W.cell? ⟨w3.heap.size, 0, none⟩ = some (.slice (some ⟨g3, 0, none⟩) (d + 1) c3)) (first | exact HS.out _ hcur | exact HS.out _ hcur.drew | exact HS3.out _ hcur | exact HS3.out _ hcur.drew) ((go_at_call 44; (with_reducible refine (HMK2.out _ (HBB.out _ (by first | exact hcur | exact hcur.drew))).mono ?_); rintro e wA ⟨rfl, hzz⟩; have hcur := th (by first | exact hcur | exact hcur.drew) hzz; obtain ⟨⟨xq, v0, v1, v2⟩, hvf⟩ := HE.out _ hcur; have f0 := hvf (k * 3); have f1 := hvf (k * 3 + 1); have f2 := hvf (k * 3 + 2)))
            all_goals
              go_wp2_with fail
              go_roundw
              case rel =>
                first
                  | (obtain ⟨r1, r2, r3, r4⟩ := HFIN.out _ hcur; exact ⟨j + 1, A2, 8, c2, b, _, by omega, by go_num, rfl, r1, HH2, r2, r3, r4⟩)
                  | (obtain ⟨r1, r2, r3, r4⟩ := HFIN.out _ hcur.drew; exact ⟨j + 1, A2, 8, c2, b, _, by omega, by go_num, rfl, r1, HH2, r2, r3, r4⟩)
              case measure => (first | omega | (simp [RowKit.intOf]; omega) | (unfold RowKit.intOf; simp; omega) | go_num)
          · have HH2 := hide (hitr_on hhit.out haj hak)
            have e1 : (a == (k : Int)) = false := by simpa using hak
            clear hhit haj hak p0 p1 p2 p3 p4 pt pr pf pn
            go_wp2_with fail
            go_roundw
            case rel => exact ⟨j + 1, A', n', c', l, M, by omega, by go_num, rfl, hsl', HH2, hoi, HKI.out, hpi⟩
            case measure => (first | omega | (simp [RowKit.intOf]; omega) | (unfold RowKit.intOf; simp; omega) | go_num)
        · obtain rfl : j = p := by omega
          obtain ⟨hln, hle, hlf⟩ := hitr_end (k := k) HHA.out (by rw [HLL.out]; omega) HH8.out (by rw [HLC.out]; exact hhit.out)
          have hl08 := hitr_len HHH.out HH8.out hhit.out
          have hss := stay_succ L H ats bl k
          rw [← hln] at hss
          have hn'l := hsl'.len
          clear p0 p1 p2 p3 p4 pt pr pf
          by_cases hl0 : l = []
          · obtain ⟨x, hx1, hx2⟩ := hle hl0
            obtain ⟨x', hx', ⟨u0, u1, u2⟩, uf, ust⟩ := HOE hoi k (by omega)
            rw [hx1] at hx'
            injection hx' with hx'
            subst hx'
            rw [hx2] at ust
            have f2 := uf (k * 3 + 2)
            rw [if_pos hl0, List.append_nil] at hss
            obtain rfl : n' = 0 := by rw [← hn'l, hl0]; rfl
            have hz := HSZ.out
            have hkf := HKI.out.put ⟨g3, k * 3 + 2, none⟩ (.bool true) rfl (by show w.heap.size ≤ g3; omega)
            have hpf := hpi.new_set byteR_fine ⟨g3, k * 3 + 2, none⟩ (.bool true) (by show g3 < _; omega)
            have HR := hide (And.intro hpf (And.intro ust hkf))
            have HSS := hide hss
            clear hss hle hlf hln hl08 hn'l hx1 hx2 hl0 uf u0 u1 hpf ust hkf hz hhit
            go_wp2_with fail
            obtain ⟨r1, r2, r3⟩ := HR.out
            go_roundw
            case rel => exact ⟨k + 1, P, cP, by omega, by go_num, rfl, by rw [HSS.out, ← HPE.out]; exact r1, r2, r3⟩
            case measure => (first | omega | (simp [RowKit.intOf]; omega) | (unfold RowKit.intOf; simp; omega) | go_num)
          · have hl8 : l.length = 8 := by rcases hl08 with h | h; exact absurd (List.eq_nil_of_length_eq_zero h) hl0; exact h
            obtain rfl : n' = 8 := by omega
            rw [if_neg hl0] at hss
            have hM := hlf hl0
            have HTWO := hide (rtwo_any P A' 8 cP 8 c' par l wr (hpi.old_ byteR_fine) hsl' (by omega) rfl)
            have hpz : zx par l = zxs zero8 (stayL L H ats bl (k + 1)) := by rw [hss, zxs_snoc, ← HPE.out]
            have HPZ := hide hpz
            have HM := hide hM
            have hz := HSZ.out
            have hW4r : W4.heap.size ≤ wr.heap.size := by have := HKI.out.big; omega
            clear hss hle hlf hln hl08 hn'l hl0 hl8 hM hpz hz hhit
            go_wp2_with fail
            refine HTWO.out.mono ?_
            rintro e w9 ⟨V9, c9, rfl, ho9, hb9⟩
            have hr9 := ho9.new_ byteR_fine hW4r hW4r
            rw [HPZ.out] at hr9
            have hot9 := hoi.below entR_fine hb9
            rw [HM.out] at hot9
            go_wp2_with fail
            go_roundw
            case rel => exact ⟨k + 1, V9, c9, by omega, by go_num, rfl, hr9, hot9, HKI.out.on hb9⟩
            case measure => (first | omega | (simp [RowKit.intOf]; omega) | (unfold RowKit.intOf; simp; omega) | go_num)
    · obtain rfl : k = d := by omega
      obtain ⟨par, hpe⟩ : ∃ par, par = zxs zero8 (stayL L H ats bl k) := ⟨_, rfl⟩
      rw [← hpe] at hpar
      have hpp : par = parN L H ats bl k := hpe
      have hmk2 := fun w hb => entry8_any (A := P) (n := 8) (c := cP) (l := par) (w := w) s hb (by omega)
      unfold Ent.v at hmk2
      dsimp only at hmk2
      have hms := mix_last (L := L) (H := H) (ats := ats) (bl := bl) (s := s) (d := k) HLL.out
      rw [← hpp] at hms
      obtain ⟨cb8, hcb8⟩ : ∃ z : Nat, z = crc par := ⟨_, rfl⟩
      have hcl : cb8 < 4294967296 := by rw [hcb8]; exact crc_lt par
      rw [← hcb8] at hmk2 hms
      have HMK2 := hide hmk2
      have HMS := hide hms
      have HPP := hide hpp
      have HS : Hid (∀ W, Below wo.heap.size wo W → W.cell? ⟨w3.heap.size, 0, none⟩ = some (.slice (some ⟨g3, 0, none⟩) (k + 1) c3) ∧ W.cell? ⟨w.heap.size, 1, none⟩ = some (.int .i64 (k : Int))) := hide fun W hW => by
        have h := HC.out W (HKP.out.on hW)
        exact ⟨h.2.2.2, h.1.2.1⟩
      have HE : Hid (∀ W, Below wo.heap.size wo W → (∃ x : Ent, W.cell? ⟨g3, k * 3, none⟩ = some (.int .i64 x.stamp) ∧ W.cell? ⟨g3, k * 3 + 1, none⟩ = some (.int .i64 x.sum) ∧ W.cell? ⟨g3, k * 3 + 2, none⟩ = some (.bool x.lost)) ∧ ∀ j, W.frozen? ⟨g3, j, none⟩ = false) := hide fun W hW => by
        obtain ⟨x, _, hc1, hf1, _⟩ := HOE (hot.below entR_fine hW) k (by omega)
        exact ⟨⟨x, hc1⟩, hf1⟩
      have HBB := hide fun W (hW : Below wo.heap.size wo W) => ((hpar.old_ byteR_fine).on byteR_fine hW)
      have hcur := Below.refl wo.heap.size wo
      have HFIN : Hid (∀ w6, Below wo.heap.size wo w6 → Ow entR 3 (((w6.setCell ⟨g3, k * 3, none⟩ (.int .i64 s)).setCell ⟨g3, k * 3 + 1, none⟩ (.int .i64 cb8)).setCell ⟨g3, k * 3 + 2, none⟩ (.bool false)) W0.heap.size W0.heap.size 61 (.slice (some ⟨g3, 0, none⟩) (k + 1) c3) (k + 1) (wrT L H ats bl s k) ∧ Kept w W5 (fun b => b = g3) (((w6.setCell ⟨g3, k * 3, none⟩ (.int .i64 s)).setCell ⟨g3, k * 3 + 1, none⟩ (.int .i64 cb8)).setCell ⟨g3, k * 3 + 2, none⟩ (.bool false)) ∧ Sl byteR 1 (((w6.setCell ⟨g3, k * 3, none⟩ (.int .i64 s)).setCell ⟨g3, k * 3 + 1, none⟩ (.int .i64 cb8)).setCell ⟨g3, k * 3 + 2, none⟩ (.bool false)) (New W4.heap.size (((w6.setCell ⟨g3, k * 3, none⟩ (.int .i64 s)).setCell ⟨g3, k * 3 + 1, none⟩ (.int .i64 cb8)).setCell ⟨g3, k * 3 + 2, none⟩ (.bool false))) P 8 cP par) := hide fun w6 h6 => by
        have hz := HSZ.out
        have hk6 := (((HKP.out.on h6).put ⟨g3, k * 3, none⟩ (.int .i64 s) rfl (by show w.heap.size ≤ g3; omega)).put ⟨g3, k * 3 + 1, none⟩ (.int .i64 cb8) rfl (by show w.heap.size ≤ g3; omega)).put ⟨g3, k * 3 + 2, none⟩ (.bool false) rfl (by show w.heap.size ≤ g3; omega)
        refine ⟨?_, hk6, ?_⟩
        · rw [← HMS.out]
          exact ent_three (hot.below entR_fine h6) (show k < k + 1 by omega) ⟨s, cb8, false⟩ ⟨by show -9223372036854775808 ≤ s; omega, by show s ≤ 9223372036854775807; omega⟩ ⟨by show -9223372036854775808 ≤ (cb8 : Int); omega, by show (cb8 : Int) ≤ 9223372036854775807; omega⟩
        · exact (((hpar.new_on byteR_fine h6).new_set byteR_fine _ _ (by show g3 < _; omega)).new_set byteR_fine _ _ (by show g3 < _; omega)).new_set byteR_fine _ _ (by show g3 < _; omega)
      have HS3 : Hid (∀ W, Below wo.heap.size wo W → (((W.setCell ⟨g3, k * 3, none⟩ (.int .i64 s)).setCell ⟨g3, k * 3 + 1, none⟩ (.int .i64 cb8)).setCell ⟨g3, k * 3 + 2, none⟩ (.bool false)).cell? ⟨w3.heap.size, 0, none⟩ = some (.slice (some ⟨g3, 0, none⟩) (k + 1) c3) ∧ (((W.setCell ⟨g3, k * 3, none⟩ (.int .i64 s)).setCell ⟨g3, k * 3 + 1, none⟩ (.int .i64 cb8)).setCell ⟨g3, k * 3 + 2, none⟩ (.bool false)).cell? ⟨w.heap.size, 1, none⟩ = some (.int .i64 (k : Int))) := hide fun W hW => by
        obtain ⟨h1, h2⟩ := HS.out W hW
        have hz := HSZ.out
        have n1 : w3.heap.size ≠ g3 := by omega
        have n2 : w.heap.size ≠ g3 := by omega
        exact ⟨put_far n1 (put_far n1 (put_far n1 h1)), put_far n2 (put_far n2 (put_far n2 h2))⟩
      have kd1 : (k : Int) < (k : Int) + 1 := by omega
      have k0 : (0 : Int) ≤ (k : Int) := by omega
      have q1 : wo.cell? ⟨w.heap.size, 1, none⟩ = some (.int .i64 (k : Int)) := p1
      clear hmk2 hms hcb8 hpe hpp p0 p2 p3 p4 pt pr pf pn
      go_upto_region 16 with fail
      go_cut [] (fun wx => Ow entR 3 wx W0.heap.size W0.heap.size 61 (.slice (some ⟨g3, 0, none⟩) (k + 1) c3) (k + 1) (wrT L H ats bl s k) ∧ Kept w W5 (fun b => b = g3) wx ∧ Sl byteR 1 wx (New W4.heap.size wx) P 8 cP par)
      case first =>
        go_region_held3 (fun W => W.cell? ⟨w3.heap.size, 0, none⟩ = some (.slice (some ⟨g3, 0, none⟩) (k + 1) c3) ∧ W.cell? ⟨w.heap.size, 1, none⟩ = some (.int .i64 (k : Int))) (first | exact HS.out _ hcur | exact HS.out _ hcur.drew | exact HS3.out _ hcur | exact HS3.out _ hcur.drew) ((go_at_call 44; (with_reducible refine (HMK2.out _ (HBB.out _ (by first | exact hcur | exact hcur.drew))).mono ?_); rintro e wA ⟨rfl, hzz⟩; have hcur := th (by first | exact hcur | exact hcur.drew) hzz; obtain ⟨⟨xq, v0, v1, v2⟩, hvf⟩ := HE.out _ hcur; have f0 := hvf (k * 3); have f1 := hvf (k * 3 + 1); have f2 := hvf (k * 3 + 2)))
        all_goals (go_wp2_with fail; go_meet; first | exact HFIN.out _ hcur | exact HFIN.out _ hcur.drew)
      case rest =>
        obtain ⟨r1, r2, r3⟩ := hcut
        obtain ⟨_, _, ⟨pr, pf⟩, pn⟩ := HC.out wc r2
        have kr2 := put_same (v := .slice (some ⟨g3, 0, none⟩) (k + 1) c3) pr
        have KR2 := hide kr2
        have hz := HSZ.out
        have hN0 := HN0.out
        have hfin : Sl entR 3 (wc.setCell ⟨w.heap.size + 1 + 1, 0, none⟩ (.slice (some ⟨g3, 0, none⟩) (k + 1) c3)) (Old (wc.setCell ⟨w.heap.size + 1 + 1, 0, none⟩ (.slice (some ⟨g3, 0, none⟩) (k + 1) c3))) (some ⟨g3, 0, none⟩) (k + 1) c3 (wrT L H ats bl s k) := by
          refine Ow.read entR_fine (base := W0.heap.size) (lo := W0.heap.size) (e := 61) ?_
          obtain ⟨hl, xs, hxx, h1, hel⟩ := r1
          exact ⟨hl, xs, hxx.kept (grownBy_set _ _ _) (.inr (by show some g3 ≠ some (w.heap.size + 1 + 1); intro e; injection e with e; omega)), h1, fun i x hi => hel i x hi⟩
        have hfp := (r3.new_set byteR_fine ⟨w.heap.size + 1 + 1, 0, none⟩ (.slice (some ⟨g3, 0, none⟩) (k + 1) c3) (by show w.heap.size + 1 + 1 < _; omega)).old_ byteR_fine
        have hfb := r2.bel.setCell (p := ⟨w.heap.size + 1 + 1, 0, none⟩) (by show w.heap.size ≤ w.heap.size + 1 + 1; omega) (.slice (some ⟨g3, 0, none⟩) (k + 1) c3)
        have HF := hide (And.intro hfin (And.intro hfp hfb))
        clear hfin hfp hfb kr2 r1 r2 r3 hz hN0
        go_wp2_with fail
        have kr3 := KR2.out
        have HF1 := HF.out
        rw [HPP.out] at HF1
        exact bodyPost_ret (v := .tuple #[.agg #[.slice (some ⟨g3, 0, none⟩) (k + 1) c3], .slice P 8 cP]) (by simp [results, Try.results23, go_sem, kr3]) rfl ⟨_, _, _, _, rfl, HF1.1, HF1.2.1, HF1.2.2⟩

end Go.Proofs.Ytikjhcfalofgaaa
