/-
  Contracts: zone.Block of what is right; casematelaw13.wakes.
-/
import Derived.Test.YtnieiobpbioeiaaZFull
import Derived.Test.YtnieiobpbioeiaaLit
namespace Go.Proofs.Ytnieiobpbioeiaa
open Go.RowKit
set_option linter.unusedVariables false
set_option maxRecDepth 100000

theorem set_apart {w : World} {N k : Nat} {v u u' : Value} {a : Addr} (h : w.cell? a = some u) (hp : w.cell? ⟨N, k, none⟩ = some u') (hne : u ≠ u') : (w.setCell ⟨N, k, none⟩ v).cell? a = some u := by
  by_cases hb : a.block = N
  · subst hb
    unfold World.cell? at h hp ⊢
    unfold World.setCell
    dsimp only at h hp ⊢
    rw [Array.getElem?_modify, if_pos rfl]
    cases hx : w.heap[a.block]? with
    | none => rw [hx] at h; cases h
    | some o =>
      rw [hx] at h hp
      cases o with
      | cells c e f =>
        simp only [Option.map_some, Option.isSome_none, Bool.false_eq_true, if_false] at h hp ⊢
        by_cases hs : a.spot.isSome = true
        · rw [if_pos hs] at h; cases h
        · rw [if_neg hs] at h ⊢
          rw [Array.getElem?_setIfInBounds_ne (by rintro rfl; rw [hp] at h; injection h with h; exact hne h.symm)]
          exact h
      | _ => cases h
  · exact (World.cell?_of_block (blk_set _ _ _ _ hb)).trans h

theorem block_known {A B : Option Addr} {n c m cb : Nat} {L : List Ent} {H : List (List UInt8)} {g : Geo} {w : World} (ha : Sl entR 3 w (Old w) A n c L) (hh : Rs w B m cb H) (hn : n ≤ 65536) (hm : m ≤ 65536) (hg : GeoOk g) (hT : TabOk g.data L) (hH : HadOk g.data H) {k : Int} {l : List UInt8} (hk0 : -1 ≤ k) (hk1 : k < g.data) (hl : knownL L H (if k = -1 then g.data.toNat else k.toNat) = l) (h8 : l.length = 8) :
    Calls Try.prog 28 #[g.v, .agg #[.slice A n c], .slice B m cb, .int .i64 k] w fun e w' => ∃ V cv, e = .returned (.tuple #[.slice V 8 cv, .int .i64 0]) ∧ Bs w' V 8 cv l ∧ Below w.heap.size w w' := by
  refine (block_any A B n c m cb L H g w ha hh hn hm k).mono ?_
  rintro e w' ⟨hb, V, nv, cv, l', err, rfl, hs, hq⟩
  unfold BlockQ at hq
  rcases hq with ⟨h, _⟩ | ⟨_, h, _⟩ | ⟨_, _, h, _⟩ | ⟨_, _, _, h1, h2⟩
  · exact absurd ⟨hg, hT⟩ h
  · exact absurd hH h
  · exact absurd ⟨hk0, hk1⟩ h
  · rw [hl] at h1
    subst h1
    rw [if_neg (ne_nil8 h8)] at h2
    subst h2
    have := hs.len
    obtain rfl : nv = 8 := by omega
    exact ⟨V, cv, rfl, hs, hb⟩
theorem block_none {A B : Option Addr} {n c m cb : Nat} {L : List Ent} {H : List (List UInt8)} {g : Geo} {w : World} (ha : Sl entR 3 w (Old w) A n c L) (hh : Rs w B m cb H) (hn : n ≤ 65536) (hm : m ≤ 65536) (hg : GeoOk g) (hT : TabOk g.data L) (hH : HadOk g.data H) {k : Int} (hk0 : -1 ≤ k) (hk1 : k < g.data) (hl : knownL L H (if k = -1 then g.data.toNat else k.toNat) = []) :
    Calls Try.prog 28 #[g.v, .agg #[.slice A n c], .slice B m cb, .int .i64 k] w fun e w' => ∃ V cv, e = .returned (.tuple #[.slice V 0 cv, .int .i64 13]) ∧ Bs w' V 0 cv [] ∧ Below w.heap.size w w' := by
  refine (block_any A B n c m cb L H g w ha hh hn hm k).mono ?_
  rintro e w' ⟨hb, V, nv, cv, l', err, rfl, hs, hq⟩
  unfold BlockQ at hq
  rcases hq with ⟨h, _⟩ | ⟨_, h, _⟩ | ⟨_, _, h, _⟩ | ⟨_, _, _, h1, h2⟩
  · exact absurd ⟨hg, hT⟩ h
  · exact absurd hH h
  · exact absurd ⟨hk0, hk1⟩ h
  · rw [hl] at h1
    subst h1
    rw [if_pos rfl] at h2
    subst h2
    have := hs.len
    obtain rfl : nv = 0 := by simpa using this.symm
    exact ⟨V, cv, rfl, hs, hb⟩
theorem block_arg {A B : Option Addr} {n c m cb : Nat} {L : List Ent} {H : List (List UInt8)} {g : Geo} {w : World} (ha : Sl entR 3 w (Old w) A n c L) (hh : Rs w B m cb H) (hn : n ≤ 65536) (hm : m ≤ 65536) (hg : GeoOk g) (hT : TabOk g.data L) (hH : HadOk g.data H) {k : Int} (hk : ¬ (-1 ≤ k ∧ k < g.data)) :
    Calls Try.prog 28 #[g.v, .agg #[.slice A n c], .slice B m cb, .int .i64 k] w fun e w' => ∃ V cv, e = .returned (.tuple #[.slice V 0 cv, .int .i64 1]) ∧ Bs w' V 0 cv [] ∧ Below w.heap.size w w' := by
  refine (block_any A B n c m cb L H g w ha hh hn hm k).mono ?_
  rintro e w' ⟨hb, V, nv, cv, l', err, rfl, hs, hq⟩
  unfold BlockQ at hq
  rcases hq with ⟨h, _⟩ | ⟨_, h, _⟩ | ⟨_, _, _, rfl, rfl⟩ | ⟨_, _, h, _⟩
  · exact absurd ⟨hg, hT⟩ h
  · exact absurd hH h
  · have := hs.len
    obtain rfl : nv = 0 := by simpa using this.symm
    exact ⟨V, cv, rfl, hs, hb⟩
  · exact absurd h hk

/-- zone.All of what is right. -/
theorem all_good {A B : Option Addr} {n c m cb d : Nat} {L : List Ent} {H : List (List UInt8)} {g : Geo} {w : World} (ha : Sl entR 3 w (Old w) A n c L) (hh : Rs w B m cb H) (hn : n ≤ 65536) (hm : m ≤ 65536) (hg : GeoOk g) (hd : g.data = (d : Int)) (hT : TabOk g.data L) (hH : HadOk g.data H) :
    Calls Try.prog 29 #[g.v, .agg #[.slice A n c], .slice B m cb] w fun e w' => ∃ V cv V' cv', e = .returned (.tuple #[.slice V (d + 1) cv, .slice V' (d + 1) cv', .int .i64 0]) ∧ Rs w' V (d + 1) cv ((List.range (d + 1)).map (knownL L H)) ∧ Sl boolR 1 w' (Old w') V' (d + 1) cv' ((List.range (d + 1)).map fun j => decide (knownL L H j ≠ [])) ∧ Below w.heap.size w w' := by
  refine (zall_any A B n c m cb L H g w ha hh hn hm).mono ?_
  rintro e w' ⟨hb, V, nv, cv, V', nv', cv', l, ks, err, rfl, hs, hs', hq⟩
  unfold AllZ at hq
  rcases hq with ⟨h, _⟩ | ⟨_, h, _⟩ | ⟨_, _, rfl, rfl, rfl⟩
  · exact absurd ⟨hg, hT⟩ h
  · exact absurd hH h
  · have h1 := hs.len
    have h2 := hs'.len
    rw [hd] at hs hs' h1 h2
    simp at h1 h2
    subst h1
    subst h2
    exact ⟨V, cv, V', cv', rfl, hs, hs', hb⟩

/-- A row that is taken away. -/
theorem spot_row {w : World} {base lo : Nat} {e : TypeId} {C : Option Addr} {n c : Nat} {L : List (List UInt8)} (h : Ow (slR byteR 1) 1 w base lo e (.slice C n c) n L) {k : Nat} (hk : k < n) :
    ∃ g A' n' c', C = some ⟨g, 0, none⟩ ∧ base ≤ g ∧ g < w.heap.size ∧ w.cell? ⟨g, k, none⟩ = some (.slice A' n' c') ∧ w.frozen? ⟨g, k, none⟩ = false ∧ Ow (slR byteR 1) 1 (w.setCell ⟨g, k, none⟩ (.slice none 0 0)) base lo e (.slice C n c) n (L.set k []) := by
  obtain ⟨g, x, u, rfl, hg, hgl, hx, hu, hcell, hfr, hst⟩ := h.spot bytesR_fine hk
  obtain ⟨A', n', c', hu', _⟩ := hu
  simp at hu'
  subst hu'
  exact ⟨g, A', n', c', rfl, hg, hgl, hcell, hfr, hst _ [] rfl ⟨none, 0, 0, rfl, Sl.nil_ _⟩⟩

def g13 : Geo := ⟨1, 2, 0, 14, 1⟩
def b13 : List (List UInt8) := [[1, 2, 3, 4, 5, 6, 7, 8]]
theorem g13_ok : GeoOk g13 := by decide
theorem bs13_len : (fullB 2 b13 []).length = 2 := fullB_len _ _ _
theorem t13_ok : TabOk g13.data (fullT 3 (fullB 2 b13 [])) := tab_full ⟨by omega, by omega⟩ bs13_len
theorem h13a : HadOk g13.data ((fullH (fullB 2 b13 [])).set 0 []) := by
  refine had_full (fullB_8 _ _ _) bs13_len (by rw [List.length_set, fullH_len, bs13_len]) fun j h hj => ?_
  rw [List.getElem?_set] at hj
  split at hj
  · split at hj
    · injection hj with hj; exact .inl hj.symm
    · cases hj
  · exact .inr hj
theorem h13b : HadOk g13.data (((fullH (fullB 2 b13 [])).set 0 []).set 1 []) := by
  refine had_full (fullB_8 _ _ _) bs13_len (by rw [List.length_set, List.length_set, fullH_len, bs13_len]) fun j h hj => ?_
  rw [List.getElem?_set] at hj
  split at hj
  · split at hj
    · injection hj with hj; exact .inl hj.symm
    · cases hj
  · rw [List.getElem?_set] at hj
    split at hj
    · split at hj
      · injection hj with hj; exact .inl hj.symm
      · cases hj
    · exact .inr hj
theorem k13a : knownL (fullT 3 (fullB 2 b13 [])) ((fullH (fullB 2 b13 [])).set 0 []) 0 = [1, 2, 3, 4, 5, 6, 7, 8] := by
  have h := known_one (s := 3) (bs := fullB 2 b13 []) (d := 2) (i := 0) (fullB_8 _ _ _) bs13_len 0 (by omega)
  have h2 := fullH_at (fullB_at (d := 2) (i := 0) b13 [] (by omega))
  exact Option.some.inj (h.trans h2)
theorem k13b : knownL (fullT 3 (fullB 2 b13 [])) (((fullH (fullB 2 b13 [])).set 0 []).set 1 []) 0 = [] := by
  have e0 := fullT_at (s := 3) (fullB_at (d := 2) (i := 0) b13 [] (by omega))
  have e1 := fullT_at (s := 3) (fullB_at (d := 2) (i := 1) b13 [] (by omega))
  have a0 := fullH_at (fullB_at (d := 2) (i := 0) b13 [] (by omega))
  have hl : (((fullH (fullB 2 b13 [])).set 0 []).set 1 []).length = (fullB 2 b13 []).length + 1 := by rw [List.length_set, List.length_set, fullH_len]
  refine (known_full (H := ((fullH (fullB 2 b13 [])).set 0 []).set 1 []) (fullB_8 _ _ _) hl (fun j h hj => ?_) e0 a0).2 rfl |>.2.2.2 ?_ ⟨1, _, by omega, e1, rfl, ?_⟩
  · rw [List.getElem?_set] at hj
    split at hj
    · split at hj
      · injection hj with hj; exact .inl hj.symm
      · cases hj
    · rw [List.getElem?_set] at hj
      split at hj
      · split at hj
        · injection hj with hj; exact .inl hj.symm
        · cases hj
      · exact .inr hj
  · rw [List.getElem?_set_ne (by omega), List.getElem?_set_self (by rw [fullH_len]; omega)]
  · rw [List.getElem?_set_self (by rw [List.length_set, fullH_len, bs13_len]; omega)]

set_option maxHeartbeats 2000000 in
theorem wakes13 (w : World) : Calls Try.prog 34 #[] w fun e w' => e = .returned (.bool true) ∧ Below w.heap.size w w' := by
  have hsome := some_any 0 1 0 0 0 ⟨by omega, by omega⟩ ⟨by omega, by omega⟩ ⟨by omega, by omega⟩ ⟨by omega, by omega⟩ ⟨by omega, by omega⟩ w
  rw [show someG 0 1 0 0 0 = ⟨1, 2, 0, 14, 1⟩ from by kernel_rfl] at hsome
  unfold Geo.v at hsome
  dsimp only at hsome
  go_enter Try.func34, Try.ntmps34
  go_wp2_with fail
  refine hsome.mono ?_
  rintro e w1 ⟨rfl, hb1⟩
  have hb2 := alloc_below w1 (.cells #[.int .i64 1, .int .i64 2, .int .i64 0, .int .i64 14, .int .i64 1] 23)
  have hb3 := alloc_below (w1.alloc (.cells #[.int .i64 1, .int .i64 2, .int .i64 0, .int .i64 14, .int .i64 1] 23)) (.cells #[.int .u8 1, .int .u8 2, .int .u8 3, .int .u8 4, .int .u8 5, .int .u8 6, .int .u8 7, .int .u8 8] 5)
  have hl3 : Bs ((w1.alloc (.cells #[.int .i64 1, .int .i64 2, .int .i64 0, .int .i64 14, .int .i64 1] 23)).alloc (.cells #[.int .u8 1, .int .u8 2, .int .u8 3, .int .u8 4, .int .u8 5, .int .u8 6, .int .u8 7, .int .u8 8] 5)) (some ⟨w1.heap.size + 1, 0, none⟩) 8 8 [1, 2, 3, 4, 5, 6, 7, 8] := lit_bytes_at (by simp) rfl (by omega) rfl
  have hl4 := lit_one 31 hl3
  have hb4 := alloc_below ((w1.alloc (.cells #[.int .i64 1, .int .i64 2, .int .i64 0, .int .i64 14, .int .i64 1] 23)).alloc (.cells #[.int .u8 1, .int .u8 2, .int .u8 3, .int .u8 4, .int .u8 5, .int .u8 6, .int .u8 7, .int .u8 8] 5)) (.cells #[.slice (some ⟨w1.heap.size + 1, 0, none⟩) 8 8] 31)
  obtain ⟨W4, hW4⟩ : ∃ W4, W4 = ((w1.alloc (.cells #[.int .i64 1, .int .i64 2, .int .i64 0, .int .i64 14, .int .i64 1] 23)).alloc (.cells #[.int .u8 1, .int .u8 2, .int .u8 3, .int .u8 4, .int .u8 5, .int .u8 6, .int .u8 7, .int .u8 8] 5)).alloc (.cells #[.slice (some ⟨w1.heap.size + 1, 0, none⟩) 8 8] 31) := ⟨_, rfl⟩
  rw [show ((w1.alloc (.cells #[.int .i64 1, .int .i64 2, .int .i64 0, .int .i64 14, .int .i64 1] 23)).alloc (.cells #[.int .u8 1, .int .u8 2, .int .u8 3, .int .u8 4, .int .u8 5, .int .u8 6, .int .u8 7, .int .u8 8] 5)).heap.size = w1.heap.size + 1 + 1 from by simp] at hl4
  have hfull := full_any ⟨1, 2, 0, 14, 1⟩ 2 rfl (by omega) (C := some ⟨w1.heap.size + 1 + 1, 0, none⟩) (D := none) (nb := 1) (cb := 1) (nl := 0) (cl := 0) (B := b13) (F := []) 3 ⟨by omega, by omega⟩ (w := W4) (by rw [hW4]; exact hl4) (Sl.nil_ _)
  unfold Geo.v at hfull
  dsimp only at hfull
  have hS4 : w1.heap.size + 1 ≤ W4.heap.size := by rw [hW4]; simp
  have bx : ∀ W, Below W4.heap.size W4 W → W.cell? ⟨w1.heap.size, 0, none⟩ = some (.int .i64 1) ∧ W.cell? ⟨w1.heap.size, 1, none⟩ = some (.int .i64 2) ∧ W.cell? ⟨w1.heap.size, 2, none⟩ = some (.int .i64 0) ∧ W.cell? ⟨w1.heap.size, 3, none⟩ = some (.int .i64 14) ∧ W.cell? ⟨w1.heap.size, 4, none⟩ = some (.int .i64 1) ∧ Below w.heap.size w W := fun W hW => by
    subst hW4
    have h := th hb3 (th hb4 hW)
    exact ⟨box_cell h 0 _ rfl, box_cell h 1 _ rfl, box_cell h 2 _ rfl, box_cell h 3 _ rfl, box_cell h 4 _ rfl, th hb1 (th hb2 h)⟩
  have BX := hide bx
  have HF := hide hfull
  have HW4 := hide hW4
  clear bx hfull hW4 hl4 hl3 hb3 hb4 hb2
  go_wp2_with fail
  rw [← HW4.out]
  refine HF.out.mono ?_
  rintro e w5 ⟨hb5, A, c, C, c', rfl, ht, ho⟩
  obtain ⟨q1, A1, n1, c1, hC, hq1, hql1, hc1, hf1, ho6⟩ := spot_row ho (k := 0) (by omega)
  subst hC
  have hb6 := alloc_below (w5.setCell ⟨q1, 0, none⟩ (.slice none 0 0)) (.cells #[.slice A 3 c] 26)
  have hs6 : (w5.setCell ⟨q1, 0, none⟩ (.slice none 0 0)).heap.size = w5.heap.size := by simp [World.setCell]
  have ho7 := ho6.alloc bytesR_fine (.cells #[.slice A 3 c] 26)
  have ht7 : Sl entR 3 ((w5.setCell ⟨q1, 0, none⟩ (.slice none 0 0)).alloc (.cells #[.slice A 3 c] 26)) (But ((w5.setCell ⟨q1, 0, none⟩ (.slice none 0 0)).alloc (.cells #[.slice A 3 c] 26)) W4.heap.size (.slice (some ⟨q1, 0, none⟩) 3 c')) A 3 c (fullT 3 (fullB 2 b13 [])) :=
    ht.move entR_fine (fun b hb => (hb6.block b (by rw [hs6]; exact hb.2.1)).trans (blk_set _ _ _ _ (fun e => hb.2.2 (by rw [e]; rfl)))) (fun b hb => ⟨hb.1, by have h1 := hb.2.1; have h2 := hb6.size; rw [hs6] at h2; omega, hb.2.2⟩)
  have hb7 : Below W4.heap.size W4 ((w5.setCell ⟨q1, 0, none⟩ (.slice none 0 0)).alloc (.cells #[.slice A 3 c] 26)) := (hb5.setCell hq1 _).alloc (by rw [hs6]; exact hb5.size) _
  have kt : ∀ W, Below ((w5.setCell ⟨q1, 0, none⟩ (.slice none 0 0)).alloc (.cells #[.slice A 3 c] 26)).heap.size ((w5.setCell ⟨q1, 0, none⟩ (.slice none 0 0)).alloc (.cells #[.slice A 3 c] 26)) W → W.cell? ⟨w5.heap.size, 0, none⟩ = some (.slice A 3 c) := fun W hW => bx_at hs6 hW 0 _ rfl
  have KT := hide kt
  clear kt
  obtain ⟨x0, x1, x2, x3, x4, _⟩ := BX.out _ hb7
  have xt := KT.out _ (Below.refl _ _)
  have hbl := block_known (g := g13) (k := 0) (ht7.move entR_fine (S' := Old _) (fun _ _ => rfl) (fun b hb => hb.2.1)) (ho7.read bytesR_fine) (by omega) (by omega) g13_ok t13_ok h13a (by omega) (by decide) k13a rfl
  unfold g13 Geo.v at hbl
  dsimp only at hbl
  have HBL := hide hbl
  clear hbl
  go_wp2_with fail
  refine HBL.out.mono ?_
  rintro e w8 ⟨V8, v8, rfl, hs8, hb8⟩
  have ho8 := ho7.below bytesR_fine hb8
  obtain ⟨q2, A2, n2, c2, hC2, hq2, hql2, hc2, hf2, ho9⟩ := spot_row ho8 (k := 1) (by omega)
  injection hC2 with hC2
  injection hC2 with hC2
  subst hC2
  have hb9 : Below W4.heap.size W4 (w8.setCell ⟨q1, 1, none⟩ (.slice none 0 0)) := (hb7.trans (hb8.mono hb7.size)).setCell hq1 _
  have ht9 : Sl entR 3 (w8.setCell ⟨q1, 1, none⟩ (.slice none 0 0)) (Old (w8.setCell ⟨q1, 1, none⟩ (.slice none 0 0))) A 3 c (fullT 3 (fullB 2 b13 [])) :=
    ht7.move entR_fine (fun b hb => (blk_set _ _ _ _ (fun e => hb.2.2 (by rw [e]; rfl))).trans (hb8.block b hb.2.1)) (fun b hb => by have h1 := hb.2.1; have h2 := hb8.size; show b < (w8.setCell _ _).heap.size; rw [show (w8.setCell ⟨q1, 1, none⟩ (.slice none 0 0)).heap.size = w8.heap.size from by simp [World.setCell]]; omega)
  obtain ⟨y0, y1, y2, y3, y4, _⟩ := BX.out _ hb9
  have yt : (w8.setCell ⟨q1, 1, none⟩ (.slice none 0 0)).cell? ⟨w5.heap.size, 0, none⟩ = some (.slice A 3 c) := (World.cell?_of_block (blk_set _ _ _ _ (by show w5.heap.size ≠ q1; omega))).trans (KT.out _ hb8)
  have hbn := block_none (g := g13) (k := 0) ht9 (ho9.read bytesR_fine) (by omega) (by omega) g13_ok t13_ok h13b (by omega) (by decide) k13b
  unfold g13 Geo.v at hbn
  dsimp only at hbn
  have HBN := hide hbn
  clear hbn
  go_wp2_with fail
  refine HBN.out.mono ?_
  rintro e w10 ⟨V10, v10, rfl, hs10, hb10⟩
  obtain ⟨ad, x, rfl, hadl, hx, hcell⟩ := at_byte hs8 (show 7 < 8 by omega)
  simp at hx
  subst hx
  have hcell10 : w10.cell? (ad.add 7) = some (.int .u8 8) := (hb10.cell (by rw [block_of_add, show (w8.setCell ⟨q1, 1, none⟩ (.slice none 0 0)).heap.size = w8.heap.size from by simp [World.setCell]]; exact hadl)).trans (set_apart hcell hc2 (by simp))
  have hcl : w10.cell? ⟨ad.block, ad.off + 7, none⟩ = some (.int .u8 8) := hcell10
  clear hcell hcell10
  go_wp2_with fail
  go_ret
  exact ⟨rfl, (BX.out _ (hb9.trans (hb10.mono hb9.size))).2.2.2.2.2⟩

end Go.Proofs.Ytnieiobpbioeiaa
