/-
  The walk of the law TableBack.
-/
import Derived.Test.YtamgpbkakmffiaaLawT1
import Derived.Deep.RegionHeld3
import Derived.Deep.CutRange
import Derived.Deep.DeepCutAuto
namespace Go.Proofs.Ytamgpbkakmffiaa
open Go.RowKit
set_option linter.unusedVariables false
set_option maxRecDepth 100000

/-- A cell that is held, and may be written. -/
def Hl (w : World) (N : Nat) (v : Value) : Prop := w.cell? ⟨N, 0, none⟩ = some v ∧ w.frozen? ⟨N, 0, none⟩ = false
theorem Hl.new (w : World) (v : Value) (e : TypeId) : Hl (w.alloc (.cells #[v] e)) w.heap.size v := ⟨box_cell (Below.refl _ _) 0 _ rfl, box_free (Below.refl _ _) 0⟩
theorem Hl.newN {w : World} {N : Nat} (hN : w.heap.size = N) (v : Value) (e : TypeId) : Hl (w.alloc (.cells #[v] e)) N v := by subst hN; exact Hl.new w v e
theorem Hl.below {w w' : World} {N : Nat} {v : Value} (h : Hl w N v) (hb : Below w.heap.size w w') : Hl w' N v :=
  ⟨(hb.cell (World.block_lt_of_cell? w _ h.1)).trans h.1, (hb.frozen (World.block_lt_of_cell? w _ h.1)).trans h.2⟩
theorem Hl.al {w : World} {N : Nat} {v : Value} (h : Hl w N v) (o : Obj) : Hl (w.alloc o) N v := h.below (alloc_below _ _)
theorem Hl.dr {w : World} {N : Nat} {v : Value} (h : Hl w N v) : Hl w.drew N v := h
theorem Hl.grown {w w' : World} {N : Nat} {v : Value} {rw : Option Nat} (h : Hl w N v) (hg : w.grownBy w' rw) (hne : rw ≠ some N) : Hl w' N v := by
  have hb := hg.block N (World.block_lt_of_cell? w _ h.1) (fun e => hne e.symm)
  refine ⟨?_, ?_⟩
  · rw [← h.1]
    exact World.cell?_of_block (a := ⟨N, 0, none⟩) hb
  · have h2 := h.2
    unfold World.frozen? at h2 ⊢
    dsimp only at h2 ⊢
    rw [hb]
    exact h2
theorem bal {w W : World} (h : Below w.heap.size w W) (o : Obj) : Below w.heap.size w (W.alloc o) := h.alloc h.size o
theorem lit_of {w : World} {N : Nat} (h : Hl w N (.int .u8 0)) : Bs w (some ⟨N, 0, none⟩) 1 1 [0] := by
  refine ⟨rfl, Nat.le_refl _, fun _ => ⟨_, rfl, World.block_lt_of_cell? w _ h.1, fun i x hi => ⟨[.int .u8 0], ?_, ?_⟩⟩⟩
  · obtain rfl : i = 0 := by have := (List.getElem?_eq_some_iff.1 hi).1; simp at this; omega
    simp at hi
    subst hi
    rfl
  · obtain rfl : i = 0 := by have := (List.getElem?_eq_some_iff.1 hi).1; simp at this; omega
    intro j u hu
    obtain rfl : j = 0 := by have := (List.getElem?_eq_some_iff.1 hu).1; simp at this; omega
    simp at hu
    subst hu
    rw [Nat.zero_mul, add_zero', add_zero']
    exact h.1

theorem um_raw {i : Int} {n k : Nat} (h : um i n = (k : Int)) (hn : 1 ≤ n) (hn' : n ≤ 4294967296) : (IntKind.u64.wrap i).tmod (n : Int) = (k : Int) ∧ IntKind.u64.wrap i % (n : Int) = (k : Int) := by
  have h0 : 0 ≤ IntKind.u64.wrap i := by rw [IntKind.wrap_u64]; exact Int.emod_nonneg _ (by omega)
  have h1 : (IntKind.u64.wrap i).tmod (n : Int) = IntKind.u64.wrap i % (n : Int) := Int.tmod_eq_emod_of_nonneg h0
  have h2 : 0 ≤ IntKind.u64.wrap i % (n : Int) := Int.emod_nonneg _ (by omega)
  have h3 : IntKind.u64.wrap i % (n : Int) < n := Int.emod_lt_of_pos _ (by omega)
  unfold um at h
  rw [h1, IntWalk.wrap64_in _ ⟨by omega, by omega⟩] at h
  exact ⟨by rw [h1, h], h⟩

theorem tbytes_ok2 {z d s l a : Int} {A : Option Addr} {n c : Nat} {L : List Ent} (hG : GeoOk ⟨z, d, s, l, a⟩) (hT : TabOk d L) (w : World) (ha : Sl entR 3 w (Old w) A n c L) (hn : n ≤ 6000) :
    Calls Try.prog 7 #[.agg #[.int .i64 z, .int .i64 d, .int .i64 s, .int .i64 l, .int .i64 a], .agg #[.slice A n c]] w fun e w' => Below w.heap.size w w' ∧ ∃ V N c, e = .returned (.tuple #[.slice V N c, .int .i64 0]) ∧ Hid (N = 9 * n) ∧ Bs w' V N c (tabL L) := by
  refine (tbytes_ok hG hT w ha hn).mono ?_
  rintro e w' ⟨hb, V, c, rfl, hs⟩
  exact ⟨hb, V, _, c, rfl, rfl, hs⟩

set_option maxHeartbeats 8000000 in
theorem tableBack_core {w : World} {A B : Option Addr} {n c m cb : Nat} {L M : List Ent} (g : Geo) (hl : Sl entR 3 w (Old w) A n c L) (hm : Sl entR 3 w (Old w) B m cb M) (cut : Int) :
    Calls Try.prog 3 #[g.v, .agg #[.slice A n c], .agg #[.slice B m cb], .int .i64 cut] w fun e w' => e = .returned (.bool true) ∧ Below w.heap.size w w' := by
  obtain ⟨z, q, s, l, a⟩ := g
  obtain ⟨W0, hW0⟩ : ∃ W0, W0 = ((w.alloc (.cells #[.int .i64 z, .int .i64 q, .int .i64 s, .int .i64 l, .int .i64 a] 23)).alloc (.cells #[.slice A n c] 26)).alloc (.cells #[.slice B m cb] 26) := ⟨_, rfl⟩
  have hS : W0.heap.size = w.heap.size + 1 + 1 + 1 := by rw [hW0]; simp
  have hb0 : Below w.heap.size w W0 := by rw [hW0]; exact ((alloc_below w _).alloc (by simp) _).alloc (by simp; omega) _
  have bx : ∀ W, Below W0.heap.size W0 W →
      (W.cell? ⟨w.heap.size, 0, none⟩ = some (.int .i64 z) ∧ W.cell? ⟨w.heap.size, 1, none⟩ = some (.int .i64 q) ∧ W.cell? ⟨w.heap.size, 2, none⟩ = some (.int .i64 s) ∧ W.cell? ⟨w.heap.size, 3, none⟩ = some (.int .i64 l) ∧ W.cell? ⟨w.heap.size, 4, none⟩ = some (.int .i64 a)) ∧ W.cell? ⟨w.heap.size + 1, 0, none⟩ = some (.slice A n c) ∧ W.cell? ⟨w.heap.size + 1 + 1, 0, none⟩ = some (.slice B m cb) ∧ Below w.heap.size w W := fun W hW => by
    subst hW0
    have h1 := th (alloc_below _ _) hW
    have h := th (alloc_below _ _) h1
    exact ⟨⟨box_cell h 0 _ rfl, box_cell h 1 _ rfl, box_cell h 2 _ rfl, box_cell h 3 _ rfl, box_cell h 4 _ rfl⟩, bx_at2 (by simp) h1 0 _ rfl, bx_at2 (by simp) hW 0 _ rfl, th (alloc_below _ _) h⟩
  have BX := hide bx
  have HS := hide hS
  have HW0 := hide hW0
  have hl0 := hl.on entR_fine hb0
  have hm0 := hm.on entR_fine hb0
  have HLEN := hide hl.len
  have HMEN := hide hm.len
  unfold Geo.v
  dsimp only
  clear bx hS hW0
  by_cases h20 : n ≤ 20
  · by_cases m20 : m ≤ 20
    · by_cases hT : GeoOk ⟨z, q, s, l, a⟩ ∧ TabOk q L
      · have HT := hide (tbytes_ok2 hT.1 hT.2 W0 hl0 (by omega))
        have HHT := hide hT
        go_enter Try.func3, Try.ntmps3
        go_wp2_with fail
        rw [← HW0.out]
        refine HT.out.mono ?_
        rintro e w1 ⟨hb1, V1, N, c1, rfl, HN, hs1⟩
        obtain ⟨⟨p0, p1, p2, p3, p4⟩, pt, pu, _⟩ := BX.out _ hb1
        have hm1 := hm0.on entR_fine hb1
        by_cases hU : GeoOk ⟨z, q, s, l, a⟩ ∧ TabOk q M
        · have HU := hide (tbytes_ok2 hU.1 hU.2 w1 hm1 (by omega))
          have hq : ∃ d : Nat, q = (d : Int) ∧ n = d + 1 ∧ m = d + 1 ∧ 1 ≤ d ∧ d ≤ 4 := by
            have h1 := hT.1.2.1
            have h2 := hT.2.1
            have h3 := hU.2.1
            have h4 := HLEN.out
            have h5 := HMEN.out
            dsimp only at h1
            exact ⟨q.toNat, by omega, by omega, by omega, by omega, by omega⟩
          obtain ⟨d, rfl, rfl, rfl, hd1, hd4⟩ := hq
          have HHU := hide hU
          have hinj : tabL L = tabL M ↔ L = M := ⟨fun h => tabL_inj hT.2.2.1 hU.2.2.1 (by rw [HLEN.out, HMEN.out]) h, fun h => by rw [h]⟩
          have hD : decide (tabL L = tabL M) = decide (L = M) := by by_cases h : L = M <;> simp [hinj, h]
          obtain ⟨D, hD2⟩ : ∃ D, D = decide (L = M) := ⟨_, rfl⟩
          rw [← hD2] at hD
          have hN1 : 18 ≤ N := by have := HN.out; omega
          have hN2 : N ≤ 45 := by have := HN.out; omega
          have hcap := hs1.cap
          have HD := hide hD
          have HD2 := hide hD2
          clear hU hT hinj hD hD2
          go_wp2_with fail
          refine HU.out.mono ?_
          rintro e w2 ⟨hb2, V2, N2, c2, rfl, HN2, hs2⟩
          obtain rfl : N = N2 := by rw [HN2.out, HN.out]
          have hs12 := hs1.on byteR_fine hb2
          obtain ⟨⟨r0, r1, r2, r3, r4⟩, rt, ru, _⟩ := BX.out _ (th hb1 hb2)
          have HR := hide (read_yes HHT.out.1 HHT.out.2 w2 hs12 (by omega))
          go_wp2_with fail
          refine HR.out.mono ?_
          rintro e w3 ⟨hb3, U3, n3, c3, rfl, hu3⟩
          obtain rfl : n3 = d + 1 := by rw [← hu3.len]; exact HLEN.out
          have hE4 := alloc_below w3 (.cells #[.slice U3 (d + 1) c3] 26)
          have hb24 := th hb3 hE4
          have hb04 := th hb1 (th hb2 hb24)
          have hu4 := (sl_newold entR_fine hu3).on entR_fine hE4
          have hx4 := hs12.on byteR_fine hb24
          have hy4 := hs2.on byteR_fine hb24
          have hl4 := hl0.on entR_fine hb04
          have hm4 := hm0.on entR_fine hb04
          have kz : ∀ W, Below (w3.alloc (.cells #[.slice U3 (d + 1) c3] 26)).heap.size (w3.alloc (.cells #[.slice U3 (d + 1) c3] 26)) W → W.cell? ⟨w3.heap.size, 0, none⟩ = some (.slice U3 (d + 1) c3) := fun W hW => box_cell hW 0 _ rfl
          have KZ := hide kz
          have ht1 : ∀ W, Below (w3.alloc (.cells #[.slice U3 (d + 1) c3] 26)).heap.size (w3.alloc (.cells #[.slice U3 (d + 1) c3] 26)) W → Calls Try.prog 10 #[.agg #[.slice U3 (d + 1) c3], .agg #[.slice A (d + 1) c]] W fun e w' => e = .returned (.bool true) ∧ Below W.heap.size W w' := fun W hW => by
            have h := table_any U3 A (d + 1) c3 (d + 1) c L L W (hu4.on entR_fine hW) (hl4.on entR_fine hW) (by omega)
            rwa [decide_eq_true rfl] at h
          have ht2 : ∀ W, Below (w3.alloc (.cells #[.slice U3 (d + 1) c3] 26)).heap.size (w3.alloc (.cells #[.slice U3 (d + 1) c3] 26)) W → Calls Try.prog 10 #[.agg #[.slice A (d + 1) c], .agg #[.slice B (d + 1) cb]] W fun e w' => e = .returned (.bool D) ∧ Below W.heap.size W w' := fun W hW => by
            have h := table_any A B (d + 1) c (d + 1) cb L M W (hl4.on entR_fine hW) (hm4.on entR_fine hW) (by omega)
            rwa [← HD2.out] at h
          have hby : ∀ W, Below (w3.alloc (.cells #[.slice U3 (d + 1) c3] 26)).heap.size (w3.alloc (.cells #[.slice U3 (d + 1) c3] 26)) W → Calls Try.prog 11 #[.slice V1 N c1, .slice V2 N c2] W fun e w' => e = .returned (.bool D) ∧ Below W.heap.size W w' := fun W hW => by
            exact (bytes_any V1 V2 N c1 N c2 (tabL L) (tabL M) W (hx4.on byteR_fine hW) (hy4.on byteR_fine hW) (by omega)).mono fun e w' ⟨he, q, hq⟩ => ⟨by rw [he, HD.out], by rw [hq]; exact drewN_below _ q⟩
          have HT1 := hide ht1
          have HT2 := hide ht2
          have HBY := hide hby
          have eD : (D != D) = false := by simp
          clear kz ht1 ht2 hby
          have hmv : ∀ W, Below (w3.alloc (.cells #[.slice U3 (d + 1) c3] 26)).heap.size (w3.alloc (.cells #[.slice U3 (d + 1) c3] 26)) W → W.cell? ⟨w3.heap.size, 0, none⟩ = some (.slice U3 (d + 1) c3) ∧ W.cell? ⟨w.heap.size + 1, 0, none⟩ = some (.slice A (d + 1) c) ∧ W.cell? ⟨w.heap.size + 1 + 1, 0, none⟩ = some (.slice B (d + 1) cb) := fun W hW => ⟨KZ.out _ hW, (BX.out _ (th hb04 hW)).2.1, (BX.out _ (th hb04 hW)).2.2.1⟩
          have HMV := hide hmv
          clear hmv
          have hcur : Below (w3.alloc (.cells #[.slice U3 (d + 1) c3] 26)).heap.size (w3.alloc (.cells #[.slice U3 (d + 1) c3] 26)) (w3.alloc (.cells #[.slice U3 (d + 1) c3] 26)).drew := (Below.refl _ _).drew
          have n0 : ((N : Int) == 0) = false := by simp; omega
          have n96 : decide (96 < (N : Int)) = false := by simp; omega
          go_upto_region 8 with fail
          go_cut [98] (fun v wx => v = .bool false ∧ Below (w3.alloc (.cells #[.slice U3 (d + 1) c3] 26)).heap.size (w3.alloc (.cells #[.slice U3 (d + 1) c3] 26)) wx)
          case first =>
            go_region_held3 (fun w' => w'.cell? ⟨w3.heap.size, 0, none⟩ = some (.slice U3 (d + 1) c3) ∧ w'.cell? ⟨w.heap.size + 1, 0, none⟩ = some (.slice A (d + 1) c) ∧ w'.cell? ⟨w.heap.size + 1 + 1, 0, none⟩ = some (.slice B (d + 1) cb)) (exact HMV.out _ hcur) (first
              | (go_at_call 10; ((with_reducible refine (HT1.out _ hcur).mono ?_)); rintro e wA ⟨rfl, hzA⟩; have hcur := th hcur hzA)
              | (go_at_call 10; ((with_reducible refine (HT2.out _ hcur).mono ?_)); rintro e wB ⟨rfl, hzB⟩; have hcur := th hcur hzB)
              | (go_at_call 11; ((with_reducible refine (HBY.out _ hcur).mono ?_)); rintro e wC ⟨rfl, hzC⟩; have hcur := th hcur hzC))
            all_goals (go_wp2_with fail; go_meet; exact ⟨rfl, hcur⟩)
          case rest =>
            obtain ⟨rfl, hb5⟩ := hcut
            obtain ⟨⟨r0, r1, r2, r3, r4⟩, _, _, _⟩ := BX.out _ (th hb04 hb5)
            obtain ⟨k, hke, hk⟩ := um_is cut N (by omega) (by omega)
            obtain ⟨hke1, hke2⟩ := um_raw hke (by omega) (by omega)
            have hw1 : IntKind.i64.wrap (k : Int) = (k : Int) := IntWalk.i64_in _ (by omega)
            have hw2 : IntKind.u64.wrap (k : Int) = (k : Int) := by rw [IntKind.wrap_u64]; omega
            have hx5 := hx4.on byteR_fine hb5
            have hno1 : ¬ ReadOk (d : Int) ((tabL L).take k) := fun h => by
              have h1 := h.1
              have h2 := hx4.len
              rw [List.length_take] at h1
              have h3 := HN.out
              omega
            have hrd : ∀ W, Below wc.heap.size wc W → Calls Try.prog 9 #[.agg #[.int .i64 z, .int .i64 d, .int .i64 s, .int .i64 l, .int .i64 a], .slice V1 k c1] W fun e w' => Below W.heap.size W w' ∧ ∃ V m c, e = .returned (.tuple #[.agg #[.slice V m c], .int .i64 4]) ∧ Sl entR 3 w' (New W.heap.size w') V m c [] := fun W hW => read_no HHT.out.1 hno1 W ((hx5.on byteR_fine hW).init_ (by omega)) (by omega)
            have HRD := hide hrd
            have hd0 : Below wc.heap.size wc wc.drew := (Below.refl _ _).drew
            have hd1 : Below wc.heap.size wc (wc.alloc (.cells #[.slice none 0 0] 26)).drew := (alloc_below wc _).drew
            have hkc : k ≤ c1 := by omega
            have hgv : ∀ W, Below wc.heap.size wc W → W.cell? ⟨w.heap.size, 0, none⟩ = some (.int .i64 z) ∧ W.cell? ⟨w.heap.size, 1, none⟩ = some (.int .i64 d) ∧ W.cell? ⟨w.heap.size, 2, none⟩ = some (.int .i64 s) ∧ W.cell? ⟨w.heap.size, 3, none⟩ = some (.int .i64 l) ∧ W.cell? ⟨w.heap.size, 4, none⟩ = some (.int .i64 a) := fun W hW => (BX.out _ (th (th hb04 hb5) hW)).1
            have HGV := hide hgv
            have hwN : IntKind.u64.wrap (N : Int) = (N : Int) := by rw [IntKind.wrap_u64]; omega
            have hzN : ¬ (N : Int) = 0 := by omega
            have hzN' : ¬ N = 0 := by omega
            have iN0 : (0 : Int) ≤ (N : Int) := by omega
            have iN1 : (N : Int) ≤ 45 := by omega
            have ik0 : (0 : Int) ≤ (k : Int) := by omega
            have ik1 : (k : Int) ≤ (c1 : Int) := by omega
            clear hrd hno1 hgv hke
            go_upto_region 10 with fail
            clear n0
            go_cut [16] (fun v wx => v = .int .i64 4 ∧ Below wc.heap.size wc wx)
            case first =>
              go_region_held3 (fun w' => w'.cell? ⟨w.heap.size, 0, none⟩ = some (.int .i64 z) ∧ w'.cell? ⟨w.heap.size, 1, none⟩ = some (.int .i64 d) ∧ w'.cell? ⟨w.heap.size, 2, none⟩ = some (.int .i64 s) ∧ w'.cell? ⟨w.heap.size, 3, none⟩ = some (.int .i64 l) ∧ w'.cell? ⟨w.heap.size, 4, none⟩ = some (.int .i64 a)) (first | exact HGV.out _ hd0 | exact HGV.out _ hd1 | exact HGV.out _ hcur | exact HGV.out _ (hcur.alloc hcur.size _) | exact HGV.out _ (hcur.setCell (Nat.le_refl _) _)) ((go_at_call 9; refine Calls.mono (HRD.out _ (by first | exact hd0 | exact hd1)) ?_; rintro e w6 ⟨hz6, V6, m6, c6, rfl, hs6⟩; have hcur : Below wc.heap.size wc w6 := th (by first | exact hd0 | exact hd1) hz6; (first | (have kb := box_cell (undrewF hz6) 0 _ rfl; have kf := box_free (undrewF hz6) 0) | skip)))
              all_goals (go_wp2_with fail; go_meet; exact ⟨rfl, (by first | exact hcur.alloc hcur.size _ | exact hcur.setCell (Nat.le_refl _) _)⟩)
            case rest =>
              obtain ⟨rfl, hb6⟩ := hcut
              obtain ⟨w6, hw6⟩ : ∃ w6, w6 = wc := ⟨_, rfl⟩
              subst hw6
              have hb56 := hb6
              have hx6 := hx5.on byteR_fine hb56
              have hno2 : ¬ ReadOk (d : Int) (tabL L ++ [0]) := fun h => by
                have h1 := h.1
                have h2 := hx4.len
                rw [List.length_append] at h1
                have h3 := HN.out
                simp at h1
                omega
              have hrd : ∀ (W : World) (V : Option Addr) (cv : Nat), Bs W V (N + 1) cv (tabL L ++ [0]) → Calls Try.prog 9 #[.agg #[.int .i64 z, .int .i64 d, .int .i64 s, .int .i64 l, .int .i64 a], .slice V (N + 1) cv] W fun e w' => Below W.heap.size W w' ∧ ∃ V m c, e = .returned (.tuple #[.agg #[.slice V m c], .int .i64 4]) ∧ Sl entR 3 w' (New W.heap.size w') V m c [] := fun W V cv hW => read_no HHT.out.1 hno2 W hW (by omega)
              have htw : ∀ W, Below w6.heap.size w6 W → Calls Try.prog 12 #[.slice V1 N c1] W fun e w' => ∃ A' c', e = .returned (.slice A' N c') ∧ Ow byteR 1 w' w6.heap.size 0 5 (.slice A' N c') N (tabL L) ∧ (∀ k, (Value.slice A' N c').ownBlock = some k → W.heap.size ≤ k) ∧ Below W.heap.size W w' := fun W hW => (twin_any V1 N c1 (tabL L) W (hx6.on byteR_fine hW) (by omega)).mono fun e w' ⟨A', c', h1, h2, h3⟩ => ⟨A', c', h1, h2.less byteR_fine hW.size (Nat.zero_le _), fun k hk => (h2.lt k hk).1, h3⟩
              have hgv2 : ∀ W, Below w6.heap.size w6 W → W.cell? ⟨w.heap.size, 0, none⟩ = some (.int .i64 z) ∧ W.cell? ⟨w.heap.size, 1, none⟩ = some (.int .i64 d) ∧ W.cell? ⟨w.heap.size, 2, none⟩ = some (.int .i64 s) ∧ W.cell? ⟨w.heap.size, 3, none⟩ = some (.int .i64 l) ∧ W.cell? ⟨w.heap.size, 4, none⟩ = some (.int .i64 a) := fun W hW => (BX.out _ (th (th hb04 (th hb5 hb56)) hW)).1
              obtain ⟨j0, hj0, hy0, hy1, hy2⟩ := info_parts u8_info
              have HRD2 := hide hrd
              have HTW := hide htw
              have HGV2 := hide hgv2
              have hcur : Below w6.heap.size w6 w6 := Below.refl _ _
              clear hrd htw hgv2 hno2
              go_upto_region 11 with fail
              go_cut [18] (fun v wx => v = .int .i64 4 ∧ Below w6.heap.size w6 wx)
              case first =>
                go_region_held3 (fun w' => w'.cell? ⟨w.heap.size, 0, none⟩ = some (.int .i64 z) ∧ w'.cell? ⟨w.heap.size, 1, none⟩ = some (.int .i64 d) ∧ w'.cell? ⟨w.heap.size, 2, none⟩ = some (.int .i64 s) ∧ w'.cell? ⟨w.heap.size, 3, none⟩ = some (.int .i64 l) ∧ w'.cell? ⟨w.heap.size, 4, none⟩ = some (.int .i64 a)) (first | exact HGV2.out _ hcur | exact HGV2.out _ (bal hcur _) | exact HGV2.out _ (bal (bal hcur _) _) | exact HGV2.out _ hcur.drew | exact HGV2.out _ (bal hcur _).drew | exact HGV2.out _ (bal (bal hcur _) _).drew | exact HGV2.out _ (hcur.setCell (by simp <;> omega) _)) (first
                  | (go_at_call 12; refine Calls.mono (HTW.out _ (by first | exact hcur | exact bal hcur _ | exact bal (bal hcur _) _ | exact hcur.drew | exact (bal hcur _).drew | exact (bal (bal hcur _) _).drew)) ?_; rintro e w7 ⟨V7, c7, rfl, ho7, hlt7, hz7⟩; (first | (have kb : Hl w7 _ (.slice none 0 0) := Hl.below (by first | exact kb | exact kb.al _ | exact (kb.al _).al _ | exact Hl.new _ _ _ | exact (Hl.new _ _ _).al _ | exact Hl.dr (Hl.new _ _ _) | exact Hl.dr ((Hl.new _ _ _).al _) | exact Hl.newN (by simp) _ _) hz7) | skip); (first | (have kl : Hl w7 _ (.int .u8 0) := Hl.below (by first | exact kl | exact kl.al _ | exact (kl.al _).al _ | exact Hl.new _ _ _ | exact (Hl.new _ _ _).al _ | exact Hl.dr (Hl.new _ _ _) | exact Hl.dr ((Hl.new _ _ _).al _) | exact Hl.newN (by simp) _ _) hz7; (try simp only [World.size_alloc] at kl)) | skip); have hcur : Below w6.heap.size w6 w7 := th (by first | exact hcur | exact bal hcur _ | exact bal (bal hcur _) _ | exact hcur.drew | exact (bal hcur _).drew | exact (bal (bal hcur _) _).drew) hz7; have hsz7 := hcur.size)
                  | (refine step_append_ow _ (by rfl) _ _ _ (by rfl) byteR_fine w6.heap.size 0 5 j0 _ 1 Try.underlying27 hj0 hy0 hy1 hy2 rfl (by omega) (.slice V7 N c7) N _ (by rfl) (by first | exact ho7 | exact ho7.alloc byteR_fine _ | exact (ho7.alloc byteR_fine _).alloc byteR_fine _) (Old _) _ 1 1 [0] (by rfl) (lit_of (by first | exact kl | exact kl.al _ | exact (kl.al _).al _ | exact Hl.new _ _ _ | exact (Hl.new _ _ _).al _ | exact Hl.dr (Hl.new _ _ _) | exact Hl.dr ((Hl.new _ _ _).al _) | exact Hl.newN (by simp) _ _)) (fun _ _ _ h => h) (by simp only [maxLen]; omega) (by omega) (by first | exact hsz7 | (simp only [World.size_alloc]; omega)) ?_; intro V8 w8 ho8 hg8 hat8; obtain ⟨A8, c8, rfl⟩ := ho8.form; (first | (have kb : Hl w8 _ (.slice none 0 0) := Hl.grown (by first | exact kb | exact kb.al _ | exact (kb.al _).al _ | exact Hl.new _ _ _ | exact (Hl.new _ _ _).al _ | exact Hl.dr (Hl.new _ _ _) | exact Hl.dr ((Hl.new _ _ _).al _) | exact Hl.newN (by simp) _ _) hg8 (fun e => by have h1 := hlt7 _ e; have h2 := (ho7.lt _ e).2; first | omega | (simp at h1 h2; omega) | (simp at h1 h2; done) | (simp at h1; omega) | (simp at h2; omega)); (try simp only [World.size_alloc] at kb)) | skip); have hcur : Below w6.heap.size w6 w8 := Below.trans (by first | exact hcur | exact bal hcur _ | exact bal (bal hcur _) _ | exact hcur.drew | exact (bal hcur _).drew | exact (bal (bal hcur _) _).drew) (below_grown hg8 (by first | exact ho7.lt | exact (ho7.alloc byteR_fine _).lt | exact ((ho7.alloc byteR_fine _).alloc byteR_fine _).lt) (by first | exact hsz7 | (simp only [World.size_alloc]; omega))); have hsz8 := hcur.size)
                  | (go_at_call 9; refine Calls.mono (HRD2.out _ _ _ (by first | exact ho8.read byteR_fine | exact (ho8.read byteR_fine).on byteR_fine (alloc_below _ _))) ?_; rintro e w9 ⟨hz9, V9, m9, c9, rfl, hs9⟩; (first | (have kb : Hl w9 _ (.slice none 0 0) := Hl.below (by first | exact kb | exact kb.al _ | exact (kb.al _).al _ | exact Hl.new _ _ _ | exact (Hl.new _ _ _).al _ | exact Hl.dr (Hl.new _ _ _) | exact Hl.dr ((Hl.new _ _ _).al _) | exact Hl.newN (by simp) _ _) hz9) | skip); have hcur : Below w6.heap.size w6 w9 := th (by first | exact hcur | exact bal hcur _ | exact bal (bal hcur _) _ | exact hcur.drew | exact (bal hcur _).drew | exact (bal (bal hcur _) _).drew) hz9; have hsz9 := hcur.size; (first | (have kb1 := kb.1; have kb2 := kb.2; (try simp at kb1 kb2)) | skip)))
                all_goals (go_wp2_with fail; go_meet; exact ⟨rfl, (by first | exact bal hcur _ | exact hcur.setCell (by simp <;> omega) _)⟩)
              case rest =>
                obtain ⟨rfl, hb7⟩ := hcut
                go_wp2_with fail
                refine (wakes10 _).mono ?_
                rintro e w8 ⟨rfl, hb8⟩
                go_wp2_with fail
                go_ret
                exact ⟨rfl, th hb0 (th hb04 (th hb5 (th hb6 (th hb7 hb8))))⟩
        · have HU := hide (tbytes_no hU w1 hm1 (by omega))
          clear hU hT
          go_wp2_with fail
          refine HU.out.mono ?_
          rintro e w2 ⟨hb2, V2, c2, rfl⟩
          go_wp2_with fail
          refine (wakes10 _).mono ?_
          rintro e w3 ⟨rfl, hb3⟩
          go_wp2_with fail
          go_ret
          exact ⟨rfl, th hb0 (th hb1 (th hb2 hb3))⟩
      · have HT := hide (tbytes_no hT W0 hl0 (by omega))
        go_enter Try.func3, Try.ntmps3
        go_wp2_with fail
        rw [← HW0.out]
        refine HT.out.mono ?_
        rintro e w1 ⟨hb1, V1, c1, rfl⟩
        obtain ⟨⟨p0, p1, p2, p3, p4⟩, pt, pu, _⟩ := BX.out _ hb1
        have hm1 := hm0.on entR_fine hb1
        by_cases hU : GeoOk ⟨z, q, s, l, a⟩ ∧ TabOk q M
        · have HU := hide (tbytes_ok hU.1 hU.2 w1 hm1 (by omega))
          clear hU hT
          go_wp2_with fail
          refine HU.out.mono ?_
          rintro e w2 ⟨hb2, V2, c2, rfl, hs2⟩
          go_wp2_with fail
          refine (wakes10 _).mono ?_
          rintro e w3 ⟨rfl, hb3⟩
          go_wp2_with fail
          go_ret
          exact ⟨rfl, th hb0 (th hb1 (th hb2 hb3))⟩
        · have HU := hide (tbytes_no hU w1 hm1 (by omega))
          clear hU hT
          go_wp2_with fail
          refine HU.out.mono ?_
          rintro e w2 ⟨hb2, V2, c2, rfl⟩
          go_wp2_with fail
          refine (wakes10 _).mono ?_
          rintro e w3 ⟨rfl, hb3⟩
          go_wp2_with fail
          go_ret
          exact ⟨rfl, th hb0 (th hb1 (th hb2 hb3))⟩
    · have e20 : decide (20 < (m : Int)) = true := by simp; omega
      clear m20
      go_enter Try.func3, Try.ntmps3
      go_wp2_with fail
      go_ret
      exact ⟨rfl, by rw [← HW0.out]; exact hb0⟩
  · have e20 : decide (20 < (n : Int)) = true := by simp; omega
    clear h20
    go_enter Try.func3, Try.ntmps3
    go_wp2_with fail
    go_ret
    exact ⟨rfl, by rw [← HW0.out]; exact hb0⟩

theorem law_tableBack {w : World} {V0 V1 V2 : Value} {g : Geo} {L M : List Ent} (hg : ArgR geoR w V0 g) (hl : ArgR tabR w V1 L) (hm : ArgR tabR w V2 M) (cut : Int) (hcut : InI cut) :
    Calls Try.prog 3 #[V0, V1, V2, .int .i64 cut] w fun e w' => e = .returned (.bool true) ∧ Below w.heap.size w w' := by
  obtain ⟨rfl, _⟩ := geo_form hg
  obtain ⟨A, n, c, rfl, hl2⟩ := tab_form hl
  obtain ⟨B, m, cb, rfl, hm2⟩ := tab_form hm
  exact tableBack_core g hl2 hm2 cut

end Go.Proofs.Ytamgpbkakmffiaa
