/-
  The walks of the laws casematelaw10: wakes, TableNews.
-/
import Derived.Test.YtamgpbkakmffiaaTabI
import Derived.Deep.RegionHeld3
import Derived.Deep.RegionLaw
namespace Go.Proofs.Ytamgpbkakmffiaa
open Go.RowKit
set_option linter.unusedVariables false
set_option maxRecDepth 100000

theorem crc_zero8 : 0 < crc zero8 := by decide +kernel
theorem newT_len (d : Nat) : (newT d).length = d + 1 := by simp [newT]
theorem newT_at {d k : Nat} (h : k < d + 1) : (newT d)[k]? = some newEnt := by simp [newT, h]
theorem newT_ok (d : Nat) : TabOk (d : Int) (newT d) := by
  refine ⟨by rw [newT_len]; omega, fun e he => ?_, fun e he => ?_⟩
  · obtain rfl : e = newEnt := by unfold newT at he; exact (List.mem_replicate.1 he).2
    have := crc_lt zero8
    exact ⟨⟨by show (0 : Int) ≤ 0; omega, by show (0 : Int) ≤ 4294967295; omega⟩, ⟨by show (0 : Int) ≤ (crc zero8 : Int); omega, by show (crc zero8 : Int) ≤ 4294967295; omega⟩⟩
  · rw [show ((d : Int)).toNat = d from rfl, newT_at (by omega)] at he
    injection he with he
    subst he
    rfl
/-- What is written is read. -/
theorem tab_back {d : Int} {L : List Ent} (h : TabOk d L) : ReadOk d (tabL L) ∧ tabOf (d + 1).toNat (tabL L) = L := by
  have e : L.length = (d + 1).toNat := by have := h.1; omega
  have h1 := tabOf_L h.2.1 []
  rw [List.append_nil] at h1
  have h2 := tabL_of (k := L.length) (l := tabL L) (by rw [tabL_len]; exact Nat.le_refl _)
  rw [h1, List.take_of_length_le (by rw [tabL_len]; exact Nat.le_refl _)] at h2
  have h3 := h2.1 rfl
  rw [← e]
  refine ⟨⟨by rw [tabL_len]; have := h.1; omega, by rw [← e]; exact h3, by rw [← e, h1]; exact h⟩, h1⟩
theorem lost_none {L : List Ent} (h : ∀ e ∈ L, e.lost = false) (k : Nat) (hk : k ≤ L.length) : lostL L k = [] := by
  unfold lostL
  rw [List.map_eq_nil_iff, List.filter_eq_nil_iff]
  intro i hi
  have hi := List.mem_range.1 hi
  rw [List.getElem?_eq_getElem (by omega)]
  simp [h _ (List.getElem_mem (by omega : i < L.length))]
theorem um_zero (n : Int) : um 0 n = 0 := by
  unfold um
  rw [IntKind.wrap_u64, Int.zero_emod, Int.zero_tmod, IntWalk.wrap64_in _ ⟨by omega, by omega⟩]
theorem some_zero : someG 0 0 0 0 0 = ⟨1, 1, 0, 14, 1⟩ := by
  unfold someG
  simp only [um_zero]
  rfl
theorem geo_one : GeoOk ⟨1, 1, 0, 14, 1⟩ := by decide

/-- The contracts at what is right. -/
theorem first_ok {z d s l a : Int} {k : Nat} (hG : GeoOk ⟨z, d, s, l, a⟩) (hd : d = (k : Int)) (w : World) :
    Calls Try.prog 17 #[.agg #[.int .i64 z, .int .i64 d, .int .i64 s, .int .i64 l, .int .i64 a]] w fun e w' => Below w.heap.size w w' ∧ ∃ A n c, e = .returned (.tuple #[.agg #[.slice A n c], .int .i64 0]) ∧ Sl entR 3 w' (New w.heap.size w') A n c (newT k) := by
  refine (first_any ⟨z, d, s, l, a⟩ w).mono ?_
  rintro e w' ⟨hb, A, n, c, T, er, rfl, hs, hq⟩
  unfold FstQ at hq
  rcases hq with ⟨h, _⟩ | ⟨_, rfl, rfl⟩
  · exact absurd hG h
  · subst hd
    exact ⟨hb, A, n, c, rfl, hs⟩
theorem tbytes_ok {z d s l a : Int} {A : Option Addr} {n c : Nat} {L : List Ent} (hG : GeoOk ⟨z, d, s, l, a⟩) (hT : TabOk d L) (w : World) (ha : Sl entR 3 w (Old w) A n c L) (hn : n ≤ 6000) :
    Calls Try.prog 7 #[.agg #[.int .i64 z, .int .i64 d, .int .i64 s, .int .i64 l, .int .i64 a], .agg #[.slice A n c]] w fun e w' => Below w.heap.size w w' ∧ ∃ V c, e = .returned (.tuple #[.slice V (9 * n) c, .int .i64 0]) ∧ Bs w' V (9 * n) c (tabL L) := by
  refine (tbytes_any A n c L ⟨z, d, s, l, a⟩ w ha hn).mono ?_
  rintro e w' ⟨hb, V, m, cv, y, er, rfl, hs, hq⟩
  unfold TBytes at hq
  rcases hq with ⟨h, _⟩ | ⟨_, rfl, rfl⟩
  · exact absurd ⟨hG, hT⟩ h
  · have h1 := hs.len
    rw [tabL_len, ha.len] at h1
    subst h1
    exact ⟨hb, V, cv, rfl, hs⟩
theorem tbytes_no {z d s l a : Int} {A : Option Addr} {n c : Nat} {L : List Ent} (hT : ¬ (GeoOk ⟨z, d, s, l, a⟩ ∧ TabOk d L)) (w : World) (ha : Sl entR 3 w (Old w) A n c L) (hn : n ≤ 6000) :
    Calls Try.prog 7 #[.agg #[.int .i64 z, .int .i64 d, .int .i64 s, .int .i64 l, .int .i64 a], .agg #[.slice A n c]] w fun e w' => Below w.heap.size w w' ∧ ∃ V c, e = .returned (.tuple #[.slice V 0 c, .int .i64 1]) := by
  refine (tbytes_any A n c L ⟨z, d, s, l, a⟩ w ha hn).mono ?_
  rintro e w' ⟨hb, V, m, cv, y, er, rfl, hs, hq⟩
  unfold TBytes at hq
  rcases hq with ⟨_, rfl, rfl⟩ | ⟨h, _⟩
  · have h1 := hs.len
    simp at h1
    subst h1
    exact ⟨hb, V, cv, rfl⟩
  · exact absurd h hT
theorem read_yes {z d s l a : Int} {A : Option Addr} {n c : Nat} {L : List Ent} (hG : GeoOk ⟨z, d, s, l, a⟩) (hT : TabOk d L) (w : World) (ha : Bs w A n c (tabL L)) (hn : n ≤ 60000) :
    Calls Try.prog 9 #[.agg #[.int .i64 z, .int .i64 d, .int .i64 s, .int .i64 l, .int .i64 a], .slice A n c] w fun e w' => Below w.heap.size w w' ∧ ∃ V m c, e = .returned (.tuple #[.agg #[.slice V m c], .int .i64 0]) ∧ Sl entR 3 w' (New w.heap.size w') V m c L := by
  refine (read_any A n c (tabL L) ⟨z, d, s, l, a⟩ w ha hn).mono ?_
  rintro e w' ⟨hb, V, m, cv, T, er, rfl, hs, hq⟩
  obtain ⟨h1, h2⟩ := tab_back hT
  unfold RdQ at hq
  rcases hq with ⟨h, _⟩ | ⟨_, _, rfl, rfl⟩ | ⟨_, h, _⟩
  · exact absurd hG h
  · rw [h2] at hs
    exact ⟨hb, V, m, cv, rfl, hs⟩
  · exact absurd h1 h
theorem read_no {z d s l a : Int} {A : Option Addr} {n c : Nat} {y : List UInt8} (hG : GeoOk ⟨z, d, s, l, a⟩) (hT : ¬ ReadOk d y) (w : World) (ha : Bs w A n c y) (hn : n ≤ 60000) :
    Calls Try.prog 9 #[.agg #[.int .i64 z, .int .i64 d, .int .i64 s, .int .i64 l, .int .i64 a], .slice A n c] w fun e w' => Below w.heap.size w w' ∧ ∃ V m c, e = .returned (.tuple #[.agg #[.slice V m c], .int .i64 4]) ∧ Sl entR 3 w' (New w.heap.size w') V m c [] := by
  refine (read_any A n c y ⟨z, d, s, l, a⟩ w ha hn).mono ?_
  rintro e w' ⟨hb, V, m, cv, T, er, rfl, hs, hq⟩
  unfold RdQ at hq
  rcases hq with ⟨h, _⟩ | ⟨_, h, _⟩ | ⟨_, _, rfl, rfl⟩
  · exact absurd hG h
  · exact absurd h hT
  · exact ⟨hb, V, m, cv, rfl, hs⟩
theorem check_no {z d s l a : Int} {A : Option Addr} {n c : Nat} {L : List Ent} (hT : ¬ (GeoOk ⟨z, d, s, l, a⟩ ∧ TabOk d L)) (w : World) (ha : Sl entR 3 w (Old w) A n c L) (hn : n ≤ 6000) :
    Calls Try.prog 16 #[.agg #[.int .i64 z, .int .i64 d, .int .i64 s, .int .i64 l, .int .i64 a], .agg #[.slice A n c]] w fun e w' => e = .returned (.int .i64 1) ∧ Below w.heap.size w w' := by
  have h := check_any A n c L ⟨z, d, s, l, a⟩ w ha (by omega)
  rw [if_neg hT] at h
  exact h
theorem check_yes {z d s l a : Int} {A : Option Addr} {n c : Nat} {L : List Ent} (hT : GeoOk ⟨z, d, s, l, a⟩ ∧ TabOk d L) (w : World) (ha : Sl entR 3 w (Old w) A n c L) (hn : n ≤ 6000) :
    Calls Try.prog 16 #[.agg #[.int .i64 z, .int .i64 d, .int .i64 s, .int .i64 l, .int .i64 a], .agg #[.slice A n c]] w fun e w' => e = .returned (.int .i64 0) ∧ Below w.heap.size w w' := by
  have h := check_any A n c L ⟨z, d, s, l, a⟩ w ha (by omega)
  rw [if_pos hT] at h
  exact h
theorem sl_newold {α : Type} {R : Rp α} {s : Nat} (hF : Fine R s) {w : World} {B : Nat} {A : Option Addr} {n c : Nat} {L : List α} (h : Sl R s w (New B w) A n c L) : Sl R s w (Old w) A n c L := h.move hF (fun _ _ => rfl) (fun b hb => hb.2)

set_option maxHeartbeats 4000000 in
theorem wakes10 (w : World) : Calls Try.prog 8 #[] w fun e w' => e = .returned (.bool true) ∧ Below w.heap.size w w' := by
  have hs0 := fun w => some_any 0 0 0 0 0 ⟨by omega, by omega⟩ ⟨by omega, by omega⟩ ⟨by omega, by omega⟩ ⟨by omega, by omega⟩ ⟨by omega, by omega⟩ w
  rw [some_zero] at hs0
  unfold Geo.v at hs0
  dsimp only at hs0
  have HS0 := hide hs0
  clear hs0
  obtain ⟨T, hT⟩ : ∃ T, T = newT 1 := ⟨_, rfl⟩
  have hT1 : TabOk 1 T := by rw [hT]; exact newT_ok 1
  have hT2 : T.length = 2 := by rw [hT]; exact newT_len 1
  have hT3 : T[0]? = some newEnt := by rw [hT]; exact newT_at (by omega)
  have hT4 : T[1]? = some newEnt := by rw [hT]; exact newT_at (by omega)
  obtain ⟨Q, hQ⟩ : ∃ Q, Q = crc zero8 := ⟨_, rfl⟩
  have hq : 0 < Q ∧ Q < 4294967296 := by rw [hQ]; exact ⟨crc_zero8, crc_lt _⟩
  have hNE : newEnt = ⟨0, (Q : Int), false⟩ := by rw [newEnt, hQ]
  rw [hNE] at hT3 hT4
  obtain ⟨hq0, hq1⟩ := hq
  have HT := hide hT
  have HT1 := hide hT1
  have HT2 := hide hT2
  have HT3 := hide hT3
  have HT4 := hide hT4
  have hno : ¬ (GeoOk ⟨1, 1, 0, 14, 1⟩ ∧ TabOk 1 []) := fun h => by have := h.2.1; simp at this
  have HNO := hide hno
  clear hT hT1 hT2 hT3 hT4 hQ hNE hno
  go_enter Try.func8, Try.ntmps8
  go_wp2_with fail
  refine (HS0.out _).mono ?_
  rintro e w1 ⟨rfl, hb1⟩
  have hE2 := alloc_below w1 (.cells #[.int .i64 1, .int .i64 1, .int .i64 0, .int .i64 14, .int .i64 1] 23)
  have bx : ∀ W, Below (w1.alloc (.cells #[.int .i64 1, .int .i64 1, .int .i64 0, .int .i64 14, .int .i64 1] 23)).heap.size (w1.alloc (.cells #[.int .i64 1, .int .i64 1, .int .i64 0, .int .i64 14, .int .i64 1] 23)) W → W.cell? ⟨w1.heap.size, 0, none⟩ = some (.int .i64 1) ∧ W.cell? ⟨w1.heap.size, 1, none⟩ = some (.int .i64 1) ∧ W.cell? ⟨w1.heap.size, 2, none⟩ = some (.int .i64 0) ∧ W.cell? ⟨w1.heap.size, 3, none⟩ = some (.int .i64 14) ∧ W.cell? ⟨w1.heap.size, 4, none⟩ = some (.int .i64 1) := fun W hW =>
    ⟨box_cell hW 0 _ rfl, box_cell hW 1 _ rfl, box_cell hW 2 _ rfl, box_cell hW 3 _ rfl, box_cell hW 4 _ rfl⟩
  have BX := hide bx
  clear bx
  have HF := hide (first_ok (k := 1) geo_one rfl (w1.alloc (.cells #[.int .i64 1, .int .i64 1, .int .i64 0, .int .i64 14, .int .i64 1] 23)))
  rw [← HT.out] at HF
  go_wp2_with fail
  refine HF.out.mono ?_
  rintro e w3 ⟨hb3, U3, n3, c3, rfl, hu3⟩
  have hE4 := alloc_below w3 (.cells #[.slice U3 n3 c3] 26)
  have hu4 := (sl_newold entR_fine hu3).on entR_fine hE4
  obtain ⟨p0, p1, p2, p3, p4⟩ := BX.out _ (th hb3 hE4)
  obtain rfl : n3 = 2 := by rw [← hu3.len]; exact HT2.out
  have HB := hide (tbytes_ok geo_one HT1.out _ hu4 (by omega))
  go_wp2_with fail
  refine HB.out.mono ?_
  rintro e w5 ⟨hb5, V5, c5, rfl, hv5⟩
  obtain ⟨q0, q1, q2, q3, q4⟩ := BX.out _ (th (th hb3 hE4) hb5)
  have HR := hide (read_yes geo_one HT1.out _ hv5 (by omega))
  go_wp2_with fail
  refine HR.out.mono ?_
  rintro e w6 ⟨hb6, U6, n6, c6, rfl, hu6⟩
  obtain rfl : n6 = 2 := by rw [← hu6.len]; exact HT2.out
  have hE7 := alloc_below w6 (.cells #[.slice U6 2 c6] 26)
  have hu7 := (sl_newold entR_fine hu6).on entR_fine hE7
  have hb27 := th (th hb3 hE4) (th hb5 (th hb6 hE7))
  obtain ⟨ad, x, rfl, hadl, hx, _, _, c00, c01, c02⟩ := at_ent hu7 (show 0 < 2 by omega)
  obtain ⟨ad', y, hadd, _, hy, _, _, c10, c11, c12⟩ := at_ent hu7 (show 1 < 2 by omega)
  injection hadd with hadd
  subst hadd
  rw [HT3.out] at hx
  rw [HT4.out] at hy
  injection hx with hx
  injection hy with hy
  subst hx; subst hy
  dsimp only at c00 c01 c02 c10 c11 c12
  have HC := hide (fun w => check_no HNO.out w (Sl.nil_ (R := entR) (s := 3) (w := w) (S := Old w) 0) (by omega))
  have ku : (w6.alloc (.cells #[.slice (some ad) 2 c6] 26)).cell? ⟨w6.heap.size, 0, none⟩ = some (.slice (some ad) 2 c6) := box_cell (Below.refl _ _) 0 _ rfl
  simp only [Nat.zero_mul, Nat.one_mul, add_zero'] at c00 c01 c02 c10 c11 c12
  obtain ⟨r0, r1, r2, r3, r4⟩ := BX.out _ hb27
  have hmv : ∀ W, Below (w6.alloc (.cells #[.slice (some ad) 2 c6] 26)).heap.size (w6.alloc (.cells #[.slice (some ad) 2 c6] 26)) W →
      (W.cell? ⟨w1.heap.size, 0, none⟩ = some (.int .i64 1) ∧ W.cell? ⟨w1.heap.size, 1, none⟩ = some (.int .i64 1) ∧ W.cell? ⟨w1.heap.size, 2, none⟩ = some (.int .i64 0) ∧ W.cell? ⟨w1.heap.size, 3, none⟩ = some (.int .i64 14) ∧ W.cell? ⟨w1.heap.size, 4, none⟩ = some (.int .i64 1)) ∧ W.cell? ⟨w6.heap.size, 0, none⟩ = some (.slice (some ad) 2 c6) ∧ W.cell? ad = some (.int .i64 0) ∧ W.cell? ⟨ad.block, ad.off + 1, none⟩ = some (.int .i64 Q) ∧ W.cell? ⟨ad.block, ad.off + 2, none⟩ = some (.bool false) ∧ W.cell? ⟨ad.block, ad.off + 3, none⟩ = some (.int .i64 0) ∧ W.cell? ⟨ad.block, ad.off + 3 + 1, none⟩ = some (.int .i64 Q) ∧ W.cell? ⟨ad.block, ad.off + 3 + 2, none⟩ = some (.bool false) := fun W hW =>
    ⟨BX.out _ (th hb27 hW), (hW.cell (by simp)).trans ku, (hW.cell hadl).trans c00, (hW.cell (p := ⟨ad.block, ad.off + 1, none⟩) hadl).trans c01, (hW.cell (p := ⟨ad.block, ad.off + 2, none⟩) hadl).trans c02, (hW.cell (p := ⟨ad.block, ad.off + 3, none⟩) hadl).trans c10, (hW.cell (p := ⟨ad.block, ad.off + 3 + 1, none⟩) hadl).trans c11, (hW.cell (p := ⟨ad.block, ad.off + 3 + 2, none⟩) hadl).trans c12⟩
  have HMV := hide hmv
  have eQ : ((Q : Int) == (Q : Int)) = true := by simp
  have dQ : decide (0 < (Q : Int)) = true := decide_eq_true (by omega)
  have hd0 : Below (w6.alloc (.cells #[.slice (some ad) 2 c6] 26)).heap.size (w6.alloc (.cells #[.slice (some ad) 2 c6] 26)) (w6.alloc (.cells #[.slice (some ad) 2 c6] 26)).drew := (Below.refl _ _).drew
  have hbase := th hb1 (th hE2 hb27)
  clear hmv c00 c01 c02 c10 c11 c12 r0 r1 r2 r3 r4 ku
  go_wp2_with fail
  go_region_held3 (fun w' => (w'.cell? ⟨w1.heap.size, 0, none⟩ = some (.int .i64 1) ∧ w'.cell? ⟨w1.heap.size, 1, none⟩ = some (.int .i64 1) ∧ w'.cell? ⟨w1.heap.size, 2, none⟩ = some (.int .i64 0) ∧ w'.cell? ⟨w1.heap.size, 3, none⟩ = some (.int .i64 14) ∧ w'.cell? ⟨w1.heap.size, 4, none⟩ = some (.int .i64 1)) ∧ w'.cell? ⟨w6.heap.size, 0, none⟩ = some (.slice (some ad) 2 c6) ∧ w'.cell? ad = some (.int .i64 0) ∧ w'.cell? ⟨ad.block, ad.off + 1, none⟩ = some (.int .i64 Q) ∧ w'.cell? ⟨ad.block, ad.off + 2, none⟩ = some (.bool false) ∧ w'.cell? ⟨ad.block, ad.off + 3, none⟩ = some (.int .i64 0) ∧ w'.cell? ⟨ad.block, ad.off + 3 + 1, none⟩ = some (.int .i64 Q) ∧ w'.cell? ⟨ad.block, ad.off + 3 + 2, none⟩ = some (.bool false)) (first | exact HMV.out _ hd0 | exact HMV.out _ hz0) (first
    | (go_at_call 16; refine (HC.out _).mono ?_; rintro e wA ⟨rfl, hz⟩; have hz0 : Below (w6.alloc (.cells #[.slice (some ad) 2 c6] 26)).heap.size (w6.alloc (.cells #[.slice (some ad) 2 c6] 26)) wA := th hd0 hz))
  all_goals go_wp2_with fail
  all_goals
    go_ret
    exact ⟨rfl, th hbase hz0⟩

end Go.Proofs.Ytamgpbkakmffiaa
