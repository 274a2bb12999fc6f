/-
  The walk of the law casematelaw03.XorOrder.
-/
import Derived.Test.YtagkangpplkohaaLaw3c
import Derived.Deep.RegionLaw
import Derived.Deep.DeepCutAuto
import Derived.Deep.RegionWith
namespace Go.Proofs.Ytagkangpplkohaa
open Go.RowKit
set_option linter.unusedVariables false

theorem zxs_rev (o : List UInt8) (L : List (List UInt8)) : zxs o L.reverse = zxs o L := by
  induction L generalizing o with
  | nil => rfl
  | cons y L ih =>
    rw [List.reverse_cons, zxs_snoc, ih]
    show _ = zxs (zx o y) L
    rw [zxs_swap]

/-- A literal of two, on its way into an append. -/
theorem Sl.two_ {α : Type} {R : Rp α} {w : World} {lo : Nat} {V : Value} {e : TypeId} (hF : Fine R 1) {u1 u2 : Value} {x1 x2 : α} (h1 : R w (But w lo V) [u1] x1) (h2 : R w (But w lo V) [u2] x2) (hV : ∀ k, V.ownBlock = some k → k < w.heap.size) (hlo : lo ≤ w.heap.size) :
    Sl R 1 (w.alloc (.cells #[u1, u2] e)) (But (w.alloc (.cells #[u1, u2] e)) lo V) (some ⟨w.heap.size, 0, none⟩) 2 2 [x1, x2] := by
  have hmv : ∀ cs x, R w (But w lo V) cs x → R (w.alloc (.cells #[u1, u2] e)) (But (w.alloc (.cells #[u1, u2] e)) lo V) cs x := fun cs x hr =>
    hF.move hr (fun b hb => Below.heap_alloc _ _ _ hb.2.1) (fun b hb => ⟨hb.1, by have := hb.2.1; simp; omega, hb.2.2⟩)
  have hat := World.news_of_block (heap_alloc_new w (.cells #[u1, u2] e))
  refine ⟨rfl, Nat.le_refl _, fun _ => ⟨_, rfl, ⟨hlo, by simp, fun he => ?_⟩, fun i y hi => ?_⟩⟩
  · have := hV _ he.symm
    simp at this
  · have hi2 := (List.getElem?_eq_some_iff.1 hi).1
    simp at hi2
    obtain rfl | rfl : i = 0 ∨ i = 1 := by omega
    · simp at hi
      subst hi
      refine ⟨[u1], hmv _ _ h1, fun j u hu => ?_⟩
      obtain rfl : j = 0 := by have := (List.getElem?_eq_some_iff.1 hu).1; simp at this; omega
      rw [Nat.zero_mul, add_zero']
      exact hat 0 u (by simpa using hu)
    · simp at hi
      subst hi
      refine ⟨[u2], hmv _ _ h2, fun j u hu => ?_⟩
      obtain rfl : j = 0 := by have := (List.getElem?_eq_some_iff.1 hu).1; simp at this; omega
      rw [add_of_add]
      exact hat 1 u (by simpa using hu)

section
variable {w3 w4 : World} {V4 : Option Addr} {k c4 M : Nat} {L : List (List UInt8)} {e eb : TypeId}
/-- A row of noughts on its way into an append onto a twin: made behind the twin, before it, or laid before it. -/
theorem order_one (h : Ow (slR byteR 1) 1 w4 w3.heap.size w3.heap.size e (.slice V4 k c4) k L) (hs : w3.heap.size ≤ w4.heap.size) (hM : M ≤ 96) :
    Sl (slR byteR 1) 1 ((w4.alloc (.cells (madeCells #[.int .u8 0] M) eb)).alloc (.cells #[.slice (some ⟨w4.heap.size, 0, none⟩) M M] e))
      (But ((w4.alloc (.cells (madeCells #[.int .u8 0] M) eb)).alloc (.cells #[.slice (some ⟨w4.heap.size, 0, none⟩) M M] e)) w3.heap.size (.slice V4 k c4)) (some ⟨w4.heap.size + 1, 0, none⟩) 1 1 [List.replicate M 0] := by
  have hz := made_zero w4 eb M (by omega)
  have h1 := Sl.one_ (e := e) (V := .slice V4 k c4) (lo := w3.heap.size) bytesR_fine (w := w4.alloc (.cells (madeCells #[.int .u8 0] M) eb)) (cs := #[.slice (some ⟨w4.heap.size, 0, none⟩) M M]) (x := List.replicate M 0)
    ⟨_, _, _, rfl, hz.apart byteR_fine hs hs (fun q hq => by have := (h.lt q hq).2; omega)⟩ (fun q hq => by have := (h.lt q hq).2; simp; omega) (by simp; omega)
  have e1 : (w4.alloc (.cells (madeCells #[.int .u8 0] M) eb)).heap.size = w4.heap.size + 1 := by simp
  rw [e1] at h1
  exact h1
theorem order_two (h : Ow (slR byteR 1) 1 w4 (w3.alloc (.cells (madeCells #[.int .u8 0] M) eb)).heap.size (w3.alloc (.cells (madeCells #[.int .u8 0] M) eb)).heap.size e (.slice V4 k c4) k L)
    (hb : Below (w3.alloc (.cells (madeCells #[.int .u8 0] M) eb)).heap.size (w3.alloc (.cells (madeCells #[.int .u8 0] M) eb)) w4) (hM : M ≤ 96) :
    Sl (slR byteR 1) 1 (w4.alloc (.cells #[.slice (some ⟨w3.heap.size, 0, none⟩) M M] e)) (But (w4.alloc (.cells #[.slice (some ⟨w3.heap.size, 0, none⟩) M M] e)) w3.heap.size (.slice V4 k c4)) (some ⟨w4.heap.size, 0, none⟩) 1 1 [List.replicate M 0] := by
  have hz := made_zero w3 eb M (by omega)
  have hs : (w3.alloc (.cells (madeCells #[.int .u8 0] M) eb)).heap.size ≤ w4.heap.size := hb.size
  have hs' : w3.heap.size + 1 ≤ w4.heap.size := by simpa using hs
  refine Sl.one_ bytesR_fine (rep_past bytesR_fine ⟨_, _, _, rfl, hz.apart byteR_fine (V' := .slice none 0 0) (Nat.le_refl _) (Nat.le_refl _) (fun q hq => by simp [Value.ownBlock] at hq)⟩ hb (fun q hq => (h.lt q hq).1)) (fun q hq => (h.lt q hq).2) (by omega)
theorem order_three (h : Ow (slR byteR 1) 1 w4 ((w3.alloc (.cells (madeCells #[.int .u8 0] M) eb)).alloc (.cells #[.slice (some ⟨w3.heap.size, 0, none⟩) M M] e)).heap.size ((w3.alloc (.cells (madeCells #[.int .u8 0] M) eb)).alloc (.cells #[.slice (some ⟨w3.heap.size, 0, none⟩) M M] e)).heap.size e (.slice V4 k c4) k L)
    (hb : Below ((w3.alloc (.cells (madeCells #[.int .u8 0] M) eb)).alloc (.cells #[.slice (some ⟨w3.heap.size, 0, none⟩) M M] e)).heap.size ((w3.alloc (.cells (madeCells #[.int .u8 0] M) eb)).alloc (.cells #[.slice (some ⟨w3.heap.size, 0, none⟩) M M] e)) w4) (hM : M ≤ 96) :
    Sl (slR byteR 1) 1 w4 (But w4 w3.heap.size (.slice V4 k c4)) (some ⟨w3.heap.size + 1, 0, none⟩) 1 1 [List.replicate M 0] := by
  have hz := made_zero w3 eb M (by omega)
  have h1 := Sl.one_ (e := e) (V := .slice none 0 0) (lo := w3.heap.size) bytesR_fine (w := w3.alloc (.cells (madeCells #[.int .u8 0] M) eb)) (cs := #[.slice (some ⟨w3.heap.size, 0, none⟩) M M]) (x := List.replicate M 0)
    ⟨_, _, _, rfl, hz.apart byteR_fine (Nat.le_refl _) (Nat.le_refl _) (fun q hq => by simp [Value.ownBlock] at hq)⟩ (fun q hq => by simp [Value.ownBlock] at hq) (by simp)
  have e1 : (w3.alloc (.cells (madeCells #[.int .u8 0] M) eb)).heap.size = w3.heap.size + 1 := by simp
  rw [e1] at h1
  exact h1.past bytesR_fine hb (fun q hq => (h.lt q hq).1)
end

set_option maxHeartbeats 1000000 in
set_option maxRecDepth 100000 in
theorem law_xorOrder {A : Option Addr} {n c : Nat} {L : List (List UInt8)} {w : World} (ha : Rs w A n c L) (N : Int) (hN : InI N) (i : Int) (hi : InI i) :
    Calls Try.prog 5 #[.slice A n c, .int .i64 N, .int .i64 i] w fun e w' => e = .returned (.bool true) ∧ Below w.heap.size w w' := by
  have hh := heavy_any A n c L w ha
  by_cases hv : heavyB L = true
  · rw [hv] at hh
    have HH := hide hh
    clear hh hv
    go_enter Try.func5, Try.ntmps5
    go_wp2_with fail
    refine (unhide HH).mono ?_
    rintro e w' ⟨rfl, rfl⟩
    go_wp2_with fail
    go_ret
    exact ⟨rfl, Below.refl _ _⟩
  have hv' : heavyB L = false := by simpa using hv
  rw [hv'] at hh
  obtain ⟨hL20, hL200⟩ := heavy_len hv'
  have HH := hide hh
  clear hh hv hv'
  by_cases hN0 : N < 0
  · go_enter Try.func5, Try.ntmps5
    go_wp2_with fail
    refine (unhide HH).mono ?_
    rintro e w' ⟨rfl, rfl⟩
    go_wp2_with fail
    go_ret
    exact ⟨rfl, Below.refl _ _⟩
  by_cases hN96 : 96 < N
  · go_enter Try.func5, Try.ntmps5
    go_wp2_with fail
    refine (unhide HH).mono ?_
    rintro e w' ⟨rfl, rfl⟩
    go_wp2_with fail
    go_ret
    exact ⟨rfl, Below.refl _ _⟩
  have hnl := ha.len
  have hn20 : n ≤ 20 := by omega
  have HL := hide hL200
  have HNL := hide hnl
  clear hL20 hL200 hnl
  by_cases hlong : IsLong L N (-1)
  · have HLO := hide (long_true N (-1) A n c L w ha (by omega) hlong)
    have HLONG := hide hlong
    clear hlong
    obtain ⟨M, rfl⟩ : ∃ M : Nat, N = (M : Int) := ⟨N.toNat, by omega⟩
    have hM : M ≤ 96 := by omega
    have hLM : ∀ l ∈ L, l.length = M := (isLong_iff L M).1 HLONG.out
    have hLR : ∀ l ∈ L.reverse, l.length = M := fun l hl => hLM l (List.mem_reverse.1 hl)
    have HM := hide hLM
    have HR := hide hLR
    obtain ⟨i0, hi0, hz0, hz1, hz2⟩ := info_parts row_info
    obtain ⟨j0, hj0, hy0, hy1, hy2⟩ := info_parts u8_info
    have hmk := run_make_all (P := Try.prog) 22 5 j0 _ 1 1 Try.underlying22 hj0 hy0 hy1 hy2 .i64 .i64 M (by omega) (by omega)
    simp only [Nat.mul_one, Value.cells] at hmk
    clear hLM HLONG hLR
    have e2 : decide ((M : Int) < 0) = false := by simp
    have e3 : decide (96 < (M : Int)) = false := by simp; omega
    clear hN0 hN96
    go_enter Try.func5, Try.ntmps5
    go_wp2_with fail
    refine (unhide HH).mono ?_
    rintro e w' ⟨rfl, rfl⟩
    go_wp2_with fail
    refine (unhide HLO).mono ?_
    rintro e w' ⟨rfl, rfl⟩
    go_wp2_with fail
    refine (all_ok M _ _ _ L _ ha (by omega) hM HM.out).mono ?_
    rintro e w1 ⟨V1, c1, rfl, ho1, hb1⟩
    have ha1 := ha.on bytesR_fine hb1
    go_wp2_with fail
    go_loopw [9, 10] (fun v i wr => ∃ k : Nat, ∃ V cv, k ≤ n ∧ i = .int .i64 ((n : Int) - 1 - (k : Int)) ∧ v = .slice V k cv ∧ Ow (slR byteR 1) 1 wr w1.heap.size 0 22 (.slice V k cv) k (L.reverse.take k) ∧ Below w1.heap.size w1 wr) (fun _ i _ => (intOf i + 1).toNat)
    case atStart => exact ⟨0, none, 0, Nat.zero_le _, by go_num, rfl, Ow.nil_ _ _ _ _, Below.refl _ _⟩
    case round =>
      obtain ⟨k, V, cv, hk, rfl, rfl, ho, hb⟩ := hrel
      by_cases hlt : k < n
      · have har : Sl (slR byteR 1) 1 wr (Old w1) A n c L := ha1.move bytesR_fine (fun b hb' => hb.block b hb') (fun _ h => h)
        obtain ⟨ad, l, A1, n1, c1', rfl, _, hx, hs, hcell⟩ := at_row har (by omega : n - 1 - k < n)
        have hs1 : Sl (slR byteR 1) 1 (wr.alloc (.cells #[.slice A1 n1 c1'] 22)) (But (wr.alloc (.cells #[.slice A1 n1 c1'] 22)) 0 (.slice V k cv)) (some ⟨wr.heap.size, 0, none⟩) 1 1 [l] :=
          Sl.one_ bytesR_fine ⟨_, _, _, rfl, hs.move byteR_fine (fun _ _ => rfl) (fun b hb' => ⟨Nat.zero_le _, Nat.lt_of_lt_of_le hb' hb.size, fun he => by have h1 := (ho.lt b he.symm).1; have h2 : b < w1.heap.size := hb'; omega⟩)⟩ (fun q hq => (ho.lt q hq).2) (Nat.zero_le _)
        have ho3 := ho.alloc bytesR_fine (.cells #[.slice A1 n1 c1'] 22)
        have hb3 : Below w1.heap.size w1 (wr.alloc (.cells #[.slice A1 n1 c1'] 22)) := hb.alloc hb.size _
        have hnext : L.reverse.take k ++ [l] = L.reverse.take (k + 1) := by
          have hkl : k < L.reverse.length := by rw [List.length_reverse, HNL.out]; exact hlt
          rw [List.take_succ_eq_append_getElem hkl, List.getElem_reverse]
          obtain ⟨h1, h2⟩ := List.getElem?_eq_some_iff.1 hx
          congr 2
          rw [← h2]
          congr 1
          rw [HNL.out]
        have HN := hide hnext
        clear hx hnext
        go_wp2_with (at_builtin; go_loud (refine wpList_append_ow _ rfl (.tmp 45) (.tmp 50) _ rfl bytesR_fine w1.heap.size 0 22 i0 _ 24 Try.underlying28 hi0 hz0 hz1 hz2 rfl (by omega) (.slice V k cv) k (L.reverse.take k) rfl ho3 _ _ 1 1 [l] rfl hs1 (fun _ _ _ h => h) (by simp only [maxLen]; omega) (by omega) hb3.size ?_); intro V2 w2 ho4 hg4 hat4)
        rw [HN.out] at ho4
        obtain ⟨V3, cv3, rfl⟩ := ho4.form
        go_roundw
        case rel => exact ⟨k + 1, V3, cv3, by omega, by go_num, rfl, ho4, hb3.trans (below_grown hg4 ho3.lt hb3.size)⟩
        case measure => simp [intOf]; omega
      · have hkn : k = n := by omega
        subst hkn
        rw [List.take_of_length_le (by rw [List.length_reverse, HNL.out]; omega)] at ho
        have k1 := th hb1 hb
        have ha2 := ha1.on bytesR_fine hb
        have r1 := (ho1.read byteR_fine).on byteR_fine hb
        have t1 := ho.read bytesR_fine
        go_wp2_with fail
        refine (all_ok M _ _ _ L.reverse _ t1 (by omega) hM HR.out).mono ?_
        rintro e w3 ⟨V3, c3, rfl, ho3, hb3⟩
        go_upto_region 10 with fail
        have ha3 := ha2.on bytesR_fine hb3
        have HA3 := hide ha3
        go_cut [13] (fun v wx => ∃ V cv, v = .slice V (k + 1) cv ∧ Ow (slR byteR 1) 1 wx w3.heap.size w3.heap.size 22 (.slice V (k + 1) cv) (k + 1) (L ++ [List.replicate M 0]) ∧ Below w3.heap.size w3 wx)
        case first =>
          have hrep : ∀ {W : World}, Below w3.heap.size w3 W → Rs W A k c L := fun hb => ha3.on bytesR_fine hb
          go_region_law (first
            | (refine step_append_ow _ (by rfl) _ _ _ (by rfl) bytesR_fine w3.heap.size w3.heap.size 22 i0 _ 24 Try.underlying28 hi0 hz0 hz1 hz2 rfl (by omega) (.slice V4 k c4) k L (by rfl) ?_ (But _ w3.heap.size (.slice V4 k c4)) _ 1 1 [List.replicate M 0] (by rfl) ?_ (fun _ _ _ h => h) (by simp only [maxLen]; omega) (by omega) ?_ ?_; (first | exact (ho5.alloc bytesR_fine _).alloc bytesR_fine _ | exact ho5.alloc bytesR_fine _ | exact ho5); (first | exact order_one ho5 hb5.size hM | exact order_two ho4 hb6 hM | exact order_three ho4 hb6 hM); (first | exact hb5.size | (have := hb5.size; simp; omega)); intro V5 w5 ho6 hg6 hat6; obtain ⟨V6, c6, rfl⟩ := ho6.form)
            | (go_simp; go_at_call 19; refine (twinrows_any _ _ _ L _ ?_ (by omega) (fun l hl => by rw [HM.out l hl]; omega)).mono ?_; (first | exact hrep (Below.refl _ _).drew | exact hrep ((Below.refl _ _).alloc (Nat.le_refl _) _).drew | exact hrep (((Below.refl _ _).alloc (Nat.le_refl _) _).alloc (by simp) _).drew); rintro e w4 ⟨V4, c4, rfl, ho4, hb4⟩; have ho5 : Ow (slR byteR 1) 1 w4 w3.heap.size w3.heap.size 22 (.slice V4 k c4) k L := ho4.less bytesR_fine (by simp <;> omega) (by simp <;> omega); have hb6 := undrew hb4; have hb5 : Below w3.heap.size w3 w4 := (by first | exact hb6 | exact ((Below.refl _ _).alloc (Nat.le_refl _) _).trans (hb6.mono (by simp)) | exact (((Below.refl _ _).alloc (Nat.le_refl _) _).alloc (by simp) _).trans (hb6.mono (by simp; omega)))))
          all_goals (go_wp2_with fail; go_meet; exact ⟨V6, c6, rfl, ho6, (by first | exact hb5.trans (below_grown2 hg6 (fun q hq => (ho5.lt q hq).1) hb5.size) | exact (hb5.alloc hb5.size _).trans (below_grown2 hg6 (fun q hq => (ho5.lt q hq).1) (by have := hb5.size; simp; omega)) | exact ((hb5.alloc hb5.size _).alloc (by have := hb5.size; simp; omega) _).trans (below_grown2 hg6 (fun q hq => (ho5.lt q hq).1) (by have := hb5.size; simp; omega)))⟩)
        case rest =>
          obtain ⟨V6, c6, rfl, ho6, hb6⟩ := hcut
          have k4 := th (th k1 hb3) hb6
          obtain ⟨w4, hw4⟩ : ∃ w4, w4 = wc := ⟨_, rfl⟩
          subst hw4
          have ha4 := ha3.on bytesR_fine hb6
          have r4 := r1.on byteR_fine hb3
          have r5 := ho3.read byteR_fine
          have k3 := th k1 hb3
          have hsz : w.heap.size ≤ w3.heap.size := (th k1 hb3).size
          have hsz4 : w3.heap.size ≤ w4.heap.size := hb6.size
          have haw : Sl (slR byteR 1) 1 w4 (Old w) A k c L := ha.move bytesR_fine (fun b hb' => k4.block b hb') (fun _ h => h)
          clear ha3 HA3 ho3 hb3 ho1 hb1 ho hb ha1 ha2 t1 r1 k1
          have hz1 : (List.replicate M (0 : UInt8)).length = M := by simp
          have HX0 : Hid (∀ l ∈ L ++ [List.replicate M 0], l.length = M) := by
            intro l hl
            rcases List.mem_append.1 hl with h | h
            · exact HM.out l h
            · simp at h
              rw [h, hz1]
          have HE0 : Hid (zxs (List.replicate M 0) (L ++ [List.replicate M 0]) = zxs (List.replicate M 0) L) := by
            show _ = _
            rw [zxs_snoc, zx_comm, zxs_zero M _ (zxs_len _ _ M hz1 HM.out)]
          clear hz1
          go_upto_if 66 with fail
          go_cut [2, 13] (fun a v wx => ∃ V q cv X, v = .slice V q cv ∧ Rs wx V q cv X ∧ q ≤ 100 ∧ Hid (∀ l ∈ X, l.length = M) ∧ Hid (zxs (List.replicate M 0) X = zxs (List.replicate M 0) L) ∧ Below w3.heap.size w4 wx)
          case first =>
            by_cases hk0 : k = 0
            · subst hk0
              go_wp2_with fail
              go_meet
              exact ⟨V6, 0 + 1, c6, _, rfl, ho6.read bytesR_fine, by omega, HX0, HE0, Below.refl _ _⟩
            · have hk1 : 1 ≤ k := by omega
              obtain ⟨q, hq, hqk⟩ := uint_mod i k hk1 (by omega)
              obtain ⟨ad, l, A1, n1, c1', rfl, hadl, hx, hs, hcell⟩ := at_row haw hqk
              have hln := HM.out l (List.mem_of_getElem? hx)
              have ho7 : Ow (slR byteR 1) 1 w4 w3.heap.size 0 22 (.slice V6 (k + 1) c6) (k + 1) (L ++ [List.replicate M 0]) := ho6.less bytesR_fine (Nat.le_refl _) (Nat.zero_le _)
              have hrep : slR byteR 1 w4 (But w4 0 (.slice V6 (k + 1) c6)) [.slice A1 n1 c1'] l := ⟨_, _, _, rfl, hs.move byteR_fine (fun _ _ => rfl) (fun b hb' => ⟨Nat.zero_le _, by have h2 : b < w.heap.size := hb'; omega, fun he => by have h1 := (ho7.lt b he.symm).1; have h2 : b < w.heap.size := hb'; omega⟩)⟩
              have hs2 := (Sl.two_ (e := 22) bytesR_fine hrep hrep (fun r hr => (ho7.lt r hr).2) (Nat.zero_le _)).drew bytesR_fine
              have ho8 := (ho7.alloc bytesR_fine (.cells #[.slice A1 n1 c1', .slice A1 n1 c1'] 22)).drew bytesR_fine
              have hb8 : Below w4.heap.size w4 (w4.alloc (.cells #[.slice A1 n1 c1', .slice A1 n1 c1'] 22)).drew := (alloc_below _ _).drew
              have hb3 : Below w3.heap.size w4 (w4.alloc (.cells #[.slice A1 n1 c1', .slice A1 n1 c1'] 22)).drew := hb8.mono hsz4
              have HX1 : Hid (∀ l' ∈ (L ++ [List.replicate M 0]) ++ [l, l], l'.length = M) := by
                intro l' hl
                rcases List.mem_append.1 hl with h | h
                · exact HX0.out l' h
                · simp at h
                  rw [h]; exact hln
              have HE1 : Hid (zxs (List.replicate M 0) ((L ++ [List.replicate M 0]) ++ [l, l]) = zxs (List.replicate M 0) L) := by
                have hz1 : (List.replicate M (0 : UInt8)).length = M := by simp
                show _ = _
                rw [show (L ++ [List.replicate M 0]) ++ [l, l] = ((L ++ [List.replicate M 0]) ++ [l]) ++ [l] from by simp, zxs_snoc, zxs_snoc, HE0.out, zx_assoc, zx_self' l M hln, zx_comm, zxs_zero M _ (zxs_len _ _ M hz1 HM.out)]
              have hq0 : (0 : Int) ≤ (q : Int) := Int.natCast_nonneg _
              have hq1 : (q : Int) < (k : Int) := by omega
              have hcw : w.cell? (ad.add q) = some (.slice A1 n1 c1') := (k4.cell (by rw [block_of_add]; exact hadl)).symm.trans hcell
              have HQ := hide hq
              clear hx hln hq hs hrep
              go_wp2_with fail
              go_upto_region 13 with fail
              rw [HQ.out]
              have hadl' : ad.block < w3.heap.size := Nat.lt_of_lt_of_le hadl hsz
              go_region_held3 (fun w' => w'.cell? (ad.add q) = some (.slice A1 n1 c1')) (first | go_keep | exact below_cell hb12 hadl' hcell) ((refine step_append_ow _ (by rfl) _ _ _ (by rfl) bytesR_fine w3.heap.size 0 22 i0 _ 24 Try.underlying28 hi0 hz0 hz1 hz2 rfl (by omega) (.slice V6 (k + 1) c6) (k + 1) _ (by rfl) ho8 _ _ 2 2 _ (by rfl) hs2 (fun _ _ _ h => h) (by simp only [maxLen]; omega) (by omega) (Nat.le_trans hsz4 hb3.size) ?_; intro V10 w5 ho10 hg10 hat10; have hb12 := hb3.trans (below_grown hg10 ho8.lt (Nat.le_trans hsz4 hb3.size)); obtain ⟨V11, c11, rfl⟩ := ho10.form))
              go_wp2_with fail
              go_meet
              exact ⟨V11, k + 1 + 2, c11, _, rfl, ho10.read bytesR_fine, by omega, HX1, HE1, hb12⟩
          case rest =>
            obtain ⟨V9, q, c9, X, rfl, hr9, hq9, HX, HE, hb9⟩ := hcut
            go_wp2_with fail
            refine (all_ok M _ _ _ X _ hr9 (by omega) hM HX.out).mono ?_
            rintro e w10 ⟨V10, c10, rfl, ho10, hb10⟩
            rw [HE.out] at ho10
            have hrv : zxs (List.replicate M 0) L.reverse = zxs (List.replicate M 0) L := zxs_rev _ _
            rw [hrv] at r5
            clear hrv
            have hb910 := th (hb6.trans hb9) hb10
            have f4 := r4.on byteR_fine hb910
            go_wp2_with fail
            refine (bytes_same _ f4 (r5.on byteR_fine hb910) (by omega)).mono ?_
            rintro e w11 ⟨rfl, hb11⟩
            go_wp2_with fail
            refine (bytes_same _ (f4.on byteR_fine hb11) ((ho10.read byteR_fine).on byteR_fine hb11) (by omega)).mono ?_
            rintro e w12 ⟨rfl, hb12⟩
            go_wp2_with fail
            refine (wakes3 _).mono ?_
            rintro e w13 ⟨rfl, hb13⟩
            go_wp2_with fail
            go_ret
            exact ⟨rfl, th (th k3 hb910) (th (th hb11 hb12) hb13)⟩
  · have HLO := hide (long_false N (-1) A n c L w ha (by omega) hlong)
    clear hlong
    go_enter Try.func5, Try.ntmps5
    go_wp2_with fail
    refine (unhide HH).mono ?_
    rintro e w' ⟨rfl, rfl⟩
    go_wp2_with fail
    refine (unhide HLO).mono ?_
    rintro e w' ⟨rfl, rfl⟩
    go_wp2_with fail
    go_ret
    exact ⟨rfl, Below.refl _ _⟩

end Go.Proofs.Ytagkangpplkohaa
