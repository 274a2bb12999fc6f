/-
  Contract: casemateref08.First.
-/
import Derived.Test.YtjlppkbmapmbiaaDoorAncF
import Derived.Test.YtjlppkbmapmbiaaDoorAncL1
namespace Go.Proofs.YtjlppkbmapmbiaaDoor
open Go.RowKit Go.Lib
set_option linter.unusedVariables false
set_option maxRecDepth 100000

set_option maxHeartbeats 4000000 in
theorem rafirst_any {g : Geo} {z d : Nat} (hz : g.zones = (z : Int)) (hd : g.data = (d : Int)) (hz4 : z ≤ 4) (hd4 : d ≤ 4) (name : ByteArray) (w : World) :
    Calls Tryd.prog 5 #[g.v, .string name] w fun e w' => Below w.heap.size w w' ∧ ∃ V c, e = .returned ((newAnc z d name).v (.slice V z c)) ∧ Sl homR 3 w' (New w.heap.size w') V z c (List.replicate z (newHom d)) := by
  obtain ⟨e0, he0, ee0, ee1, ee2⟩ := info_parts hom_info
  obtain ⟨i0, hi0, ii0, ii1, ii2⟩ := info_parts int_info
  obtain ⟨gz, gd, gs, gl, ga⟩ := g
  dsimp only at hz hd
  subst hz
  subst hd
  obtain ⟨W0, hW0⟩ : ∃ W0, W0 = (w.alloc (.cells #[.int .i64 (z : Int), .int .i64 (d : Int), .int .i64 gs, .int .i64 gl, .int .i64 ga] 24)).alloc (.cells #[.int .i64 0, .int .i64 0, .int .i64 0, .int .i64 0, .int .i64 0, .string ⟨#[]⟩, .slice none 0 0] 28) := ⟨_, rfl⟩
  have hS0 : (w.alloc (.cells #[.int .i64 (z : Int), .int .i64 (d : Int), .int .i64 gs, .int .i64 gl, .int .i64 ga] 24)).heap.size = w.heap.size + 1 := by simp
  have hW0s : W0.heap.size = w.heap.size + 1 + 1 := by rw [hW0]; simp
  have hb0 : Below w.heap.size w W0 := by rw [hW0]; exact (alloc_below w _).alloc (by simp) _
  have hg0 : GeoAt W0 w.heap.size ⟨(z : Int), (d : Int), gs, gl, ga⟩ := by rw [hW0]; exact (GeoAt.new w ⟨(z : Int), (d : Int), gs, gl, ga⟩ 24).on (alloc_below _ _)
  have hz0 : Sev W0 (w.heap.size + 1) (.int .i64 0) (.int .i64 0) (.int .i64 0) (.int .i64 0) (.int .i64 0) (.string ⟨#[]⟩) (.slice none 0 0) := by rw [hW0]; exact Sev.new hS0 (Below.refl _ _)
  have hf0 : ∀ W, Below W0.heap.size W0 W → ∀ k, W.frozen? ⟨w.heap.size + 1, k, none⟩ = false := fun W hW k => by subst hW0; exact bx_free2 hS0 hW k
  have HF0 := hide hf0
  obtain ⟨W3, hW3⟩ : ∃ W3, W3 = W0.alloc (.cells #[.int .i64 1, .int .i64 0, .int .i64 0, .int .i64 1, .int .i64 0, .string name, .slice none 0 0] 28) := ⟨_, rfl⟩
  have hb23 : Below W0.heap.size W0 W3 := by rw [hW3]; exact alloc_below _ _
  have hs3 : W3.heap.size = W0.heap.size + 1 := by rw [hW3]; simp
  have hsev3 : Sev W3 (w.heap.size + 1 + 1) (.int .i64 1) (.int .i64 0) (.int .i64 0) (.int .i64 1) (.int .i64 0) (.string name) (.slice none 0 0) := by rw [hW3]; exact Sev.new hW0s (Below.refl _ _)
  have hfr3 : W3.frozen? ⟨w.heap.size + 1 + 1, 6, none⟩ = false := by rw [hW3]; exact bx_free2 hW0s (Below.refl _ _) 6
  have HG2 := hide hg0
  have HS3 := hide hs3
  have HSEV3 := hide hsev3
  have HFR3 := hide hfr3
  have HZ0 := hide hz0
  unfold Geo.v
  dsimp only
  clear hsev3 hfr3 hf0 hz0
  go_enter Tryd.func5, Tryd.ntmps5
  go_wp2_with fail
  rw [← hW0, ← hW3]
  clear hW3 hW0
  go_loopw [6] (fun i wr => ∃ k : Nat, ∃ V cv, k ≤ z ∧ i = .int .i64 k ∧ Ow homR 3 wr ((w.heap.size + 1 + 1) + 1) ((w.heap.size + 1 + 1) + 1) 45 (.slice V k cv) k (List.replicate k (newHom d)) ∧ Hid (Sev wr (w.heap.size + 1 + 1) (.int .i64 1) (.int .i64 0) (.int .i64 0) (.int .i64 1) (.int .i64 0) (.string name) (.slice V k cv)) ∧ Hid (wr.frozen? ⟨(w.heap.size + 1 + 1), 6, none⟩ = false) ∧ Below W0.heap.size W0 wr ∧ (w.heap.size + 1 + 1) + 1 ≤ wr.heap.size) (fun i _ => z - (RowKit.intOf i).toNat)
  case atStart => exact ⟨0, none, 0, Nat.zero_le _, rfl, Ow.nil_ _ _ _ _, HSEV3, HFR3, hb23, by omega⟩
  case round =>
    obtain ⟨k, V, cv, hk, rfl, ho, hsev, hfr, hb, hsz⟩ := hrel
    obtain ⟨wo, rfl⟩ : ∃ wo : World, wo = wr := ⟨_, rfl⟩
    obtain ⟨_, r0, r1, r2, r3, r4⟩ := HG2.out.on hb
    by_cases hlt : k < z
    · obtain ⟨WH, hWH⟩ : ∃ WH, WH = wo.alloc (.cells #[.slice none 0 0, .int .i64 ((d : Int) + 1), .int .i64 0] 45) := ⟨_, rfl⟩
      have hbh : Below wo.heap.size wo WH := by rw [hWH]; exact alloc_below _ _
      have hsh : WH.heap.size = wo.heap.size + 1 := by rw [hWH]; simp
      have h0 : WH.cell? ⟨wo.heap.size, 0, none⟩ = some (.slice none 0 0) := by rw [hWH]; exact box_cell (Below.refl _ _) 0 _ rfl
      have h1 : WH.cell? ⟨wo.heap.size, 1, none⟩ = some (.int .i64 ((d : Int) + 1)) := by rw [hWH]; exact box_cell (Below.refl _ _) 1 _ rfl
      have h2 : WH.cell? ⟨wo.heap.size, 2, none⟩ = some (.int .i64 0) := by rw [hWH]; exact box_cell (Below.refl _ _) 2 _ rfl
      have h3 : WH.frozen? ⟨wo.heap.size, 0, none⟩ = false := by rw [hWH]; exact box_free (Below.refl _ _) 0
      have H0 := hide h0
      have H1 := hide h1
      have H2 := hide h2
      have H3 := hide h3
      obtain ⟨_, s0, s1, s2, s3, s4⟩ := HG2.out.on (hb.trans (hbh.mono hb.size))
      clear h0 h1 h2 h3
      go_wp2_with fail
      rw [← hWH]
      clear hWH
      go_loopw [8] (fun i wr => ∃ j : Nat, ∃ U cu, j ≤ d + 1 ∧ i = .int .i64 j ∧ Ow intR 1 wr (wo.heap.size + 1) (wo.heap.size + 1) 3 (.slice U j cu) j (upTo j) ∧ wr.cell? ⟨wo.heap.size, 0, none⟩ = some (.slice U j cu) ∧ Hid (wr.cell? ⟨wo.heap.size, 1, none⟩ = some (.int .i64 ((d : Int) + 1))) ∧ Hid (wr.cell? ⟨wo.heap.size, 2, none⟩ = some (.int .i64 0)) ∧ wr.frozen? ⟨wo.heap.size, 0, none⟩ = false ∧ Below wo.heap.size wo wr ∧ wo.heap.size + 1 ≤ wr.heap.size) (fun i _ => d + 1 - (RowKit.intOf i).toNat)
      case atStart => exact ⟨0, none, 0, Nat.zero_le _, rfl, Ow.nil_ _ _ _ _, H0.out, H1, H2, H3.out, hbh, by omega⟩
      case round =>
        obtain ⟨j, U, cu, hj, rfl, hu, ct, c1, c2, ft, hbr, hszr⟩ := hrel
        obtain ⟨_, s0, s1, s2, s3, s4⟩ := HG2.out.on (hb.trans (hbr.mono hb.size))
        by_cases hlt2 : j < d + 1
        · have hle : (j : Int) ≤ (d : Int) := by omega
          have hE := alloc_below wr (.cells #[.int .i64 j] 3)
          have huE := hu.below intR_fine hE
          have ctE : (wr.alloc (.cells #[.int .i64 j] 3)).cell? ⟨wo.heap.size, 0, none⟩ = some (.slice U j cu) := (hE.cell (by exact hszr)).trans ct
          have hlit : Is (wr.alloc (.cells #[.int .i64 j] 3)) (some ⟨wr.heap.size, 0, none⟩) 1 1 [(j : Int)] := lit_ints_at (n := 1) (l := [(j : Int)]) rfl rfl (by omega) (fun z hz => by simp at hz; subst hz; exact ⟨by omega, by omega⟩) rfl
          have hsE : wo.heap.size + 1 ≤ (wr.alloc (.cells #[.int .i64 j] 3)).heap.size := Nat.le_trans hszr hE.size
          have HFT := hide ft
          have HC1 := hide c1.out
          have HC2 := hide c2.out
          clear ft
          go_wp2_with (at_builtin; refine wpList_append_ow _ rfl (.tmp 28) (.tmp 30) _ rfl intR_fine (wo.heap.size + 1) (wo.heap.size + 1) 3 i0 _ 8 Tryd.underlying30 hi0 ii0 ii1 ii2 rfl (by omega) (.slice U j cu) j _ rfl huE _ _ 1 1 _ rfl hlit (fun _ _ _ h => h) (by simp only [maxLen]; omega) (by omega) hsE ?_; intro V6 w6 ho6 hg6 hat6; obtain ⟨A6, c6, rfl⟩ := ho6.form; have hb6 := below_grown (base := wo.heap.size + 1) hg6 huE.lt hsE; have ct6 : w6.cell? ⟨wo.heap.size, 0, none⟩ = some (.slice U j cu) := (hb6.cell (by simp)).trans ctE; have ft6 : w6.frozen? ⟨wo.heap.size, 0, none⟩ = false := (hb6.frozen (by simp)).trans ((hE.frozen (by exact hszr)).trans HFT.out))
          rw [← upTo_succ] at ho6
          go_roundw
          case rel => exact ⟨j + 1, A6, c6, by omega, by go_num, intPut ho6 _ _ (by simp), put_same ct6, hide (put_off' (by omega) ((hb6.cell (by simp)).trans ((hE.cell (by exact hszr)).trans HC1.out))), hide (put_off' (by omega) ((hb6.cell (by simp)).trans ((hE.cell (by exact hszr)).trans HC2.out))), (put_free _ _ _ _).trans ft6, ((hbr.trans (hE.mono hbr.size)).trans (hb6.mono (by omega))).setCell (by simp) _, by rw [set_size]; exact Nat.le_trans hsE hg6.size⟩
          case measure => (first | omega | (simp [RowKit.intOf]; omega) | (unfold RowKit.intOf; simp; omega) | go_num)
        · obtain rfl : j = d + 1 := by omega
          have hle : ¬ ((d + 1 : Nat) : Int) ≤ (d : Int) := by omega
          have hle2 : ¬ ((d : Int) + 1 ≤ (d : Int)) := by omega
          have c1' := c1.out
          have c2' := c2.out
          obtain ⟨v0, v1, v2, v3, v4, v5, v6⟩ := hsev.out.on hsz hbr
          have hE := alloc_below wr (.cells #[.slice U (d + 1) cu, .int .i64 ((d : Int) + 1), .int .i64 0] 45)
          have hor := ho.below homR_fine hbr
          have hoE := hor.below homR_fine hE
          have hsE : (w.heap.size + 1 + 1) + 1 ≤ (wr.alloc (.cells #[.slice U (d + 1) cu, .int .i64 ((d : Int) + 1), .int .i64 0] 45)).heap.size := Nat.le_trans hsz (Nat.le_trans hbr.size hE.size)
          have hbut : ∀ b, b < (wr.alloc (.cells #[.slice U (d + 1) cu, .int .i64 ((d : Int) + 1), .int .i64 0] 45)).heap.size → wo.heap.size + 1 ≤ b → But (wr.alloc (.cells #[.slice U (d + 1) cu, .int .i64 ((d : Int) + 1), .int .i64 0] 45)) ((w.heap.size + 1 + 1) + 1) (.slice V k cv) b := fun b h1 h2 => ⟨by omega, h1, fun e => by have := (ho.lt b e.symm).2; omega⟩
          have hlit : Sl homR 3 (wr.alloc (.cells #[.slice U (d + 1) cu, .int .i64 ((d : Int) + 1), .int .i64 0] 45)) (But (wr.alloc (.cells #[.slice U (d + 1) cu, .int .i64 ((d : Int) + 1), .int .i64 0] 45)) ((w.heap.size + 1 + 1) + 1) (.slice V k cv)) (some ⟨wr.heap.size, 0, none⟩) 1 1 [newHom d] :=
            lit_hom (x := newHom d) (((hu.below intR_fine hE).new_ intR_fine (Nat.le_refl _) (Nat.le_refl _)).move intR_fine (fun _ _ => rfl) (fun b hb => hbut b hb.2 hb.1)) ⟨by show (-9223372036854775808 : Int) ≤ (d : Int) + 1; omega, by show (d : Int) + 1 ≤ 9223372036854775807; omega⟩ ⟨by show (-9223372036854775808 : Int) ≤ 0; omega, by show (0 : Int) ≤ 9223372036854775807; omega⟩ (hbut _ (by simp) (by omega))
          have x6 : (wr.alloc (.cells #[.slice U (d + 1) cu, .int .i64 ((d : Int) + 1), .int .i64 0] 45)).cell? ⟨(w.heap.size + 1 + 1), 6, none⟩ = some (.slice V k cv) := (hE.cell (by show (w.heap.size + 1 + 1) < _; have := hbr.size; omega)).trans v6
          have hfrE : Hid ((wr.alloc (.cells #[.slice U (d + 1) cu, .int .i64 ((d : Int) + 1), .int .i64 0] 45)).frozen? ⟨(w.heap.size + 1 + 1), 6, none⟩ = false) := hide ((hE.frozen (by show (w.heap.size + 1 + 1) < _; have := hbr.size; omega)).trans ((hbr.frozen (by exact hsz)).trans hfr.out))
          have HSV : Hid (Sev (wr.alloc (.cells #[.slice U (d + 1) cu, .int .i64 ((d : Int) + 1), .int .i64 0] 45)) (w.heap.size + 1 + 1) (.int .i64 1) (.int .i64 0) (.int .i64 0) (.int .i64 1) (.int .i64 0) (.string name) (.slice V k cv)) := hide ((hsev.out.on hsz hbr).on (by have := hbr.size; omega) hE)
          have hb2E := hb.trans ((th hbr hE).mono hb.size)
          clear c1 c2 hbut
          go_wp2_with (at_builtin; refine wpList_append_ow _ rfl (.tmp 34) (.tmp 36) _ rfl homR_fine ((w.heap.size + 1 + 1) + 1) ((w.heap.size + 1 + 1) + 1) 45 e0 _ 40 Tryd.underlying26 he0 ee0 ee1 ee2 rfl (by omega) (.slice V k cv) k _ rfl hoE _ _ 1 1 _ rfl hlit (fun _ _ _ h => h) (by simp only [maxLen]; omega) (by omega) hsE ?_; intro V8 w8 ho8 hg8 hat8; obtain ⟨A8, c8, rfl⟩ := ho8.form; have hb8 := below_grown (base := (w.heap.size + 1 + 1) + 1) hg8 hoE.lt hsE; have ct8 : w8.cell? ⟨(w.heap.size + 1 + 1), 6, none⟩ = some (.slice V k cv) := (hb8.cell (by simp)).trans x6; have ft8 : w8.frozen? ⟨(w.heap.size + 1 + 1), 6, none⟩ = false := (hb8.frozen (by simp)).trans hfrE.out)
          go_roundw
          case rel => exact ⟨k + 1, A8, c8, by omega, by go_num, by rw [List.replicate_succ']; exact homPut ho8 _ _ (by simp) (by simp), hide ((HSV.out.onB (by omega) hb8).six _), hide ((put_free _ _ _ _).trans ft8), (hb2E.trans (hb8.mono (by omega))).setCell (by show W0.heap.size ≤ w.heap.size + 1 + 1; omega) _, by rw [set_size]; exact Nat.le_trans hsE hg8.size⟩
          case measure => (first | omega | (simp [RowKit.intOf]; omega) | (unfold RowKit.intOf; simp; omega) | go_num)
    · obtain rfl : k = z := by omega
      have hzr := HZ0.out.onB (by omega) hb
      have hzu := put7_sev hzr (.int .i64 1) (.int .i64 0) (.int .i64 0) (.int .i64 1) (.int .i64 0) (.string name) (.slice V k cv)
      unfold put7 at hzu
      have HZU := hide hzu
      have hf1 : ∀ j, wo.frozen? ⟨w.heap.size + 1, j, none⟩ = false := fun j => HF0.out _ hb j
      have f0 := hf1 0
      have f1 := hf1 1
      have f2 := hf1 2
      have f3 := hf1 3
      have f4 := hf1 4
      have f5 := hf1 5
      have f6 := hf1 6
      obtain ⟨y0, y1, y2, y3, y4, y5, y6⟩ := hzr
      obtain ⟨v0, v1, v2, v3, v4, v5, v6⟩ := hsev.out
      have hbw : Below w.heap.size w wo := th hb0 hb
      have hsl := put7_new homR_fine (ho.new_ homR_fine (Nat.le_refl _) (Nat.le_refl _)) (show w.heap.size + 1 < w.heap.size + 1 + 1 + 1 by omega) (.int .i64 1) (.int .i64 0) (.int .i64 0) (.int .i64 1) (.int .i64 0) (.string name) (.slice V k cv)
      have HSL := hide (hsl.new_less homR_fine (show w.heap.size ≤ w.heap.size + 1 + 1 + 1 by omega))
      clear hzu hf1 hsl
      go_wp2_with fail
      obtain ⟨u0, u1, u2, u3, u4, u5, u6⟩ := HZU.out
      exact bodyPost_ret (v := .agg #[.int .i64 1, .int .i64 0, .int .i64 0, .int .i64 1, .int .i64 0, .string name, .slice V k cv]) (by simp [results, Tryd.results5, go_sem, u0, u1, u2, u3, u4, u5, u6]) rfl ⟨put7_below hbw (by omega) _ _ _ _ _ _ _, V, cv, rfl, HSL.out⟩

end Go.Proofs.YtjlppkbmapmbiaaDoor
