/-
  Contract: anchor.First.
-/
import Derived.Test.YtamgpbkakmffiaaDoorAncW
namespace Go.Proofs.YtamgpbkakmffiaaDoor
open Go.RowKit Go.Lib
set_option linter.unusedVariables false
set_option maxRecDepth 100000

/-- What anchor.First tells. -/
def AFirst (g : Geo) (name : ByteArray) (a : Anc) (err : Int) : Prop := (¬ GeoOk g ∧ err = 1 ∧ a = noAnc) ∨ (GeoOk g ∧ labE (sL name) ≠ 0 ∧ err = labE (sL name) ∧ a = noAnc) ∨ (GeoOk g ∧ labE (sL name) = 0 ∧ err = 0 ∧ a = newAnc g.zones.toNat g.data.toNat name)
def AFirstPost (w : World) (g : Geo) (name : ByteArray) (e : Ending) (w' : World) : Prop := Below w.heap.size w w' ∧ ∃ a v err, e = .returned (.tuple #[v, .int .i64 err]) ∧ AncRet w a v w' ∧ AFirst g name a err

set_option maxHeartbeats 4000000 in
theorem afirst_any (g : Geo) (name : ByteArray) (hs : name.size ≤ 60000) (w : World) (hT : Tabs w) :
    Calls Tryd.prog 33 #[g.v, .string name] w (AFirstPost w g name) := by
  obtain ⟨e0, he0, ee0, ee1, ee2⟩ := info_parts hom_info
  obtain ⟨i0, hi0, ii0, ii1, ii2⟩ := info_parts int_info
  obtain ⟨W0, hW0⟩ : ∃ W0, W0 = (w.alloc (.cells #[.int .i64 g.zones, .int .i64 g.data, .int .i64 g.spares, .int .i64 g.slots, .int .i64 g.anchors] 23)).alloc (.cells #[.int .i64 0, .int .i64 0, .int .i64 0, .int .i64 0, .int .i64 0, .string ⟨#[]⟩, .slice none 0 0] 26) := ⟨_, rfl⟩
  have hS0 : (w.alloc (.cells #[.int .i64 g.zones, .int .i64 g.data, .int .i64 g.spares, .int .i64 g.slots, .int .i64 g.anchors] 23)).heap.size = w.heap.size + 1 := by simp
  have hW0s : W0.heap.size = w.heap.size + 2 := by rw [hW0]; simp
  have hb0 : Below w.heap.size w W0 := by rw [hW0]; exact (alloc_below w _).alloc (by simp) _
  have hT0 := hT.below hb0
  have hg0 : GeoAt W0 w.heap.size g := by rw [hW0]; exact (GeoAt.new w g 23).on (alloc_below _ _)
  have hz0 : Sev W0 (w.heap.size + 1) (.int .i64 0) (.int .i64 0) (.int .i64 0) (.int .i64 0) (.int .i64 0) (.string ⟨#[]⟩) (.slice none 0 0) := by rw [hW0]; exact Sev.new hS0 (Below.refl _ _)
  have hf0 : ∀ W, Below W0.heap.size W0 W → ∀ k, W.frozen? ⟨w.heap.size + 1, k, none⟩ = false := fun W hW k => by subst hW0; exact bx_free2 hS0 hW k
  have HF0 := hide hf0
  have hck := fun w => gcheck_any g w
  have hlb := fun w hT => lcheck_any name (by omega) w hT
  have hnone : ∀ W, Below W0.heap.size W0 W → AncRet w noAnc (.agg #[.int .i64 0, .int .i64 0, .int .i64 0, .int .i64 0, .int .i64 0, .string ⟨#[]⟩, .slice none 0 0]) (put7 W (w.heap.size + 1) (.int .i64 0) (.int .i64 0) (.int .i64 0) (.int .i64 0) (.int .i64 0) (.string ⟨#[]⟩) (.slice none 0 0)) := fun W hW => ⟨none, 0, 0, rfl, Sl.nil_ _⟩
  have HNONE := hide hnone
  unfold AFirstPost
  unfold Geo.v at hck ⊢
  by_cases hG : GeoOk g
  · have he : geoErr g = 0 := if_pos hG
    rw [he] at hck
    have HCK := hide hck
    have HG := hide hG
    obtain ⟨z, hz⟩ : ∃ z : Nat, g.zones = (z : Int) := ⟨g.zones.toNat, by have := hG.1; omega⟩
    obtain ⟨d, hd⟩ : ∃ d : Nat, g.data = (d : Int) := ⟨g.data.toNat, by have := hG.2.1; omega⟩
    have hz4 : z ≤ 4 := by have := hG.1; omega
    have hd4 : d ≤ 4 := by have := hG.2.1; omega
    obtain ⟨E, hE⟩ : ∃ E, E = labE (sL name) := ⟨_, rfl⟩
    rw [← hE] at hlb
    have HLB := hide hlb
    have HE := hide hE
    by_cases hE0 : E = 0
    · obtain rfl := hE0
      have hAF : AFirst g name (newAnc z d name) 0 := by
        refine .inr (.inr ⟨hG, hE.symm, rfl, ?_⟩)
        rw [hz, hd]
        rfl
      have HAF := hide hAF
      clear hck he hG hlb hE hnone hf0 hAF
      rw [hz, hd] at hW0
      obtain ⟨gz, gd, gs, gl, ga⟩ := g
      dsimp only at hz hd hW0 HCK hg0 ⊢
      subst hz
      subst hd
      go_enter Tryd.func33, Tryd.ntmps33
      go_wp2_with fail
      rw [← hW0]
      clear hW0
      refine (HCK.out _).mono ?_
      rintro e w1 ⟨rfl, hb1⟩
      go_wp2_with fail
      refine (HLB.out _ (hT0.below hb1)).mono ?_
      rintro e w2 ⟨rfl, hb2⟩
      have hb02 := th hb1 hb2
      obtain ⟨hgl, p0, p1, p2, p3, p4⟩ := hg0.on hb02
      have hs2 : w.heap.size + 2 ≤ w2.heap.size := by rw [← hW0s]; exact hb02.size
      obtain ⟨W3, hW3⟩ : ∃ W3, W3 = w2.alloc (.cells #[.int .i64 1, .int .i64 0, .int .i64 0, .int .i64 1, .int .i64 0, .string name, .slice none 0 0] 26) := ⟨_, rfl⟩
      have hb23 : Below w2.heap.size w2 W3 := by rw [hW3]; exact alloc_below _ _
      have hs3 : W3.heap.size = w2.heap.size + 1 := by rw [hW3]; simp
      have hsev3 : Sev W3 w2.heap.size (.int .i64 1) (.int .i64 0) (.int .i64 0) (.int .i64 1) (.int .i64 0) (.string name) (.slice none 0 0) := by rw [hW3]; exact Sev.new rfl (Below.refl _ _)
      have hfr3 : W3.frozen? ⟨w2.heap.size, 6, none⟩ = false := by rw [hW3]; exact bx_free2 rfl (Below.refl _ _) 6
      have hg2 : GeoAt w2 w.heap.size ⟨(z : Int), (d : Int), gs, gl, ga⟩ := hg0.on hb02
      have HG2 := hide hg2
      have HS3 := hide hs3
      have HSEV3 := hide hsev3
      have HFR3 := hide hfr3
      obtain ⟨_, r0, r1, r2, r3, r4⟩ := hg2.on hb23
      clear hsev3 hfr3
      go_wp2_with fail
      rw [← hW3]
      clear hW3
      have hN7 : w2.heap.size < W3.heap.size := by omega
      go_loopw [24] (fun i wr => ∃ k : Nat, ∃ V cv, k ≤ z ∧ i = .int .i64 k ∧ Ow homR 3 wr (w2.heap.size + 1) (w2.heap.size + 1) 44 (.slice V k cv) k (List.replicate k (newHom d)) ∧ Hid (Sev wr w2.heap.size (.int .i64 1) (.int .i64 0) (.int .i64 0) (.int .i64 1) (.int .i64 0) (.string name) (.slice V k cv)) ∧ Hid (wr.frozen? ⟨w2.heap.size, 6, none⟩ = false) ∧ Below w2.heap.size w2 wr ∧ w2.heap.size + 1 ≤ wr.heap.size) (fun i _ => z - (RowKit.intOf i).toNat)
      case atStart => exact ⟨0, none, 0, Nat.zero_le _, rfl, Ow.nil_ _ _ _ _, HSEV3, HFR3, hb23, by omega⟩
      case round =>
        obtain ⟨k, V, cv, hk, rfl, ho, hsev, hfr, hb, hsz⟩ := hrel
        obtain ⟨wo, rfl⟩ : ∃ wo : World, wo = wr := ⟨_, rfl⟩
        obtain ⟨_, r0, r1, r2, r3, r4⟩ := HG2.out.on hb
        by_cases hlt : k < z
        · obtain ⟨WH, hWH⟩ : ∃ WH, WH = wo.alloc (.cells #[.slice none 0 0, .int .i64 ((d : Int) + 1), .int .i64 0] 44) := ⟨_, rfl⟩
          have hbh : Below wo.heap.size wo WH := by rw [hWH]; exact alloc_below _ _
          have hsh : WH.heap.size = wo.heap.size + 1 := by rw [hWH]; simp
          have h0 : WH.cell? ⟨wo.heap.size, 0, none⟩ = some (.slice none 0 0) := by rw [hWH]; exact box_cell (Below.refl _ _) 0 _ rfl
          have h1 : WH.cell? ⟨wo.heap.size, 1, none⟩ = some (.int .i64 ((d : Int) + 1)) := by rw [hWH]; exact box_cell (Below.refl _ _) 1 _ rfl
          have h2 : WH.cell? ⟨wo.heap.size, 2, none⟩ = some (.int .i64 0) := by rw [hWH]; exact box_cell (Below.refl _ _) 2 _ rfl
          have h3 : WH.frozen? ⟨wo.heap.size, 0, none⟩ = false := by rw [hWH]; exact box_free (Below.refl _ _) 0
          have H0 := hide h0
          have H1 := hide h1
          have H2 := hide h2
          have H3 := hide h3
          obtain ⟨_, s0, s1, s2, s3, s4⟩ := HG2.out.on (hb.trans (hbh.mono hb.size))
          clear h0 h1 h2 h3
          go_wp2_with fail
          rw [← hWH]
          clear hWH
          go_loopw [33] (fun i wr => ∃ j : Nat, ∃ U cu, j ≤ d + 1 ∧ i = .int .i64 j ∧ Ow intR 1 wr (wo.heap.size + 1) (wo.heap.size + 1) 3 (.slice U j cu) j (upTo j) ∧ wr.cell? ⟨wo.heap.size, 0, none⟩ = some (.slice U j cu) ∧ Hid (wr.cell? ⟨wo.heap.size, 1, none⟩ = some (.int .i64 ((d : Int) + 1))) ∧ Hid (wr.cell? ⟨wo.heap.size, 2, none⟩ = some (.int .i64 0)) ∧ wr.frozen? ⟨wo.heap.size, 0, none⟩ = false ∧ Below wo.heap.size wo wr ∧ wo.heap.size + 1 ≤ wr.heap.size) (fun i _ => d + 1 - (RowKit.intOf i).toNat)
          case atStart => exact ⟨0, none, 0, Nat.zero_le _, rfl, Ow.nil_ _ _ _ _, H0.out, H1, H2, H3.out, hbh, by omega⟩
          case round =>
            obtain ⟨j, U, cu, hj, rfl, hu, ct, c1, c2, ft, hbr, hszr⟩ := hrel
            by_cases hlt2 : j < d + 1
            · have hE := alloc_below wr (.cells #[.int .i64 j] 3)
              have huE := hu.below intR_fine hE
              have ctE : (wr.alloc (.cells #[.int .i64 j] 3)).cell? ⟨wo.heap.size, 0, none⟩ = some (.slice U j cu) := (hE.cell (by exact hszr)).trans ct
              have hlit : Is (wr.alloc (.cells #[.int .i64 j] 3)) (some ⟨wr.heap.size, 0, none⟩) 1 1 [(j : Int)] := lit_ints_at (n := 1) (l := [(j : Int)]) rfl rfl (by omega) (fun z hz => by simp at hz; subst hz; exact ⟨by omega, by omega⟩) rfl
              have hsE : wo.heap.size + 1 ≤ (wr.alloc (.cells #[.int .i64 j] 3)).heap.size := Nat.le_trans hszr hE.size
              have HFT := hide ft
              have HC1 := hide c1.out
              have HC2 := hide c2.out
              clear ft
              go_wp2_with (at_builtin; refine wpList_append_ow _ rfl (.tmp 37) (.tmp 39) _ rfl intR_fine (wo.heap.size + 1) (wo.heap.size + 1) 3 i0 _ 8 Tryd.underlying42 hi0 ii0 ii1 ii2 rfl (by omega) (.slice U j cu) j _ rfl huE _ _ 1 1 _ rfl hlit (fun _ _ _ h => h) (by simp only [maxLen]; omega) (by omega) hsE ?_; intro V6 w6 ho6 hg6 hat6; obtain ⟨A6, c6, rfl⟩ := ho6.form; have hb6 := below_grown (base := wo.heap.size + 1) hg6 huE.lt hsE; have ct6 : w6.cell? ⟨wo.heap.size, 0, none⟩ = some (.slice U j cu) := (hb6.cell (by simp)).trans ctE; have ft6 : w6.frozen? ⟨wo.heap.size, 0, none⟩ = false := (hb6.frozen (by simp)).trans ((hE.frozen (by exact hszr)).trans HFT.out))
              rw [← upTo_succ] at ho6
              go_roundw
              case rel => exact ⟨j + 1, A6, c6, by omega, by go_num, intPut ho6 _ _ (by simp), put_same ct6, hide (put_off' (by omega) ((hb6.cell (by simp)).trans ((hE.cell (by exact hszr)).trans HC1.out))), hide (put_off' (by omega) ((hb6.cell (by simp)).trans ((hE.cell (by exact hszr)).trans HC2.out))), (put_free _ _ _ _).trans ft6, ((hbr.trans (hE.mono hbr.size)).trans (hb6.mono (by omega))).setCell (by simp) _, by rw [set_size]; exact Nat.le_trans hsE hg6.size⟩
              case measure => (first | omega | (simp [RowKit.intOf]; omega) | (unfold RowKit.intOf; simp; omega) | go_num)
            · obtain rfl : j = d + 1 := by omega
              have c1' := c1.out
              have c2' := c2.out
              obtain ⟨v0, v1, v2, v3, v4, v5, v6⟩ := hsev.out.on hsz hbr
              have hE := alloc_below wr (.cells #[.slice U (d + 1) cu, .int .i64 ((d : Int) + 1), .int .i64 0] 44)
              have hor := ho.below homR_fine hbr
              have hoE := hor.below homR_fine hE
              have hsE : w2.heap.size + 1 ≤ (wr.alloc (.cells #[.slice U (d + 1) cu, .int .i64 ((d : Int) + 1), .int .i64 0] 44)).heap.size := Nat.le_trans hsz (Nat.le_trans hbr.size hE.size)
              have hbut : ∀ b, b < (wr.alloc (.cells #[.slice U (d + 1) cu, .int .i64 ((d : Int) + 1), .int .i64 0] 44)).heap.size → wo.heap.size + 1 ≤ b → But (wr.alloc (.cells #[.slice U (d + 1) cu, .int .i64 ((d : Int) + 1), .int .i64 0] 44)) (w2.heap.size + 1) (.slice V k cv) b := fun b h1 h2 => ⟨by omega, h1, fun e => by have := (ho.lt b e.symm).2; omega⟩
              have hlit : Sl homR 3 (wr.alloc (.cells #[.slice U (d + 1) cu, .int .i64 ((d : Int) + 1), .int .i64 0] 44)) (But (wr.alloc (.cells #[.slice U (d + 1) cu, .int .i64 ((d : Int) + 1), .int .i64 0] 44)) (w2.heap.size + 1) (.slice V k cv)) (some ⟨wr.heap.size, 0, none⟩) 1 1 [newHom d] :=
                lit_hom (x := newHom d) (((hu.below intR_fine hE).new_ intR_fine (Nat.le_refl _) (Nat.le_refl _)).move intR_fine (fun _ _ => rfl) (fun b hb => hbut b hb.2 hb.1)) ⟨by show (-9223372036854775808 : Int) ≤ (d : Int) + 1; omega, by show (d : Int) + 1 ≤ 9223372036854775807; omega⟩ ⟨by show (-9223372036854775808 : Int) ≤ 0; omega, by show (0 : Int) ≤ 9223372036854775807; omega⟩ (hbut _ (by simp) (by omega))
              have x6 : (wr.alloc (.cells #[.slice U (d + 1) cu, .int .i64 ((d : Int) + 1), .int .i64 0] 44)).cell? ⟨w2.heap.size, 6, none⟩ = some (.slice V k cv) := (hE.cell (by show w2.heap.size < _; have := hbr.size; omega)).trans v6
              have hfrE : Hid ((wr.alloc (.cells #[.slice U (d + 1) cu, .int .i64 ((d : Int) + 1), .int .i64 0] 44)).frozen? ⟨w2.heap.size, 6, none⟩ = false) := hide ((hE.frozen (by show w2.heap.size < _; have := hbr.size; omega)).trans ((hbr.frozen (by exact hsz)).trans hfr.out))
              have HSV : Hid (Sev (wr.alloc (.cells #[.slice U (d + 1) cu, .int .i64 ((d : Int) + 1), .int .i64 0] 44)) w2.heap.size (.int .i64 1) (.int .i64 0) (.int .i64 0) (.int .i64 1) (.int .i64 0) (.string name) (.slice V k cv)) := hide ((hsev.out.on hsz hbr).on (by have := hbr.size; omega) hE)
              have hb2E := hb.trans ((th hbr hE).mono hb.size)
              clear c1 c2 hbut
              go_wp2_with (at_builtin; refine wpList_append_ow _ rfl (.tmp 44) (.tmp 46) _ rfl homR_fine (w2.heap.size + 1) (w2.heap.size + 1) 44 e0 _ 40 Tryd.underlying24 he0 ee0 ee1 ee2 rfl (by omega) (.slice V k cv) k _ rfl hoE _ _ 1 1 _ rfl hlit (fun _ _ _ h => h) (by simp only [maxLen]; omega) (by omega) hsE ?_; intro V8 w8 ho8 hg8 hat8; obtain ⟨A8, c8, rfl⟩ := ho8.form; have hb8 := below_grown (base := w2.heap.size + 1) hg8 hoE.lt hsE; have ct8 : w8.cell? ⟨w2.heap.size, 6, none⟩ = some (.slice V k cv) := (hb8.cell (by simp)).trans x6; have ft8 : w8.frozen? ⟨w2.heap.size, 6, none⟩ = false := (hb8.frozen (by simp)).trans hfrE.out)
              go_roundw
              case rel => exact ⟨k + 1, A8, c8, by omega, by go_num, by rw [List.replicate_succ']; exact homPut ho8 _ _ (by simp) (by simp), hide ((HSV.out.onB (by omega) hb8).six _), hide ((put_free _ _ _ _).trans ft8), (hb2E.trans (hb8.mono (by omega))).setCell (by simp) _, by rw [set_size]; exact Nat.le_trans hsE hg8.size⟩
              case measure => (first | omega | (simp [RowKit.intOf]; omega) | (unfold RowKit.intOf; simp; omega) | go_num)
        · obtain rfl : k = z := by omega
          have hzr := (hz0.onB (by omega) hb02).onB (by omega) hb
          have hzu := put7_sev hzr (.int .i64 1) (.int .i64 0) (.int .i64 0) (.int .i64 1) (.int .i64 0) (.string name) (.slice V k cv)
          unfold put7 at hzu
          have HZU := hide hzu
          have hf1 : ∀ j, wo.frozen? ⟨w.heap.size + 1, j, none⟩ = false := fun j => (hb.frozen (by show w.heap.size + 1 < _; omega)).trans (HF0.out _ hb02 j)
          have f0 := hf1 0
          have f1 := hf1 1
          have f2 := hf1 2
          have f3 := hf1 3
          have f4 := hf1 4
          have f5 := hf1 5
          have f6 := hf1 6
          obtain ⟨y0, y1, y2, y3, y4, y5, y6⟩ := hzr
          obtain ⟨v0, v1, v2, v3, v4, v5, v6⟩ := hsev.out
          have hbw : Below w.heap.size w wo := th hb0 (hb02.trans (hb.mono hb02.size))
          have hsl := put7_new homR_fine (ho.new_ homR_fine (Nat.le_refl _) (Nat.le_refl _)) (show w.heap.size + 1 < w2.heap.size + 1 by omega) (.int .i64 1) (.int .i64 0) (.int .i64 0) (.int .i64 1) (.int .i64 0) (.string name) (.slice V k cv)
          have HSL := hide (hsl.new_less homR_fine (show w.heap.size ≤ w2.heap.size + 1 by omega))
          clear hzu hf1 hsl
          go_wp2_with fail
          obtain ⟨u0, u1, u2, u3, u4, u5, u6⟩ := HZU.out
          exact bodyPost_ret (v := .tuple #[.agg #[.int .i64 1, .int .i64 0, .int .i64 0, .int .i64 1, .int .i64 0, .string name, .slice V k cv], .int .i64 0]) (by simp [results, Tryd.results33, go_sem, u0, u1, u2, u3, u4, u5, u6]) rfl ⟨put7_below hbw (by omega) _ _ _ _ _ _ _, newAnc k d name, _, 0, rfl, ⟨V, k, cv, rfl, HSL.out⟩, HAF.out⟩
    · have hne : (E != 0) = true := by simpa using hE0
      have HAF : Hid (AFirst g name noAnc E) := hide (.inr (.inl ⟨hG, by rw [← hE]; exact hE0, hE, rfl⟩))
      clear hck he hG hlb hE hnone hf0 hE0 hz hd
      go_enter Tryd.func33, Tryd.ntmps33
      go_wp2_with fail
      rw [← hW0]
      clear hW0
      refine (HCK.out _).mono ?_
      rintro e w1 ⟨rfl, hb1⟩
      go_wp2_with fail
      refine (HLB.out _ (hT0.below hb1)).mono ?_
      rintro e w2 ⟨rfl, hb2⟩
      have hb02 := th hb1 hb2
      obtain ⟨y0, y1, y2, y3, y4, y5, y6⟩ := hz0.onB (show w.heap.size + 1 < W0.heap.size by omega) hb02
      have f0 := HF0.out _ hb02 0
      have f1 := HF0.out _ hb02 1
      have f2 := HF0.out _ hb02 2
      have f3 := HF0.out _ hb02 3
      have f4 := HF0.out _ hb02 4
      have f5 := HF0.out _ hb02 5
      have f6 := HF0.out _ hb02 6
      have hzu := put7_sev (hz0.onB (show w.heap.size + 1 < W0.heap.size by omega) hb02) (.int .i64 0) (.int .i64 0) (.int .i64 0) (.int .i64 0) (.int .i64 0) (.string ⟨#[]⟩) (.slice none 0 0)
      unfold put7 at hzu
      have HZU := hide hzu
      clear hzu
      go_wp2_with fail
      obtain ⟨u0, u1, u2, u3, u4, u5, u6⟩ := HZU.out
      exact bodyPost_ret (v := .tuple #[.agg #[.int .i64 0, .int .i64 0, .int .i64 0, .int .i64 0, .int .i64 0, .string ⟨#[]⟩, .slice none 0 0], .int .i64 E]) (by simp [results, Tryd.results33, go_sem, u0, u1, u2, u3, u4, u5, u6]) rfl ⟨put7_below (th hb0 hb02) (by omega) _ _ _ _ _ _ _, noAnc, _, E, rfl, HNONE.out _ hb02, HAF.out⟩
  · have he : geoErr g = 1 := if_neg hG
    rw [he] at hck
    have HCK := hide hck
    have HAF : Hid (AFirst g name noAnc 1) := hide (.inl ⟨hG, rfl, rfl⟩)
    clear hck he hG hlb hnone hf0
    go_enter Tryd.func33, Tryd.ntmps33
    go_wp2_with fail
    rw [← hW0]
    clear hW0
    refine (HCK.out _).mono ?_
    rintro e w1 ⟨rfl, hb1⟩
    obtain ⟨y0, y1, y2, y3, y4, y5, y6⟩ := hz0.onB (show w.heap.size + 1 < W0.heap.size by omega) hb1
    have f0 := HF0.out _ hb1 0
    have f1 := HF0.out _ hb1 1
    have f2 := HF0.out _ hb1 2
    have f3 := HF0.out _ hb1 3
    have f4 := HF0.out _ hb1 4
    have f5 := HF0.out _ hb1 5
    have f6 := HF0.out _ hb1 6
    have hzu := put7_sev (hz0.onB (show w.heap.size + 1 < W0.heap.size by omega) hb1) (.int .i64 0) (.int .i64 0) (.int .i64 0) (.int .i64 0) (.int .i64 0) (.string ⟨#[]⟩) (.slice none 0 0)
    unfold put7 at hzu
    have HZU := hide hzu
    clear hzu
    go_wp2_with fail
    obtain ⟨u0, u1, u2, u3, u4, u5, u6⟩ := HZU.out
    exact bodyPost_ret (v := .tuple #[.agg #[.int .i64 0, .int .i64 0, .int .i64 0, .int .i64 0, .int .i64 0, .string ⟨#[]⟩, .slice none 0 0], .int .i64 1]) (by simp [results, Tryd.results33, go_sem, u0, u1, u2, u3, u4, u5, u6]) rfl ⟨put7_below (th hb0 hb1) (by omega) _ _ _ _ _ _ _, noAnc, _, 1, rfl, HNONE.out _ hb1, HAF.out⟩

end Go.Proofs.YtamgpbkakmffiaaDoor
