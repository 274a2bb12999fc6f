/-
  Contract: casematelaw13.Full.
-/
import Derived.Test.YtikjhcfalofgaaaZoneM
import Derived.Deep.CutRange
import Derived.Deep.DeepCutAuto
import Derived.Deep.RegionHeld3
import Derived.Deep.RegionLaw
namespace Go.Proofs.Ytikjhcfalofgaaa
open Go.RowKit
set_option linter.unusedVariables false
set_option maxRecDepth 100000

theorem set_same {w : World} {N k : Nat} {u v : Value} (h : w.cell? ⟨N, k, none⟩ = some u) : (w.setCell ⟨N, k, none⟩ v).cell? ⟨N, k, none⟩ = some v := by
  unfold World.cell? at h ⊢
  unfold World.setCell
  dsimp only at h ⊢
  rw [Array.getElem?_modify, if_pos rfl]
  cases hb : w.heap[N]? with
  | none => rw [hb] at h; cases h
  | some o =>
    rw [hb] at h
    cases o with
    | cells c e f =>
      simp only [Option.map_some, Option.isSome_none, Bool.false_eq_true, if_false] at h ⊢
      have hk := (Array.getElem?_eq_some_iff.1 h).1
      rw [Array.getElem?_setIfInBounds_self_of_lt hk]
    | _ => cases h
theorem set_free (w : World) (p a : Addr) (v : Value) : (w.setCell p v).frozen? a = w.frozen? a := by
  unfold World.frozen? World.setCell
  dsimp only
  rw [Array.getElem?_modify]
  by_cases h : p.block = a.block
  · rw [if_pos h]
    cases hb : w.heap[a.block]? with
    | none => rfl
    | some o => cases o <;> rfl
  · rw [if_neg h]

theorem bx_at {w w' : World} {cs : Array Value} {e : TypeId} {N : Nat} (hN : w.heap.size = N) (hb : Below (w.alloc (.cells cs e)).heap.size (w.alloc (.cells cs e)) w') (k : Nat) (u : Value) (h : cs[k]? = some u) : w'.cell? ⟨N, k, none⟩ = some u := by
  subst hN
  exact box_cell hb k u h
theorem bx_free {w w' : World} {cs : Array Value} {e : TypeId} {N : Nat} (hN : w.heap.size = N) (hb : Below (w.alloc (.cells cs e)).heap.size (w.alloc (.cells cs e)) w') (k : Nat) : w'.frozen? ⟨N, k, none⟩ = false := by
  subst hN
  exact box_free hb k

/-- What Full tells. -/
def FullPost (w : World) (d : Nat) (s : Int) (B : List (List UInt8)) (F : List Bool) (e : Ending) (w' : World) : Prop :=
  Below w.heap.size w w' ∧ ∃ A c C c', e = .returned (.tuple #[.agg #[.slice A (d + 1) c], .slice C (d + 1) c']) ∧ Sl entR 3 w' (But w' w.heap.size (.slice C (d + 1) c')) A (d + 1) c (fullT s (fullB d B F)) ∧ Ow (slR byteR 1) 1 w' w.heap.size w.heap.size 29 (.slice C (d + 1) c') (d + 1) (fullH (fullB d B F))

set_option maxHeartbeats 4000000 in
theorem full_any (g : Geo) (d : Nat) (hg : g.data = (d : Int)) (hd : d ≤ 4) {C D : Option Addr} {nb cb nl cl : Nat} {B : List (List UInt8)} {F : List Bool} (s : Int) (hsI : InI s) {w : World} (hB : Rs w C nb cb B) (hF : Sl boolR 1 w (Old w) D nl cl F) :
    Calls Try.prog 26 #[g.v, .slice C nb cb, .slice D nl cl, .int .i64 s] w (FullPost w d s B F) := by
  obtain ⟨z, q, s', l, a⟩ := g
  dsimp only at hg
  subst hg
  obtain ⟨e0, he0, ee0, ee1, ee2⟩ := info_parts ent_info
  obtain ⟨i0, hi0, hz0, hz1, hz2⟩ := info_parts row_info
  obtain ⟨j0, hj0, hy0, hy1, hy2⟩ := info_parts u8_info
  have hmk : ∀ W, (Instr.makeSlice 29 (.int .i64 8) (.int .i64 8)).run Try.prog W = .ok (.slice (some ⟨W.heap.size, 0, none⟩) 8 8) (W.alloc (.cells (madeCells #[.int .u8 0] 8) 5)) := fun W => run_make_all (P := Try.prog) 29 5 j0 _ 1 1 Try.underlying29 hj0 hy0 hy1 hy2 .i64 .i64 8 (by omega) (by omega) W
  unfold Geo.v FullPost
  dsimp only
  obtain ⟨WB, hWB⟩ : ∃ WB, WB = ((w.alloc (.cells #[.int .i64 z, .int .i64 d, .int .i64 s', .int .i64 l, .int .i64 a] 23)).alloc (.cells #[.slice none 0 0] 26)).alloc (.cells #[.slice none 0 0] 26) := ⟨_, rfl⟩
  have hS : WB.heap.size = w.heap.size + 1 + 1 + 1 := by rw [hWB]; simp
  have hS0 : (w.alloc (.cells #[.int .i64 z, .int .i64 d, .int .i64 s', .int .i64 l, .int .i64 a] 23)).heap.size = w.heap.size + 1 := by simp
  have hb1 : Below w.heap.size w WB := by rw [hWB]; exact ((alloc_below w _).alloc (by simp) _).alloc (by simp; omega) _
  have bx : ∀ W, Below (w.heap.size + 1 + 1) WB W → Below w.heap.size w W ∧ W.cell? ⟨w.heap.size, 1, none⟩ = some (.int .i64 d) ∧ W.cell? ⟨w.heap.size + 1, 0, none⟩ = some (.slice none 0 0) ∧ W.frozen? ⟨w.heap.size + 1, 0, none⟩ = false := fun W hW => by
    refine ⟨hb1.trans (hW.mono (by omega)), ?_⟩
    subst hWB
    have h2 : Below ((w.alloc (.cells #[.int .i64 z, .int .i64 d, .int .i64 s', .int .i64 l, .int .i64 a] 23)).alloc (.cells #[.slice none 0 0] 26)).heap.size ((w.alloc (.cells #[.int .i64 z, .int .i64 d, .int .i64 s', .int .i64 l, .int .i64 a] 23)).alloc (.cells #[.slice none 0 0] 26)) W := (alloc_below _ _).trans (by rw [show ((w.alloc (.cells #[.int .i64 z, .int .i64 d, .int .i64 s', .int .i64 l, .int .i64 a] 23)).alloc (.cells #[.slice none 0 0] 26)).heap.size = w.heap.size + 1 + 1 from by simp]; exact hW)
    exact ⟨box_cell (th (alloc_below _ _) h2) 1 _ rfl, bx_at hS0 h2 0 _ rfl, bx_free hS0 h2 0⟩
  have BX := hide bx
  have hmz := (made_zero WB 5 8 (by omega)).new_ byteR_fine (Nat.le_refl _) (Nat.le_refl _)
  rw [hS] at hmz
  have hfs0 := FS.first (eT := 61) (eH := 29) (K := rowAt B F) _ hmz
  have FS0 := hide hfs0
  have hbz : Below (w.heap.size + 1 + 1) WB (WB.alloc (.cells (madeCells #[.int .u8 0] 8) 5)) := (alloc_below _ _).mono (by omega)
  have hct : (WB.alloc (.cells (madeCells #[.int .u8 0] 8) 5)).cell? ⟨w.heap.size + 1 + 1, 0, none⟩ = some (.slice none 0 0) := by
    rw [hWB]
    exact bx_at (by simp) (alloc_below _ _) 0 _ rfl
  have hft : (WB.alloc (.cells (madeCells #[.int .u8 0] 8) 5)).frozen? ⟨w.heap.size + 1 + 1, 0, none⟩ = false := by
    rw [hWB]
    exact bx_free (by simp) (alloc_below _ _) 0
  have HS := hide hS
  have HWB := hide hWB
  have HCT := hide hct
  have HFT := hide hft
  have HBZ := hide hbz
  clear hWB bx hS0 hS hmz hfs0 hct hft hbz hb1
  go_enter Try.func26, Try.ntmps26
  go_wp2_with fail
  go_loopw [11, 12, 13] (fun vH v i wr => ∃ k : Nat, ∃ vT hs A cp, k ≤ d ∧ i = .int .i64 k ∧ v = .slice A 8 cp ∧ FS (w.heap.size + 1 + 1 + 1) 61 29 wr vT vH k k ((List.range k).map (entAt s B F)) hs (rowAt B F) A cp (parL (fullB k B F)) ∧ wr.cell? ⟨w.heap.size + 1 + 1, 0, none⟩ = some vT ∧ wr.frozen? ⟨w.heap.size + 1 + 1, 0, none⟩ = false ∧ Below (w.heap.size + 1 + 1) WB wr) (fun _ _ i _ => d - (intOf i).toNat)
  case atStart =>
    rw [← HWB.out]
    exact ⟨0, _, _, _, _, Nat.zero_le _, rfl, rfl, FS0.out, HCT.out, HFT.out, HBZ.out⟩
  case round =>
    obtain ⟨k, vT, hs, A, cp, hkd, rfl, rfl, fs, ct, ft, hbw⟩ := hrel
    obtain ⟨hb, kd, kr, fr⟩ := BX.out wr hbw
    obtain ⟨A1, c1, rfl⟩ := fs.t.form
    obtain ⟨A2, c2, rfl⟩ := fs.h.form
    have hkl := fs.h.len
    have hsz : w.heap.size + 1 + 1 + 1 ≤ wr.heap.size := by have := hbw.size; have := HS.out; omega
    have bt : ∀ W, Below (w.heap.size + 1 + 1 + 1) wr W → W.cell? ⟨w.heap.size + 1 + 1, 0, none⟩ = some (.slice A1 k c1) ∧ W.frozen? ⟨w.heap.size + 1 + 1, 0, none⟩ = false ∧ Below (w.heap.size + 1 + 1) WB W := fun W hW => ⟨(hW.cell (by simp)).trans ct, (hW.frozen (by simp)).trans ft, hbw.trans (hW.mono (by omega))⟩
    have BT := hide bt
    have FSk := hide fs
    have HKL := hide hkl
    clear bt fs hkl
    by_cases hlt : k < d
    · have hBr := hB.on bytesR_fine hb
      have hFr := hF.on boolR_fine hb
      obtain ⟨T, hT⟩ : ∃ T, T = decide (∃ b, B[k]? = some b ∧ b.length = 8) := ⟨_, rfl⟩
      go_upto_region 8 with fail
      go_cut [35] (fun v wx => v = .bool T ∧ wx = wr.alloc (.cells (madeCells #[.int .u8 0] 8) 5))
      case first =>
        by_cases hkn : k < nb
        · obtain ⟨ad, b, A3, n3, c3, rfl, hadl, hx, hsb, hcell⟩ := at_row hBr hkn
          have h3 := hsb.len
          have hal : (wr.alloc (.cells (madeCells #[.int .u8 0] 8) 5)).cell? (ad.add k) = some (.slice A3 n3 c3) := (Below.refl _ _).alloc (Nat.le_refl _) _ |>.cell (by rw [block_of_add]; exact hadl) |>.trans hcell
          by_cases h8 : n3 = 8
          · have hT1 : T = true := by rw [hT]; exact decide_eq_true ⟨b, hx, by omega⟩
            subst hT1
            subst h8
            clear hT hx h3
            go_wp2_with fail
            go_meet
            exact ⟨rfl, rfl⟩
          · have hT1 : T = false := by rw [hT]; exact decide_eq_false (by rintro ⟨b', h1, h2⟩; rw [hx] at h1; injection h1 with h1; subst h1; omega)
            subst hT1
            have e8 : ((n3 : Int) == 8) = false := by simp; omega
            clear hT hx h3 h8
            go_wp2_with fail
            go_meet
            exact ⟨rfl, rfl⟩
        · have hT1 : T = false := by rw [hT]; exact decide_eq_false (by rintro ⟨b', h1, h2⟩; have := (List.getElem?_eq_some_iff.1 h1).1; have := hB.len; omega)
          subst hT1
          clear hT
          go_wp2_with fail
          go_meet
          exact ⟨rfl, rfl⟩
      case rest =>
        obtain ⟨rfl, rfl⟩ := hcut
        go_upto_if 35 with fail
        go_cut [14] (fun v wx => ∃ V cv, v = .slice V 8 cv ∧ Sl byteR 1 wx (New wr.heap.size wx) V 8 cv (blkAt B k) ∧ Below wr.heap.size wr wx)
        case first =>
          cases T with
          | true =>
            obtain ⟨b, hx, h8⟩ : ∃ b, B[k]? = some b ∧ b.length = 8 := by simpa using hT.symm
            have hkn : k < nb := by have h1 := (List.getElem?_eq_some_iff.1 hx).1; have h2 := hB.len; omega
            obtain ⟨ad, b', A3, n3, c3, rfl, hadl, hx', hsb, hcell⟩ := at_row hBr hkn
            rw [hx] at hx'
            injection hx' with hx'
            subst hx'
            have h3 := hsb.len
            have hal : (wr.alloc (.cells (madeCells #[.int .u8 0] 8) 5)).cell? (ad.add k) = some (.slice A3 n3 c3) := (Below.refl _ _).alloc (Nat.le_refl _) _ |>.cell (by rw [block_of_add]; exact hadl) |>.trans hcell
            have hba := alloc_below wr (.cells (madeCells #[.int .u8 0] 8) 5)
            have htw := twin_any A3 n3 c3 b _ (hsb.on byteR_fine hba) (by omega)
            have HTW := hide htw
            have HBE := hide (blkAt_eq hx h8)
            obtain rfl : n3 = 8 := by omega
            clear hT hx h3 h8 htw
            go_wp2_with fail
            refine HTW.out.mono ?_
            rintro e w4 ⟨A4, c4, rfl, ho4, hb4⟩
            go_wp2_with fail
            go_meet
            exact ⟨A4, c4, rfl, by rw [HBE.out]; exact ho4.new_ byteR_fine (by simp) (by simp), th hba hb4⟩
          | false =>
            have hno : ¬ ∃ b, B[k]? = some b ∧ b.length = 8 := by simpa using hT.symm
            have HBE : Hid (blkAt B k = zero8) := by
              cases hx : B[k]? with
              | none => exact blkAt_out (List.getElem?_eq_none_iff.1 hx)
              | some b => exact blkAt_no hx (fun h => hno ⟨b, hx, h⟩)
            have hmz := (made_zero wr 5 8 (by omega)).new_ byteR_fine (Nat.le_refl _) (Nat.le_refl _)
            clear hT hno
            go_wp2_with fail
            go_meet
            exact ⟨_, _, rfl, by rw [HBE.out]; exact hmz, alloc_below _ _⟩
        case rest =>
          obtain ⟨V, cv, rfl, hsv, hbx⟩ := hcut
          clear hT
          obtain ⟨Z, hZ⟩ : ∃ Z, Z = blkAt B k := ⟨_, rfl⟩
          rw [← hZ] at hsv
          have hvb : Bs wc V 8 cv Z := hsv.old_ byteR_fine
          have hen := entry8_any s hvb (by omega)
          unfold Ent.v at hen
          dsimp only at hen
          obtain ⟨Q, hQ⟩ : ∃ Q, Q = crc Z := ⟨_, rfl⟩
          rw [← hQ] at hen
          have hq : Q < 4294967296 := by rw [hQ]; exact crc_lt _
          have HEN := hide hen
          have HZ := hide hZ
          have HQ := hide hQ
          obtain ⟨G, hG⟩ : ∃ G, G = lostAt F k := ⟨_, rfl⟩
          have HG := hide hG
          clear hen hZ hQ hG
          go_wp2_with fail
          refine HEN.out.mono ?_
          rintro e w5 ⟨rfl, hb5⟩
          have hbr5 := th hbx hb5
          have hba5 := alloc_below w5 (.cells #[.int .i64 s, .int .i64 Q, .bool false] 61)
          have hF5 := hFr.on boolR_fine (th hbr5 hba5)
          go_upto_region 11 with fail
          go_cut [53] (fun v wx => v = .bool G ∧ wx = w5.alloc (.cells #[.int .i64 s, .int .i64 Q, .bool false] 61))
          case first =>
            by_cases hkn : k < nl
            · obtain ⟨ad, x, rfl, hadl, hx, hcell⟩ := at_bool hF5 hkn
              have hx1 : x = G := by rw [HG.out]; exact (lostAt_eq hx).symm
              subst hx1
              clear hx
              go_wp2_with fail
              go_meet
              exact ⟨rfl, rfl⟩
            · have hx1 : G = false := by rw [HG.out]; exact lostAt_out (by have := hF.len; omega)
              subst hx1
              go_wp2_with fail
              go_meet
              exact ⟨rfl, rfl⟩
          case rest =>
            obtain ⟨rfl, rfl⟩ := hcut
            cases G with
            | true =>
              have hE6 := alloc_below w5 (.cells #[.int .i64 s, .int .i64 Q, .bool true] 61)
              have hE7 := alloc_below (w5.alloc (.cells #[.int .i64 s, .int .i64 Q, .bool true] 61)) (.cells #[.int .i64 s, .int .i64 Q, .bool true] 61)
              have hb7 := th (th hbr5 hE6) hE7
              have fs7 := FSk.out.below hb7
              have hlit := lit_ent (w := w5.alloc (.cells #[.int .i64 s, .int .i64 Q, .bool true] 61)) (e := 61) (l := true) (show _ = w5.heap.size + 1 by simp) hsI (show InI (Q : Int) from ⟨by omega, by omega⟩)
              obtain ⟨k6, f6, _⟩ := BT.out _ ((th hbr5 hE6).mono hsz)
              have hb7m := hb7.mono hsz
              have hs7 : w.heap.size + 1 + 1 + 1 ≤ ((w5.alloc (.cells #[.int .i64 s, .int .i64 Q, .bool true] 61)).alloc (.cells #[.int .i64 s, .int .i64 Q, .bool true] 61)).heap.size := Nat.le_trans hsz hb7.size
              have HT : Hid ((List.range (k + 1)).map (entAt s B F) = (List.range k).map (entAt s B F) ++ [⟨s, Q, true⟩]) := by
                show _ = _
                rw [range_snoc, entAt, ← HZ.out, ← HQ.out, ← HG.out]
              have HR : Hid (rowAt B F hs.length = []) := by
                show _ = _
                rw [HKL.out, rowAt, ← HG.out]; rfl
              have HP : Hid (parL (fullB (k + 1) B F) = parL (fullB k B F)) := by
                show _ = _
                rw [parB_succ, ← HG.out, if_pos rfl]
              go_wp2_with (first
                | (at_builtin; refine wpList_append_ow _ rfl (.tmp 56) (.tmp 58) _ rfl entR_fine (w.heap.size + 1 + 1 + 1) 0 61 e0 _ 24 Try.underlying24 he0 ee0 ee1 ee2 rfl (by omega) (.slice A1 k c1) k _ rfl fs7.t _ _ 1 1 _ rfl hlit (fun _ _ _ h => h) (by simp only [maxLen]; omega) (by omega) hs7 ?_; intro V8 w8 ho8 hg8 hat8; obtain ⟨A8, c8, rfl⟩ := ho8.form; have fs8 := fs7.more_t hg8 hat8 ho8; have hb8 := hb7m.trans (below_grown hg8 fs7.t.lt hs7); have fs9 := fs8.below (alloc_below w8 (.cells #[.slice none 0 0] 29)); have hb9 := hb8.alloc (Nat.le_trans hsz hb8.size) (.cells #[.slice none 0 0] 29); have hlit2 : Sl hdrR 1 (w8.alloc (.cells #[.slice none 0 0] 29)) (fun _ => True) (some ⟨w8.heap.size, 0, none⟩) 1 1 [(none, 0, 0)] := lit_plain (R := hdrR) rfl trivial)
                | (at_builtin; refine wpList_append_ow _ rfl (.tmp 60) (.tmp 61) _ rfl hdrR_fine (w.heap.size + 1 + 1 + 1) 0 29 i0 _ 24 Try.underlying27 hi0 hz0 hz1 hz2 rfl (by omega) (.slice A2 k c2) k hs rfl fs9.h _ _ 1 1 _ rfl hlit2 (fun _ _ _ h => h) (by simp only [maxLen]; omega) (by omega) (Nat.le_trans hsz hb9.size) ?_; intro V10 w10 ho10 hg10 hat10; have fs10 := fs9.more_h (by rw [HR.out]; exact Sl.nil_ _) hg10 hat10 ho10; have hb10 := hb9.trans (below_grown hg10 fs9.h.lt (Nat.le_trans hsz hb9.size)); obtain ⟨k10, f10, hbw10⟩ := BT.out w10 hb10))
              go_roundw
              case rel => exact ⟨k + 1, .slice A8 (k + 1) c8, _, A, cp, by omega, by go_num, rfl, by rw [HT.out, HP.out]; exact fs10.set _ _ (by simp), set_same k10, (set_free _ _ _ _).trans f10, hbw10.setCell (by simp) _⟩
              case measure => simp [intOf]; omega
            | false =>
              have hE6 := alloc_below w5 (.cells #[.int .i64 s, .int .i64 Q, .bool false] 61)
              have hb6 := th hbr5 hE6
              have fs6 := FSk.out.below hb6
              have hel := new_in (v := .slice A1 k c1) (vb := .slice A2 k c2) hsv hsz (fun q hq => (FSk.out.t.lt q hq).2) (fun q hq => (FSk.out.h.lt q hq).2)
              have hel6 := els_below hel (th hb5 hE6)
              have htwo := rtwo_any _ _ _ _ _ _ _ Z _ (fs6.par.move byteR_fine (fun _ _ => rfl) (fun b hb' => hb'.2.1)) (hel6.move byteR_fine (S' := Old _) (fun _ _ => rfl) (fun b hb' => hb'.2.1)) (by omega) rfl
              have HTWO := hide htwo
              clear htwo
              go_upto_region 14 with fail
              go_wp2_with fail
              refine HTWO.out.mono ?_
              rintro e w7 ⟨A7, c7, rfl, ho7, hb7⟩
              have fs7 := (fs6.below hb7).turn (ho7.new_ byteR_fine (Nat.le_refl _) (Nat.le_refl _)) (Nat.le_trans hsz hb6.size) (fun q hq => (fs6.t.lt q hq).2) (fun q hq => (fs6.h.lt q hq).2)
              have hel7 := els_below hel6 hb7
              have hE8 := alloc_below w7 (.cells #[.int .i64 s, .int .i64 Q, .bool false] 61)
              have hbr7 := th hb6 hb7
              have hb8 := th hbr7 hE8
              have fs8 := fs7.below hE8
              have hel8 := els_below hel7 hE8
              have hlit := lit_ent (w := w7) (e := 61) (l := false) rfl hsI (show InI (Q : Int) from ⟨by omega, by omega⟩)
              obtain ⟨k7, f7, _⟩ := BT.out _ (hbr7.mono hsz)
              have x0 := box_cell hb7 0 _ rfl
              have x1 := box_cell hb7 1 _ rfl
              have x2 := box_cell hb7 2 _ rfl
              have hb8m := hb8.mono hsz
              have hs8 : w.heap.size + 1 + 1 + 1 ≤ (w7.alloc (.cells #[.int .i64 s, .int .i64 Q, .bool false] 61)).heap.size := Nat.le_trans hsz hb8.size
              have HT : Hid ((List.range (k + 1)).map (entAt s B F) = (List.range k).map (entAt s B F) ++ [⟨s, Q, false⟩]) := by
                show _ = _
                rw [range_snoc, entAt, ← HZ.out, ← HQ.out, ← HG.out]
              have HR : Hid (rowAt B F hs.length = Z) := by
                show _ = _
                rw [HKL.out, rowAt, ← HG.out, ← HZ.out]; rfl
              have HP : Hid (parL (fullB (k + 1) B F) = zx (parL (fullB k B F)) Z) := by
                show _ = _
                rw [parB_succ, ← HG.out, if_neg (by simp), ← HZ.out]
              go_wp2_with (first
                | (at_builtin; refine wpList_append_ow _ rfl (.tmp 68) (.tmp 70) _ rfl entR_fine (w.heap.size + 1 + 1 + 1) 0 61 e0 _ 24 Try.underlying24 he0 ee0 ee1 ee2 rfl (by omega) (.slice A1 k c1) k _ rfl fs8.t _ _ 1 1 _ rfl hlit (fun _ _ _ h => h) (by simp only [maxLen]; omega) (by omega) hs8 ?_; intro V9 w9 ho9 hg9 hat9; obtain ⟨A9, c9, rfl⟩ := ho9.form; have fs9 := fs8.more_t hg9 hat9 ho9; have hel9 := els_more_t hel8 hg9 hat9; have hb9 := hb8m.trans (below_grown hg9 fs8.t.lt hs8); have fs10 := fs9.below (alloc_below w9 (.cells #[.slice V 8 cv] 29)); have hel10 := els_below hel9 (alloc_below w9 (.cells #[.slice V 8 cv] 29)); have hb10 := hb9.alloc (Nat.le_trans hsz hb9.size) (.cells #[.slice V 8 cv] 29); have hlit2 : Sl hdrR 1 (w9.alloc (.cells #[.slice V 8 cv] 29)) (fun _ => True) (some ⟨w9.heap.size, 0, none⟩) 1 1 [(V, 8, cv)] := lit_plain (R := hdrR) rfl trivial)
                | (at_builtin; refine wpList_append_ow _ rfl (.tmp 72) (.tmp 74) _ rfl hdrR_fine (w.heap.size + 1 + 1 + 1) 0 29 i0 _ 24 Try.underlying27 hi0 hz0 hz1 hz2 rfl (by omega) (.slice A2 k c2) k hs rfl fs10.h _ _ 1 1 _ rfl hlit2 (fun _ _ _ h => h) (by simp only [maxLen]; omega) (by omega) (Nat.le_trans hsz hb10.size) ?_; intro V11 w11 ho11 hg11 hat11; have fs11 := fs10.more_h (by rw [HR.out]; exact hel10) hg11 hat11 ho11; have hb11 := hb10.trans (below_grown hg11 fs10.h.lt (Nat.le_trans hsz hb10.size)); obtain ⟨k11, f11, hbw11⟩ := BT.out w11 hb11))
              go_roundw
              case rel => exact ⟨k + 1, .slice A9 (k + 1) c9, _, A7, c7, by omega, by go_num, rfl, by rw [HT.out, HP.out]; exact fs11.set _ _ (by simp), set_same k11, (set_free _ _ _ _).trans f11, hbw11.setCell (by simp) _⟩
              case measure => simp [intOf]; omega
    · obtain rfl : k = d := by omega
      have hpar : Bs wr.drew A 8 cp (parL (fullB k B F)) := FSk.out.par.move byteR_fine (fun _ _ => rfl) (fun b hb' => hb'.2.1)
      have hen := entry8_any s hpar (by omega)
      unfold Ent.v at hen
      dsimp only at hen
      obtain ⟨Q, hQ⟩ : ∃ Q, Q = crc (parL (fullB k B F)) := ⟨_, rfl⟩
      rw [← hQ] at hen
      have hq : Q < 4294967296 := by rw [hQ]; exact crc_lt _
      have HEN := hide hen
      have HT : Hid (fullT s (fullB k B F) = (List.range k).map (entAt s B F) ++ [⟨s, Q, false⟩]) := by
        show _ = _
        rw [fullT_is, ← hQ]
      clear hen hQ
      go_upto_region 16 with fail
      go_cut [83] (fun v wx => ∃ A8 c8, v = .slice A8 (k + 1) c8 ∧ FS (w.heap.size + 1 + 1 + 1) 61 29 wx (.slice A8 (k + 1) c8) (.slice A2 k c2) (k + 1) k (fullT s (fullB k B F)) hs (rowAt B F) A cp (parL (fullB k B F)) ∧ wx.cell? ⟨w.heap.size + 1 + 1, 0, none⟩ = some (.slice A8 (k + 1) c8) ∧ Below (w.heap.size + 1 + 1) WB wx)
      case first =>
        go_region_law (first
          | (refine step_append_ow _ (by rfl) _ _ _ (by rfl) entR_fine (w.heap.size + 1 + 1 + 1) 0 61 e0 _ 24 Try.underlying24 he0 ee0 ee1 ee2 rfl (by omega) (.slice A1 k c1) k _ (by rfl) fs6.t _ _ 1 1 _ (by rfl) hlit (fun _ _ _ h => h) (by simp only [maxLen]; omega) (by omega) hs6 ?_; intro V8 w8 ho8 hg8 hat8; obtain ⟨A8, c8, rfl⟩ := ho8.form; have fs8 := fs6.more_t hg8 hat8 ho8; have hb8 := hb6m.trans (below_grown hg8 fs6.t.lt hs6); obtain ⟨k8, f8, hbw8⟩ := BT.out w8 hb8)
          | (go_simp; go_at_call 44; refine HEN.out.mono ?_; rintro e w5 ⟨rfl, hb5⟩; go_loud (have hb5' : Below wr.heap.size wr w5 := undrew hb5; have hE6 := alloc_below w5 (.cells #[.int .i64 s, .int .i64 Q, .bool false] 61); have hb6 := th hb5' hE6; have fs6 := FSk.out.below hb6; have hb6m := hb6.mono hsz; have hs6 : w.heap.size + 1 + 1 + 1 ≤ (w5.alloc (.cells #[.int .i64 s, .int .i64 Q, .bool false] 61)).heap.size := Nat.le_trans hsz hb6.size; have hlit := lit_ent (w := w5) (e := 61) (l := false) rfl hsI (show InI (Q : Int) from ⟨by omega, by omega⟩); obtain ⟨k5, f5, _⟩ := BT.out w5 (hb5'.mono hsz); obtain ⟨k6, f6, _⟩ := BT.out _ hb6m)))
        all_goals (go_wp2_with fail; go_meet; exact ⟨A8, c8, rfl, by rw [HT.out]; exact fs8.set _ _ (by simp), set_same k8, hbw8.setCell (by simp) _⟩)
      case rest =>
        obtain ⟨A8, c8, rfl, fs8, ct8, hbw8⟩ := hcut
        obtain ⟨w8, hw8⟩ : ∃ w8, w8 = wc := ⟨_, rfl⟩
        subst hw8
        obtain ⟨K9, hK9⟩ : ∃ K9 : Nat → List UInt8, K9 = fun j => if j < k then rowAt B F j else parL (fullB k B F) := ⟨_, rfl⟩
        have fs9 := fs8.congr (K' := K9) (fun j hj => by rw [HKL.out] at hj; rw [hK9]; simp only [if_pos hj])
        have FS9 := hide fs9
        have HKN : Hid (K9 hs.length = parL (fullB k B F)) := by
          show _ = _
          rw [HKL.out, hK9]
          simp
        have HKF : Hid ((List.range (k + 1)).map K9 = fullH (fullB k B F)) := by
          show _ = _
          rw [range_snoc, fullH_is, hK9]
          simp only [Nat.lt_irrefl, if_false]
          congr 1
          exact List.map_congr_left fun j hj => by rw [if_pos (List.mem_range.1 hj)]
        clear hK9
        clear fs8 fs9
        have hpar8 : Sl byteR 1 w8 (El (w.heap.size + 1 + 1 + 1) w8 (.slice A8 (k + 1) c8) (.slice A2 k c2)) A 8 cp (parL (fullB k B F)) := FS9.out.par
        have hb9 : Below w8.heap.size w8 (w8.alloc (.cells #[.slice A 8 cp] 29)).drew := (alloc_below w8 (.cells #[.slice A 8 cp] 29)).drew
        have fs9 := FS9.out.below hb9
        have hel9 := els_below hpar8 hb9
        have hsz8 : w.heap.size + 1 + 1 + 1 ≤ w8.heap.size := by have := hbw8.size; have := HS.out; omega
        have hb9m := hb9.mono hsz8
        have hs9 : w.heap.size + 1 + 1 + 1 ≤ (w8.alloc (.cells #[.slice A 8 cp] 29)).drew.heap.size := Nat.le_trans hsz8 hb9.size
        have hlit2 : Sl hdrR 1 (w8.alloc (.cells #[.slice A 8 cp] 29)).drew (fun _ => True) (some ⟨w8.heap.size, 0, none⟩) 1 1 [(A, 8, cp)] := Sl.drew hdrR_fine (lit_plain (R := hdrR) rfl trivial)
        have ct9 : (w8.alloc (.cells #[.slice A 8 cp] 29)).cell? ⟨w.heap.size + 1 + 1, 0, none⟩ = some (.slice A8 (k + 1) c8) := (((alloc_below w8 (.cells #[.slice A 8 cp] 29)).mono hsz8).cell (by simp)).trans ct8
        have HEL := hide hel9
        clear hel9 hpar8
        go_upto_region 17 with fail
        go_region_law (first
          | (refine step_append_ow _ (by rfl) _ _ _ (by rfl) hdrR_fine (w.heap.size + 1 + 1 + 1) 0 29 i0 _ 24 Try.underlying27 hi0 hz0 hz1 hz2 rfl (by omega) (.slice A2 k c2) k hs (by rfl) fs9.h _ _ 1 1 _ (by rfl) hlit2 (fun _ _ _ h => h) (by simp only [maxLen]; omega) (by omega) hs9 ?_; intro V10 w10 ho10 hg10 hat10; obtain ⟨A10, c10, rfl⟩ := ho10.form; have fs10 := fs9.more_h (by rw [HKN.out]; exact HEL.out) hg10 hat10 ho10; have hb10 := hb9m.trans (below_grown hg10 fs9.h.lt hs9); have ct10 : w10.cell? ⟨w.heap.size + 1 + 1, 0, none⟩ = some (.slice A8 (k + 1) c8) := (hb10.cell (by simp)).trans ct8; obtain ⟨hb10', _, kr10, fr10⟩ := BX.out w10 (hbw8.trans (hb10.mono (by omega)))))
        all_goals (go_wp2_with fail; exact bodyPost_ret (v := .tuple #[.agg #[.slice A8 (k + 1) c8], .slice A10 (k + 1) c10]) (by simp [results, Try.results26, go_sem, set_same kr10]) rfl ⟨hb10'.setCell (by simp) _, A8, c8, A10, c10, rfl, ((fs10.set ⟨w.heap.size + 1, 0, none⟩ (.slice A8 (k + 1) c8) (by simp)).t.but (fs10.set ⟨w.heap.size + 1, 0, none⟩ (.slice A8 (k + 1) c8) (by simp)).dis (by omega)), by rw [← HKF.out]; exact ((fs10.set ⟨w.heap.size + 1, 0, none⟩ (.slice A8 (k + 1) c8) (by simp)).els.own (fs10.set ⟨w.heap.size + 1, 0, none⟩ (.slice A8 (k + 1) c8) (by simp)).h).less bytesR_fine (by omega) (by omega)⟩)

end Go.Proofs.Ytikjhcfalofgaaa
