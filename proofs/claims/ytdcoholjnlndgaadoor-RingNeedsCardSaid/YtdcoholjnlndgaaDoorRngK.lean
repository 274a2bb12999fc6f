/-
  The walk of RingNeeds.
-/
import Derived.Test.YtdcoholjnlndgaaDoorRngJ
namespace Go.Proofs.YtdcoholjnlndgaaDoor
open Go.RowKit
set_option linter.unusedVariables false
set_option maxRecDepth 100000

theorem bool_keptR {w w' : World} {base lo : Nat} {e : TypeId} {V : Value} {n : Nat} {L : List Bool} {rw : Option Nat} (h : Ow boolR 1 w base lo e V n L) (hg : w.grownBy w' rw) (hne : V.ownBlock = none ∨ V.ownBlock ≠ rw) : Ow boolR 1 w' base lo e V n L := by
  obtain ⟨hl, xs, hx, h1, hel⟩ := h
  exact ⟨hl, xs, hx.kept hg hne, h1, fun i x hi => hel i x hi⟩
theorem bool_infoR : (Tryd.prog.info? 4).map (fun i => (i.zero, i.size, i.bytes)) = some (some (.bool false), 1, 1) := by kernel_rfl
theorem made_bools (w : World) (n : Nat) (hn : n ≤ 65536) (e : TypeId) (lo : Nat) :
    Ow boolR 1 (w.alloc (.cells (madeCells #[.bool false] n) e)) w.heap.size lo e (.slice (some ⟨w.heap.size, 0, none⟩) n n) n (List.replicate n false) :=
  Ow.made w _ (by simp only [maxLen]; omega) (by rw [size_madeCells, Nat.mul_one]) (by simp) (by
    rw [toList_madeCells_one]
    intro u hu
    obtain rfl := (List.mem_replicate.1 hu).2
    rfl) (fun i x hx => by
    have hi := (List.getElem?_eq_some_iff.1 hx).1
    rw [List.length_replicate] at hi
    have e : x = false := by
      obtain ⟨h1, h2⟩ := List.getElem?_eq_some_iff.1 hx
      rw [List.getElem_replicate] at h2
      exact h2.symm
    subst e
    rw [toList_madeCells_one, List.drop_replicate, List.take_replicate, show min 1 (n - i * 1) = 1 from by omega]
    rfl) boolR_fine
/-- A set of numbers as a row of booleans. -/
def SetB (L : List Bool) (n : Nat) (S : List Int) : Prop := ∀ x, x < n → L[x]? = some (decide ((x : Int) ∈ S))
theorem setB_nil (n : Nat) : SetB (List.replicate n false) n [] := fun x hx => by simp [hx]
theorem setB_add {L : List Bool} {n : Nat} {S : List Int} {y : Nat} (h : SetB L n S) (hl : L.length = n) (hy : y < n) : SetB (L.set y true) n (S ++ [(y : Int)]) := fun x hx => by
  by_cases e : x = y
  · subst e
    rw [List.getElem?_set_self (by omega)]
    simp
  · rw [List.getElem?_set_ne (by omega), h x hx]
    have : ¬ (x : Int) = (y : Int) := by omega
    simp [this]
theorem um_atR (i : Int) {n : Int} (hn : 1 ≤ n) (hn' : n ≤ 4294967296) : ∃ k : Nat, um i n = (k : Int) ∧ (k : Int) < n := by
  obtain ⟨k, h1, h2⟩ := um_is i n.toNat (by omega) (by omega)
  rw [Int.toNat_of_nonneg (by omega)] at h1
  exact ⟨k, h1, by omega⟩
/-- Two rows of booleans, made. -/
def Two (w : World) (M Z : Nat) (v v' : Value) (wc : World) : Prop := ∃ gm gp, v = .slice (some ⟨gm, 0, none⟩) M M ∧ v' = .slice (some ⟨gp, 0, none⟩) Z Z ∧ gm ≠ gp ∧ Ow boolR 1 wc w.heap.size 0 4 v M (List.replicate M false) ∧ Ow boolR 1 wc w.heap.size 0 4 v' Z (List.replicate Z false) ∧ Below w.heap.size w wc
theorem two_a (w : World) (M Z : Nat) (hM : M ≤ 65536) (hZ : Z ≤ 65536) : Two w M Z (.slice (some ⟨w.heap.size, 0, none⟩) M M) (.slice (some ⟨w.heap.size + 1, 0, none⟩) Z Z) ((w.alloc (.cells (madeCells #[.bool false] M) 4)).alloc (.cells (madeCells #[.bool false] Z) 4)) := by
  have h1 := made_bools w M hM 4 0
  have h2 := made_bools (w.alloc (.cells (madeCells #[.bool false] M) 4)) Z hZ 4 0
  have hs : (w.alloc (.cells (madeCells #[.bool false] M) 4)).heap.size = w.heap.size + 1 := by simp
  rw [hs] at h2
  exact ⟨_, _, rfl, rfl, by omega, h1.below boolR_fine (alloc_below _ _), h2.less boolR_fine (by omega) (Nat.le_refl _), th (alloc_below _ _) (alloc_below _ _)⟩
theorem two_b (w : World) (M Z : Nat) (hM : M ≤ 65536) (hZ : Z ≤ 65536) : Two w M Z (.slice (some ⟨w.heap.size + 1, 0, none⟩) M M) (.slice (some ⟨w.heap.size, 0, none⟩) Z Z) ((w.alloc (.cells (madeCells #[.bool false] Z) 4)).alloc (.cells (madeCells #[.bool false] M) 4)) := by
  have h1 := made_bools w Z hZ 4 0
  have h2 := made_bools (w.alloc (.cells (madeCells #[.bool false] Z) 4)) M hM 4 0
  have hs : (w.alloc (.cells (madeCells #[.bool false] Z) 4)).heap.size = w.heap.size + 1 := by simp
  rw [hs] at h2
  exact ⟨_, _, rfl, rfl, by omega, h2.less boolR_fine (by omega) (Nat.le_refl _), h1.below boolR_fine (alloc_below _ _), th (alloc_below _ _) (alloc_below _ _)⟩
theorem Two.drew {w : World} {M Z : Nat} {v v' : Value} {wc : World} (h : Two w M Z v v' wc) : Two w M Z v v' wc.drew := by
  obtain ⟨gm, gp, h1, h2, h3, h4, h5, h6⟩ := h
  exact ⟨gm, gp, h1, h2, h3, h4.below boolR_fine (Below.refl _ _).drew, h5.below boolR_fine (Below.refl _ _).drew, h6.trans (Below.refl _ _).drew⟩

set_option maxHeartbeats 6000000 in
theorem law_ringNeeds {w : World} (hT : Tabs w) (zones : Int) (hzones : InI zones) (data : Int) (hdata : InI data) {A : Option Addr} {n c : Nat} {l : List Int} (hl : Is w A n c l) :
    Calls Tryd.prog 4 #[.int .i64 zones, .int .i64 data, .slice A n c] w fun e w' => e = .returned (.bool true) ∧ Below w.heap.size w w' := by
  obtain ⟨e0, he0, ee0, ee1, ee2⟩ := info_parts bool_infoR
  obtain ⟨j0, hj0, jj0, jj1, jj2⟩ := info_parts int_info
  have hmk : ∀ (k : Nat), k ≤ 65536 → ∀ W, (Instr.makeSlice 47 (.int .i64 k) (.int .i64 k)).run Tryd.prog W = .ok (.slice (some ⟨W.heap.size, 0, none⟩) k k) (W.alloc (.cells (madeCells #[.bool false] k) 4)) := fun k hk W => by
    have h := run_make_all (P := Tryd.prog) 47 4 e0 _ 1 1 Tryd.underlying47 he0 ee0 ee1 ee2 .i64 .i64 k (by omega) (by omega) W
    rw [Nat.mul_one] at h
    exact h
  have hs0 := fun w => some_any zones data 1 0 0 hzones hdata inI_1 inI_0 inI_0 w
  have hG := someG_ok zones data 1 0 0
  obtain ⟨g, hg⟩ : ∃ g, g = someG zones data 1 0 0 := ⟨_, rfl⟩
  rw [← hg] at hs0 hG
  clear hg
  obtain ⟨Z, hZ⟩ : ∃ Z : Nat, g.zones = (Z : Int) := ⟨g.zones.toNat, by have := hG.1; omega⟩
  obtain ⟨D, hD⟩ : ∃ D : Nat, g.data = (D : Int) := ⟨g.data.toNat, by have := hG.2.1; omega⟩
  have hZ4 : 1 ≤ Z ∧ Z ≤ 4 := by have := hG.1; omega
  have hD4 : 1 ≤ D ∧ D ≤ 4 := by have := hG.2.1; omega
  obtain ⟨gz, gd, gs, gl, ga⟩ := g
  dsimp only at hZ hD
  subst hZ
  have hgd : 1 ≤ gd ∧ gd ≤ 4 := by omega
  obtain ⟨hgd1, hgd2⟩ := hgd
  have hnd := fun (L : List Int) A n c w ha hn hr hd => need_yes ⟨(Z : Int), gd, gs, gl, ga⟩ hG A n c L w ha hn hr hd
  obtain ⟨M, hM⟩ : ∃ M : Nat, M = Z * D := ⟨_, rfl⟩
  have hM16 : 1 ≤ M ∧ M ≤ 16 := by
    obtain ⟨z1, z2⟩ := hZ4
    obtain ⟨d1, d2⟩ := hD4
    rw [hM]
    exact ⟨Nat.mul_pos z1 d1, Nat.mul_le_mul z2 d2⟩
  have hMI : (Z : Int) * gd = (M : Int) := by rw [hM, hD]; simp
  have HD := hide hD
  have hMW : IntKind.i64.wrap ((Z : Int) * gd) = (M : Int) := by rw [hMI]; exact IntWalk.i64_in _ ⟨by omega, by omega⟩
  have hMW2 : IntKind.i64.wrap (M : Int) = (M : Int) := IntWalk.i64_in _ ⟨by omega, by omega⟩
  have hMU : IntKind.u64.wrap (M : Int) = (M : Int) := by rw [IntKind.wrap_u64]; omega
  unfold Geo.v at hs0 hnd
  dsimp only at hs0 hnd
  have hm1 := hmk M (by omega)
  have hm2 := hmk Z (by omega)
  have HS0 := hide hs0
  have HND := hide hnd
  have HLEN := hide hl.len
  have HMM := hide hM
  have HG := hide hG
  clear hs0 hnd hM hG hmk hD
  by_cases h30 : n ≤ 30
  · have hn30 : ¬ (30 : Int) < (n : Int) := by omega
    go_enter Tryd.func4, Tryd.ntmps4
    go_wp2_with fail
    refine (HS0.out _).mono ?_
    rintro e w1 ⟨rfl, hb1⟩
    have hgb := GeoAt.new w1 ⟨(Z : Int), gd, gs, gl, ga⟩ 23
    have hE2 := alloc_below w1 (.cells #[.int .i64 (Z : Int), .int .i64 gd, .int .i64 gs, .int .i64 gl, .int .i64 ga] 23)
    obtain ⟨W2, hW2⟩ : ∃ W2, W2 = w1.alloc (.cells #[.int .i64 (Z : Int), .int .i64 gd, .int .i64 gs, .int .i64 gl, .int .i64 ga] 23) := ⟨_, rfl⟩
    dsimp only at hgb
    have hgb' := hgb.2
    dsimp only at hgb'
    obtain ⟨p0, p1, p2, p3, p4⟩ := hgb'
    have hb02 := th hb1 hE2
    rw [← hW2] at hgb hE2 hb02
    have hl2 := hl.on intR_fine hb02
    have HGB := hide hgb
    clear hgb
    go_wp2_with fail
    rw [← hW2] at p0 p1 p2 p3 p4
    have HX : Hid (∀ W, Below W2.heap.size W2 W → W.cell? ⟨w1.heap.size, 0, none⟩ = some (.int .i64 Z) ∧ W.cell? ⟨w1.heap.size, 1, none⟩ = some (.int .i64 gd)) := hide fun W hW => by
      obtain ⟨_, x0, x1, _⟩ := HGB.out.on hW
      exact ⟨x0, x1⟩
    rw [← hW2]
    clear hW2
    have hcur := Below.refl W2.heap.size W2
    go_upto_region 4 with fail
    go_cut [8, 9] (Two W2 M Z)
    case first =>
      go_region_held3 (fun W => W.cell? ⟨w1.heap.size, 0, none⟩ = some (.int .i64 Z) ∧ W.cell? ⟨w1.heap.size, 1, none⟩ = some (.int .i64 gd)) (first | exact HX.out _ hcur | exact HX.out _ hcur.drew | exact HX.out _ (bal1 hcur _) | exact HX.out _ (bal1 hcur.drew _) | exact HX.out _ (bal1 (bal1 hcur _) _) | exact HX.out _ (bal1 (bal1 hcur.drew _) _)) (fail)
      all_goals (go_wp2_with fail; go_meet; first
        | exact (two_a _ _ _ (by omega) (by omega)).drew
        | exact (two_b _ _ _ (by omega) (by omega)).drew
        | exact two_a _ _ _ (by omega) (by omega)
        | exact two_b _ _ _ (by omega) (by omega))
    case rest =>
      obtain ⟨gm, gp, rfl, rfl, hne, hom0, hop0, hbc⟩ := hcut
      obtain ⟨w4, rfl⟩ : ∃ w4 : World, w4 = wc := ⟨_, rfl⟩
      have hgm := (hom0.lt gm rfl).2
      have hgp := (hop0.lt gp rfl).2
      have hgm2 := (hom0.lt gm rfl).1
      have hgp2 := (hop0.lt gp rfl).1
      have HOM0 := hide hom0
      have HOP0 := hide hop0
      clear hom0 hop0
      go_wp2_with fail
      go_loopw [10, 11, 12] (fun V Wn I wr => ∃ (k q : Nat) (A1 : Option Addr) (c1 : Nat) (acc : List Int) (mets pers : List Bool) (T : Nat), k ≤ n ∧ I = .int .i64 k ∧ V = .slice A1 q c1 ∧ Wn = .int .i64 (T : Int) ∧ q ≤ k ∧ Hid (Ow intR 1 wr w4.heap.size w4.heap.size 3 (.slice A1 q c1) q acc) ∧ Hid (Ow boolR 1 wr W2.heap.size 0 4 (.slice (some ⟨gm, 0, none⟩) M M) M mets) ∧ Hid (Ow boolR 1 wr W2.heap.size 0 4 (.slice (some ⟨gp, 0, none⟩) Z Z) Z pers) ∧ Hid (SetB mets M acc ∧ SetB pers Z (zset gd acc)) ∧ Hid (acc.Nodup ∧ ∀ b ∈ acc, 0 ≤ b ∧ b < (M : Int)) ∧ Hid (T = acc.length + 2 * (zset gd acc).length) ∧ T ≤ 3 * k ∧ Below W2.heap.size W2 wr ∧ w4.heap.size ≤ wr.heap.size) (fun _ _ i _ => n - (intOf i).toNat)
      case atStart => exact ⟨0, 0, none, 0, [], _, _, 0, Nat.zero_le _, rfl, rfl, rfl, Nat.le_refl _, hide (Ow.nil_ _ _ _ _), HOM0, HOP0, hide ⟨setB_nil _, setB_nil _⟩, hide ⟨List.nodup_nil, by simp⟩, hide rfl, by omega, hbc, Nat.le_refl _⟩
      case round =>
        obtain ⟨k, q, A1, c1, acc, mets, pers, T, hk, rfl, rfl, rfl, hqk, hac, hom, hop, hsb, hnn, htt, hT3, hb, h4r⟩ := hrel
        by_cases hlt : k < n
        · obtain ⟨ad, y, rfl, hadl, hx, hyi, hcell⟩ := at_int (hl2.on intR_fine hb) hlt
          obtain ⟨X, hX, hXM⟩ := um_atR y (n := (M : Int)) (by omega) (by omega)
          obtain ⟨r1, r2⟩ := um_rawR hX (by omega) (by omega)
          have hXM' : X < M := by omega
          obtain ⟨g1, b0, u, hg1, _, _, hb0, hub, hcm, hfm, hstm⟩ := hom.out.spot boolR_fine hXM'
          obtain rfl : gm = g1 := by injection hg1 with hg1; injection hg1
          obtain rfl : u = .bool b0 := by have h : [u] = [Value.bool b0] := hub; injection h
          have hb0' : b0 = decide ((X : Int) ∈ acc) := by rw [hsb.out.1 X hXM'] at hb0; injection hb0 with hb0; exact hb0.symm
          obtain ⟨p0, p1⟩ := HX.out _ hb
          have HSM := hide hstm
          clear hX hx hub hstm hb0
          by_cases hmem : (X : Int) ∈ acc
          · rw [decide_eq_true hmem] at hb0'
            subst hb0'
            clear hmem
            go_wp2_with fail
            go_roundw
            case rel => exact ⟨k + 1, q, A1, c1, acc, mets, pers, T, by omega, by go_num, rfl, rfl, by omega, hac, hom, hop, hsb, hnn, htt, by omega, hb, h4r⟩
            case measure => simp [intOf]; omega
          · rw [decide_eq_false hmem] at hb0'
            subst hb0'
            obtain ⟨Y, hY⟩ : ∃ Y : Nat, Y = X / D := ⟨_, rfl⟩
            have hYI : (X : Int) / gd = (Y : Int) := by rw [hY, HD.out]; simp
            have hYT : (X : Int).tdiv gd = (Y : Int) := by rw [Int.tdiv_eq_ediv_of_nonneg (by omega)]; exact hYI
            have hYZ : Y < Z := by rw [hY]; exact Nat.div_lt_of_lt_mul (by rw [Nat.mul_comm, ← HMM.out]; exact hXM')
            have hD0 : ¬ gd = 0 := by omega
            have hqa := hac.out.len
            have h5 := hom.out
            have hE := alloc_below (wr.setCell ⟨gm, X, none⟩ (.bool true)) (.cells #[.int .i64 (X : Int)] 3)
            have hs5 : (wr.setCell ⟨gm, X, none⟩ (.bool true)).heap.size = wr.heap.size := set_size _ _ _
            have hacE := (intPut hac.out ⟨gm, X, none⟩ (.bool true) (by show gm < _; omega)).below intR_fine hE
            have hlit : Is ((wr.setCell ⟨gm, X, none⟩ (.bool true)).alloc (.cells #[.int .i64 (X : Int)] 3)) (some ⟨wr.heap.size, 0, none⟩) 1 1 [(X : Int)] := lit_ints_at (n := 1) (l := [(X : Int)]) hs5 rfl (by omega) (fun z hz => by simp at hz; subst hz; exact ⟨by omega, by omega⟩) rfl
            have hsE : w4.heap.size ≤ ((wr.setCell ⟨gm, X, none⟩ (.bool true)).alloc (.cells #[.int .i64 (X : Int)] 3)).heap.size := by have := hE.size; omega
            have HB6 : Hid (∀ w6, ((wr.setCell ⟨gm, X, none⟩ (.bool true)).alloc (.cells #[.int .i64 (X : Int)] 3)).grownBy w6 (Value.slice A1 q c1).ownBlock → Below W2.heap.size W2 w6 ∧ Ow boolR 1 w6 W2.heap.size 0 4 (.slice (some ⟨gm, 0, none⟩) M M) M (mets.set X true) ∧ Ow boolR 1 w6 W2.heap.size 0 4 (.slice (some ⟨gp, 0, none⟩) Z Z) Z pers ∧ w4.heap.size ≤ w6.heap.size) := hide fun w6 hg6 => by
              have hbS : Below W2.heap.size W2 ((wr.setCell ⟨gm, X, none⟩ (.bool true)).alloc (.cells #[.int .i64 (X : Int)] 3)) := (hb.setCell hgm2 _).trans (hE.mono (by rw [hs5]; exact hb.size))
              have hlt' := hac.out.lt
              refine ⟨hbS.grown hg6 hbS.size (fun b hb' => by have := (hlt' b hb').1; omega), bool_keptR ((HSM.out (.bool true) true rfl rfl).below boolR_fine hE) hg6 (.inr fun e => by have := (hlt' gm e.symm).1; omega), bool_keptR ((bool_keptR hop.out (put_grown _ _ _) (.inr fun e => by have h : some gp = some gm := e; injection h with h; exact hne h.symm)).below boolR_fine hE) hg6 (.inr fun e => by have := (hlt' gp e.symm).1; omega), Nat.le_trans hsE hg6.size⟩
            have HNN : Hid ((acc ++ [(X : Int)]).Nodup ∧ ∀ b ∈ acc ++ [(X : Int)], 0 ≤ b ∧ b < (M : Int)) := hide ⟨by
              rw [List.nodup_append]
              refine ⟨hnn.out.1, by simp, fun a ha b hb' => ?_⟩
              simp at hb'
              subst hb'
              exact fun e => hmem (e ▸ ha), fun b hb' => by
              rcases List.mem_append.1 hb' with hb' | hb'
              · exact hnn.out.2 b hb'
              · simp at hb'; subst hb'; exact ⟨by omega, by omega⟩⟩
            have hml := (HOM0.out).len
            have HSB1 : Hid (SetB (mets.set X true) M (acc ++ [(X : Int)])) := hide (setB_add hsb.out.1 hom.out.len hXM')
            have HZS := hide (zset_snoc gd acc (X : Int))
            have HPL := hide hop.out.len
            rw [hYI] at HZS
            obtain ⟨dz, hdz⟩ : ∃ dz, dz = decide ((Y : Int) ∈ zset gd acc) := ⟨_, rfl⟩
            have HDZ := hide hdz
            have HPD : Hid (pers[Y]? = some dz) := hide (by rw [hdz]; exact hsb.out.2 Y hYZ)
            have HSB2 := hide hsb.out.2
            have HTT0 := hide htt.out
            have HNC0 := HND
            clear hY hdz hmem hsb hop hom h5 hml hac htt
            have HQ1 : Hid ((acc ++ [(X : Int)]).length = q + 1) := hide (by rw [List.length_append, hqa]; rfl)
            cases dz with
            | true =>
              go_wp2_with (at_builtin; refine wpList_append_ow _ rfl (.tmp 56) (.tmp 58) _ rfl intR_fine w4.heap.size w4.heap.size 3 j0 _ 8 Tryd.underlying27 hj0 jj0 jj1 jj2 rfl (by omega) (.slice A1 q c1) q _ rfl hacE _ _ 1 1 _ rfl hlit (fun _ _ _ h => h) (by simp only [maxLen]; omega) (by omega) hsE ?_; intro V6 w6 ho6 hg6 hat6; obtain ⟨A6, c6, rfl⟩ := ho6.form; obtain ⟨hb6, hm6, hp6, h46⟩ := HB6.out w6 hg6; obtain ⟨x0, x1⟩ := HX.out _ hb6; obtain ⟨g2, b1, u1, hg2, _, _, hb1', hub1, hcp, hfp, hstp⟩ := hp6.spot boolR_fine hYZ; obtain rfl : gp = g2 := (by injection hg2 with hg2; injection hg2); obtain rfl : u1 = .bool b1 := (by have h : [u1] = [Value.bool b1] := hub1; injection h); obtain rfl : b1 = true := (by rw [HPD.out] at hb1'; injection hb1' with hb1'; exact hb1'.symm); have HSP := hide hstp; have HM6 := hide hm6; have HP6 := hide hp6; have HO6 := hide ho6; clear hstp hm6 hp6 ho6 hub1 hb1' hg2; obtain ⟨_, y0, y1, y2, y3, y4⟩ := HGB.out.on hb6; dsimp only at y0 y1 y2 y3 y4)
              have hin : (Y : Int) ∈ zset gd acc := of_decide_eq_true HDZ.out.symm
              have hzz := HZS.out
              rw [if_pos hin] at hzz
              have hnv : needN gd (acc ++ [(X : Int)]) = T + 1 + 1 := by
                unfold needN
                rw [hzz, if_neg (by rw [HQ1.out]; omega), List.length_append, HTT0.out]
                simp
                omega
              have hcon := HND.out (acc ++ [(X : Int)]) (A6) (q + 1) c6 w6 (HO6.out.read intR_fine) (by omega) (by rw [hMI]; exact HNN.out.2) HNN.out.1
              rw [hnv, show (((T + 1 + 1 : Nat)) : Int) = (T : Int) + 1 + 1 from by omega] at hcon
              obtain ⟨TT, hTT⟩ : ∃ TT : Nat, TT = T + 1 := ⟨_, rfl⟩
              have HTT : Hid (TT = (acc ++ [(X : Int)]).length + 2 * (zset gd (acc ++ [(X : Int)])).length) := hide (by rw [hTT, hzz, List.length_append, HTT0.out]; simp; omega)
              have HNC := hide hcon
              have HBN := hide hb6
              have h4N := h46
              have HAC := HO6
              have HOM := HM6
              have HOP := HP6
              have HSBP : Hid (SetB pers Z (zset gd (acc ++ [(X : Int)]))) := hide (by rw [hzz]; exact HSB2.out)
              have tt1 : (T : Int) + 1 = (TT : Int) := by omega
              have HT1 := hide tt1
              clear hcon hnv hzz hin HSP hTT tt1
              (with_reducible refine HNC.out.mono ?_)
              rintro e w8 ⟨rfl, hb8⟩
              have h48 : w4.heap.size ≤ w8.heap.size := Nat.le_trans h4N hb8.size
              go_wp2_with fail
              go_roundw
              case rel =>
                have t1 := HT1.out
                exact ⟨k + 1, q + 1, A6, c6, acc ++ [(X : Int)], _, _, TT, by omega, by go_num, rfl, by go_num, by omega, hide (HAC.out.below intR_fine hb8), hide (HOM.out.below boolR_fine hb8), hide (HOP.out.below boolR_fine hb8), hide ⟨HSB1.out, HSBP.out⟩, HNN, HTT, by omega, th HBN.out hb8, h48⟩
              case measure => simp [intOf]; omega
            | false =>
              go_wp2_with (at_builtin; refine wpList_append_ow _ rfl (.tmp 56) (.tmp 58) _ rfl intR_fine w4.heap.size w4.heap.size 3 j0 _ 8 Tryd.underlying27 hj0 jj0 jj1 jj2 rfl (by omega) (.slice A1 q c1) q _ rfl hacE _ _ 1 1 _ rfl hlit (fun _ _ _ h => h) (by simp only [maxLen]; omega) (by omega) hsE ?_; intro V6 w6 ho6 hg6 hat6; obtain ⟨A6, c6, rfl⟩ := ho6.form; obtain ⟨hb6, hm6, hp6, h46⟩ := HB6.out w6 hg6; obtain ⟨x0, x1⟩ := HX.out _ hb6; obtain ⟨g2, b1, u1, hg2, _, _, hb1', hub1, hcp, hfp, hstp⟩ := hp6.spot boolR_fine hYZ; obtain rfl : gp = g2 := (by injection hg2 with hg2; injection hg2); obtain rfl : u1 = .bool b1 := (by have h : [u1] = [Value.bool b1] := hub1; injection h); obtain rfl : b1 = false := (by rw [HPD.out] at hb1'; injection hb1' with hb1'; exact hb1'.symm); have HSP := hide hstp; have HM6 := hide hm6; have HP6 := hide hp6; have HO6 := hide ho6; clear hstp hm6 hp6 ho6 hub1 hb1' hg2; obtain ⟨_, y0, y1, y2, y3, y4⟩ := HGB.out.on (hb6.setCell (p := ⟨gp, Y, none⟩) hgp2 (.bool true)); dsimp only at y0 y1 y2 y3 y4)
              have hin : ¬ (Y : Int) ∈ zset gd acc := of_decide_eq_false HDZ.out.symm
              have hzz := HZS.out
              rw [if_neg hin] at hzz
              have hnv : needN gd (acc ++ [(X : Int)]) = T + 1 + 2 + 1 := by
                unfold needN
                rw [hzz, if_neg (by rw [HQ1.out]; omega), List.length_append, List.length_append, HTT0.out]
                simp
                omega
              obtain ⟨w7, hw7⟩ : ∃ w7, w7 = w6.setCell ⟨gp, Y, none⟩ (.bool true) := ⟨_, rfl⟩
              have hs7 : w7.heap.size = w6.heap.size := by rw [hw7]; exact set_size _ _ _
              have HAC : Hid (Ow intR 1 w7 w4.heap.size w4.heap.size 3 (.slice A6 (q + 1) c6) (q + 1) (acc ++ [(X : Int)])) := hide (by rw [hw7]; exact intPut HO6.out _ _ (by show gp < _; omega))
              have HOM : Hid (Ow boolR 1 w7 W2.heap.size 0 4 (.slice (some ⟨gm, 0, none⟩) M M) M (mets.set X true)) := hide (by rw [hw7]; exact bool_keptR HM6.out (put_grown _ _ _) (.inr fun e => by have h : some gm = some gp := e; injection h with h; exact hne h))
              have HOP : Hid (Ow boolR 1 w7 W2.heap.size 0 4 (.slice (some ⟨gp, 0, none⟩) Z Z) Z (pers.set Y true)) := hide (by rw [hw7]; exact HSP.out (.bool true) true rfl rfl)
              have hcon := HND.out (acc ++ [(X : Int)]) (A6) (q + 1) c6 w7 (HAC.out.read intR_fine) (by omega) (by rw [hMI]; exact HNN.out.2) HNN.out.1
              rw [hnv, show (((T + 1 + 2 + 1 : Nat)) : Int) = (T : Int) + 1 + 2 + 1 from by omega] at hcon
              obtain ⟨TT, hTT⟩ : ∃ TT : Nat, TT = T + 1 + 2 := ⟨_, rfl⟩
              have HTT : Hid (TT = (acc ++ [(X : Int)]).length + 2 * (zset gd (acc ++ [(X : Int)])).length) := hide (by rw [hTT, hzz, List.length_append, List.length_append, HTT0.out]; simp; omega)
              have HNC := hide hcon
              have HBN : Hid (Below W2.heap.size W2 w7) := hide (by rw [hw7]; exact hb6.setCell hgp2 _)
              have h4N : w4.heap.size ≤ w7.heap.size := by omega
              have HSBP : Hid (SetB (pers.set Y true) Z (zset gd (acc ++ [(X : Int)]))) := hide (by rw [hzz]; exact setB_add HSB2.out HPL.out hYZ)
              have tt1 : (T : Int) + 1 + 2 = (TT : Int) := by omega
              have HT1 := hide tt1
              clear hcon hnv hzz hin HSP hTT tt1
              rw [← hw7]
              clear hw7
              (with_reducible refine HNC.out.mono ?_)
              rintro e w8 ⟨rfl, hb8⟩
              have h48 : w4.heap.size ≤ w8.heap.size := Nat.le_trans h4N hb8.size
              go_wp2_with fail
              go_roundw
              case rel =>
                have t1 := HT1.out
                exact ⟨k + 1, q + 1, A6, c6, acc ++ [(X : Int)], _, _, TT, by omega, by go_num, rfl, by go_num, by omega, hide (HAC.out.below intR_fine hb8), hide (HOM.out.below boolR_fine hb8), hide (HOP.out.below boolR_fine hb8), hide ⟨HSB1.out, HSBP.out⟩, HNN, HTT, by omega, th HBN.out hb8, h48⟩
              case measure => simp [intOf]; omega
        · obtain rfl : k = n := by omega
          have hnil := HND.out [] none 0 0 wr (Sl.nil_ _) (by omega) (by simp) List.nodup_nil
          rw [show needN gd [] = 0 from rfl] at hnil
          have HNIL := hide hnil
          obtain ⟨_, p0, p1, p2, p3, p4⟩ := HGB.out.on hb
          dsimp only at p0 p1 p2 p3 p4
          clear hnil hac hom hop hsb hnn htt
          go_wp2_with fail
          (with_reducible refine HNIL.out.mono ?_)
          rintro e w8 ⟨rfl, hb8⟩
          go_wp2_with fail
          (with_reducible refine (wakes16 _ (hT.below (th hb02 (th hb hb8)))).mono ?_)
          rintro e w9 ⟨rfl, hb9⟩
          go_wp2_with fail
          go_ret
          exact ⟨rfl, th hb02 (th hb (th hb8 hb9))⟩
  · have hn30 : (30 : Int) < (n : Int) := by omega
    go_enter Tryd.func4, Tryd.ntmps4
    go_wp2_with fail
    refine (HS0.out _).mono ?_
    rintro e w1 ⟨rfl, hb1⟩
    go_wp2_with fail
    go_ret
    exact ⟨rfl, th hb1 (alloc_below _ _)⟩

end Go.Proofs.YtdcoholjnlndgaaDoor
