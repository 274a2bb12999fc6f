/-
  Contract: anchor.Read.
-/
import Derived.Test.YtamgpbkakmffiaaDoorAncM
import Derived.Test.YtamgpbkakmffiaaDoorAncT
namespace Go.Proofs.YtamgpbkakmffiaaDoor
open Go.RowKit Go.Lib
set_option linter.unusedVariables false
set_option maxRecDepth 100000

/-- What bytes may be, if they are as long as that. -/
def candA (z d : Nat) (b s : List UInt8) : Anc := ⟨num (b.take 4), num ((b.drop 4).take 4), num ((b.drop 16).take 1), num ((b.drop 8).take 4), num ((b.drop 12).take 4), mkS s, homsOf d z (b.drop (18 + s.length))⟩
theorem ancOf_cand {z d : Nat} {b s : List UInt8} (h : readLab (b.drop 17) = some s) : ancOf z d b = if b.length = 18 + s.length + z * (d + 6) then some (candA z d b s) else none := by
  unfold ancOf
  rw [h]
  rfl
theorem ancOf_none {z d : Nat} {b : List UInt8} (h : readLab (b.drop 17) = none) : ancOf z d b = none := by
  unfold ancOf
  rw [h]
theorem homsOf_in (d : Nat) : ∀ (z : Nat) (l : List UInt8), z * (d + 6) ≤ l.length → ∀ h ∈ homsOf d z l, h.places.length = d + 1 ∧ InI h.next ∧ InI h.root
  | 0, l, _, h, hm => by simp [homsOf] at hm
  | z + 1, l, hl, h, hm => by
    rw [Nat.add_mul, Nat.one_mul] at hl
    rcases List.mem_cons.1 hm with rfl | hm
    · exact homOf_in (by omega)
    · exact homsOf_in d z _ (by rw [List.length_drop]; omega) h hm
theorem cand_len {z d : Nat} {b s : List UInt8} (hl : 18 + s.length + z * (d + 6) ≤ b.length) : (ancL (candA z d b s)).length = 18 + s.length + z * (d + 6) := by
  have h1 := ancL_len (d := d) (a := candA z d b s) (fun h hm => (homsOf_in d z _ (by rw [List.length_drop]; omega) h hm).1)
  rw [h1]
  show 18 + s.length + (homsOf d z _).length * (d + 6) = _
  rw [homsOf_len]
theorem cand_eq {z d : Nat} {b s : List UInt8} (hr : readLab (b.drop 17) = some s) (hl : 18 + s.length + z * (d + 6) ≤ b.length) : ancL (candA z d b s) = b ↔ b.length = 18 + s.length + z * (d + 6) := by
  constructor
  · intro h
    have := cand_len hl
    rw [h] at this
    exact this
  · intro h
    exact (anc_of (z := z) (d := d) (by rw [ancOf_cand hr, if_pos h])).1
theorem cand_in {z d : Nat} {b s : List UInt8} (h17 : 17 ≤ b.length) (hs : s.length ≤ 24) : (candA z d b s).In := by
  have h1 := num_take_lt b 4 (by omega)
  have h2 := num_take_lt (b.drop 4) 4 (by rw [List.length_drop]; omega)
  have h3 := num_take_lt (b.drop 16) 1 (by rw [List.length_drop]; omega)
  have h4 := num_take_lt (b.drop 8) 4 (by rw [List.length_drop]; omega)
  have h5 := num_take_lt (b.drop 12) 4 (by rw [List.length_drop]; omega)
  have h6 : (mkS s).size ≤ maxLen := by rw [← sL_len, sL_mk]; simp only [maxLen]; omega
  refine ⟨⟨?_, ?_⟩, ⟨?_, ?_⟩, ⟨?_, ?_⟩, ⟨?_, ?_⟩, ⟨?_, ?_⟩, h6⟩
  all_goals (simp only [candA]; omega)

/-- What anchor.Read tells. -/
def ARead (g : Geo) (b : List UInt8) (a : Anc) (err : Int) : Prop := (¬ GeoOk g ∧ err = 1 ∧ a = noAnc) ∨ (GeoOk g ∧ ancOf g.zones.toNat g.data.toNat b = some a ∧ AncOk g a ∧ err = 0) ∨ (GeoOk g ∧ (∀ a', ancOf g.zones.toNat g.data.toNat b = some a' → ¬ AncOk g a') ∧ err = 4 ∧ a = noAnc)
def AReadPost (w : World) (g : Geo) (b : List UInt8) (e : Ending) (w' : World) : Prop := Below w.heap.size w w' ∧ ∃ a v err, e = .returned (.tuple #[v, .int .i64 err]) ∧ AncRet w a v w' ∧ ARead g b a err

def headS : List Int := [4, 4, 4, 4, 1]
theorem head_unrow (b : List UInt8) : unrowI headS b = [(num (b.take 4) : Int), (num ((b.drop 4).take 4) : Int), (num ((b.drop 8).take 4) : Int), (num ((b.drop 12).take 4) : Int), (num ((b.drop 16).take 1) : Int)] := by
  simp [headS, unrowI, List.drop_drop]
theorem head_sized : ∀ z ∈ headS, Sized z := fun z hz => by
  simp [headS] at hz
  rcases hz with rfl | rfl
  · exact .inr (.inr rfl)
  · exact .inl rfl

set_option maxHeartbeats 4000000 in
theorem aread_any (g : Geo) (A : Option Addr) (n c : Nat) (b : List UInt8) (w : World) (hT : Tabs w) (hb : Bs w A n c b) (hn : n ≤ 60000) :
    Calls Tryd.prog 35 #[g.v, .slice A n c] w (AReadPost w g b) := by
  obtain ⟨W0, hW0⟩ : ∃ W0, W0 = (w.alloc (.cells #[.int .i64 g.zones, .int .i64 g.data, .int .i64 g.spares, .int .i64 g.slots, .int .i64 g.anchors] 23)).alloc (.cells #[.int .i64 0, .int .i64 0, .int .i64 0, .int .i64 0, .int .i64 0, .string ⟨#[]⟩, .slice none 0 0] 26) := ⟨_, rfl⟩
  have hS0 : (w.alloc (.cells #[.int .i64 g.zones, .int .i64 g.data, .int .i64 g.spares, .int .i64 g.slots, .int .i64 g.anchors] 23)).heap.size = w.heap.size + 1 := by simp
  have hW0s : W0.heap.size = w.heap.size + 2 := by rw [hW0]; simp
  have hb0 : Below w.heap.size w W0 := by rw [hW0]; exact (alloc_below w _).alloc (by simp) _
  have hT0 := hT.below hb0
  have hr0 := hb.on byteR_fine hb0
  have hg0 : GeoAt W0 w.heap.size g := by rw [hW0]; exact (GeoAt.new w g 23).on (alloc_below _ _)
  have hz0 : Sev W0 (w.heap.size + 1) (.int .i64 0) (.int .i64 0) (.int .i64 0) (.int .i64 0) (.int .i64 0) (.string ⟨#[]⟩) (.slice none 0 0) := by rw [hW0]; exact Sev.new hS0 (Below.refl _ _)
  have hf0 : ∀ W, Below W0.heap.size W0 W → ∀ k, W.frozen? ⟨w.heap.size + 1, k, none⟩ = false := fun W hW k => by subst hW0; exact bx_free2 hS0 hW k
  have HF0 := hide hf0
  have hck := fun w => gcheck_any g w
  have hnone : ∀ W, Below W0.heap.size W0 W → AncRet w noAnc (.agg #[.int .i64 0, .int .i64 0, .int .i64 0, .int .i64 0, .int .i64 0, .string ⟨#[]⟩, .slice none 0 0]) (put7 W (w.heap.size + 1) (.int .i64 0) (.int .i64 0) (.int .i64 0) (.int .i64 0) (.int .i64 0) (.string ⟨#[]⟩) (.slice none 0 0)) := fun W hW => ⟨none, 0, 0, rfl, Sl.nil_ _⟩
  have HNONE := hide hnone
  have HLEN := hide hb.len
  unfold AReadPost
  unfold Geo.v at hck ⊢
  by_cases hG : GeoOk g
  · have he : geoErr g = 0 := if_pos hG
    rw [he] at hck
    have HCK := hide hck
    have HG := hide hG
    obtain ⟨z, hz⟩ : ∃ z : Nat, g.zones = (z : Int) := ⟨g.zones.toNat, by have := hG.1; omega⟩
    obtain ⟨d, hd⟩ : ∃ d : Nat, g.data = (d : Int) := ⟨g.data.toNat, by have := hG.2.1; omega⟩
    have hz4 : 1 ≤ z ∧ z ≤ 4 := by have := hG.1; omega
    have hd4 : 1 ≤ d ∧ d ≤ 4 := by have := hG.2.1; omega
    obtain ⟨gz, gd, gs, gl, ga⟩ := g
    dsimp only at hz hd
    subst hz
    subst hd
    dsimp only at *
    have hbad : (∀ a', ancOf z d b = some a' → ¬ AncOk ⟨(z : Int), (d : Int), gs, gl, ga⟩ a') → ARead ⟨(z : Int), (d : Int), gs, gl, ga⟩ b noAnc 4 := fun h => .inr (.inr ⟨hG, h, rfl, rfl⟩)
    have hgood : ∀ a, ancOf z d b = some a → AncOk ⟨(z : Int), (d : Int), gs, gl, ga⟩ a → ARead ⟨(z : Int), (d : Int), gs, gl, ga⟩ b a 0 := fun a h1 h2 => .inr (.inl ⟨hG, h1, h2, rfl⟩)
    have HBAD := hide hbad
    have HGOOD := hide hgood
    clear hck he hG hnone hf0 hbad hgood
    go_enter Tryd.func35, Tryd.ntmps35
    go_wp2_with fail
    rw [← hW0]
    clear hW0
    refine (HCK.out _).mono ?_
    rintro e w1 ⟨rfl, hb1⟩
    have hE1 := alloc_below w1 (.cells #[.int .i64 4, .int .i64 4, .int .i64 4, .int .i64 4, .int .i64 1] 3)
    have hi1 : Is (w1.alloc (.cells #[.int .i64 4, .int .i64 4, .int .i64 4, .int .i64 4, .int .i64 1] 3)) (some ⟨w1.heap.size, 0, none⟩) 5 5 headS := lit_ints_at (n := 5) (l := headS) rfl rfl (by omega) (fun x hx => by simp [headS] at hx; rcases hx with rfl | rfl <;> exact ⟨by omega, by omega⟩) rfl
    have hb01 := th hb1 hE1
    have hun := unrow_new (hr0.on byteR_fine hb01) hi1 (by omega) (by omega) head_sized
    unfold UnrowNew at hun
    rw [show headS.length = 5 from rfl, show sumN headS = 17 from rfl, head_unrow, HLEN.out] at hun
    obtain ⟨M, hM⟩ : ∃ M, M = n - 17 := ⟨_, rfl⟩
    rw [← hM] at hun
    have HM := hide hM
    clear hM
    have HUN := hide hun
    clear hun hi1
    go_wp2_with fail
    refine HUN.out.mono ?_
    rintro e w2 ⟨hb2, ⟨h17, V2, c2, R2, cr2, rfl, hi2, hr2⟩ | ⟨hsh, rfl⟩⟩
    · have hb02 := th hb01 hb2
      have hrB2 := hr2.old_ byteR_fine
      have HLR := hide (lread_any R2 M cr2 (b.drop 17) w2 hrB2 (by have := HM.out; omega) (hT0.below hb02))
      go_wp2_with fail
      refine HLR.out.mono ?_
      unfold LReadPost LRead
      rintro e w3 ⟨hb3, s, k3, e3, rfl, hq3⟩
      have hb03 := th hb02 hb3
      rcases hq3 with ⟨s', hrl, rfl, rfl, rfl⟩ | ⟨hrl, rfl, rfl, rfl⟩
      · obtain ⟨hlab, htk, hle⟩ := readLab_some hrl
        have h24 := lab_len hlab
        rw [hr2.len] at hle
        obtain ⟨K, hK⟩ : ∃ K : Nat, K = 1 + s.length := ⟨_, rfl⟩
        have hKi : (1 : Int) + (s.length : Int) = (K : Int) := by omega
        rw [hKi]
        have hcap := hr2.cap
        have hdd : (b.drop 17).drop K = b.drop (17 + K) := List.drop_drop
        have hR3 := hrB2.on byteR_fine hb3
        obtain ⟨rd, hrd, _, _⟩ := hR3.at0 (by omega)
        subst hrd
        have hsl : ∃ X Y, Bs w3 X (M - K) Y (b.drop (17 + K)) ∧ ((cr2 = K ∧ X = some rd ∧ Y = 0) ∨ (cr2 ≠ K ∧ X = some (rd.add K) ∧ Y = cr2 - K)) := by
          by_cases hc : cr2 = K
          · have h1 := rest1_end (i := K) hR3 (by omega) hc
            rw [hdd] at h1
            exact ⟨_, _, h1, .inl ⟨hc, rfl, rfl⟩⟩
          · have h1 := rest1 (i := K) hR3 (by omega) hc
            rw [hdd] at h1
            exact ⟨_, _, h1, .inr ⟨hc, rfl, rfl⟩⟩
        obtain ⟨X, Y, hX, hXY⟩ := hsl
        have hhom : ∀ W, Below w3.heap.size w3 W → Calls Tryd.prog 77 #[.agg #[.int .i64 z, .int .i64 d, .int .i64 gs, .int .i64 gl, .int .i64 ga], .slice X (M - K) Y] W (AHomesPost W z d (b.drop (17 + K))) := fun W hW => ahomes_any z d gs gl ga hz4 hd4 X (M - K) Y _ W (hX.on byteR_fine hW) (by have := HM.out; omega)
        unfold AHomesPost at hhom
        have hgv : ∀ W, Below w3.heap.size w3 W → W.cell? ⟨w.heap.size, 0, none⟩ = some (.int .i64 z) ∧ W.cell? ⟨w.heap.size, 1, none⟩ = some (.int .i64 d) ∧ W.cell? ⟨w.heap.size, 2, none⟩ = some (.int .i64 gs) ∧ W.cell? ⟨w.heap.size, 3, none⟩ = some (.int .i64 gl) ∧ W.cell? ⟨w.heap.size, 4, none⟩ = some (.int .i64 ga) := fun W hW => (hg0.on (th hb03 hW)).2
        have HHOM := hide hhom
        have HGV := hide hgv
        have hcur : Below w3.heap.size w3 w3.drew := (Below.refl _ _).drew
        have kK0 : (0 : Int) ≤ (K : Int) := by omega
        have kK1 : (K : Int) ≤ (M : Int) := by omega
        have kK2 : (K : Int) ≤ (cr2 : Int) := by omega
        have kK3 : K ≤ M := by omega
        have kK4 : K ≤ cr2 := by omega
        have HK := hide hK
        have HRL := hide hrl
        have HI2 := hide (hi2.old_ intR_fine)
        clear hhom hgv hX hdd hR3 htk hle hKi hK hlab hrl hi2 hr2 hrB2
        go_upto_region 9 with fail
        go_cut [11, 8] (fun v u wx => ∃ A4 n4 c4 L4 e4, u = .int .i64 e4 ∧ v = .slice A4 n4 c4 ∧ Sl homR 3 wx (Old wx) A4 n4 c4 L4 ∧ AHomes z d (b.drop (17 + K)) L4 e4 ∧ Below w3.heap.size w3 wx)
        case first =>
          rcases hXY with ⟨hc, rfl, rfl⟩ | ⟨hc, rfl, rfl⟩
          · obtain rfl := hc
            have hMK : M - cr2 = 0 := by omega
            have h9 := HHOM.out
            rw [hMK] at h9
            have HHOM := hide h9
            clear h9 hMK
            go_region_held3 (fun w' => w'.cell? ⟨w.heap.size, 0, none⟩ = some (.int .i64 z) ∧ w'.cell? ⟨w.heap.size, 1, none⟩ = some (.int .i64 d) ∧ w'.cell? ⟨w.heap.size, 2, none⟩ = some (.int .i64 gs) ∧ w'.cell? ⟨w.heap.size, 3, none⟩ = some (.int .i64 gl) ∧ w'.cell? ⟨w.heap.size, 4, none⟩ = some (.int .i64 ga)) (exact HGV.out _ hcur) ((go_at_call 77; ((with_reducible refine (HHOM.out _ hcur).mono ?_)); rintro e w4 ⟨hb4, A4, n4, c4, L4, e4, rfl, hs4, hq4⟩; have hcur := th hcur hb4))
            all_goals (go_wp2_with fail; go_meet; exact ⟨A4, n4, c4, L4, e4, rfl, rfl, hs4.old_ homR_fine, hq4, hcur⟩)
          · go_region_held3 (fun w' => w'.cell? ⟨w.heap.size, 0, none⟩ = some (.int .i64 z) ∧ w'.cell? ⟨w.heap.size, 1, none⟩ = some (.int .i64 d) ∧ w'.cell? ⟨w.heap.size, 2, none⟩ = some (.int .i64 gs) ∧ w'.cell? ⟨w.heap.size, 3, none⟩ = some (.int .i64 gl) ∧ w'.cell? ⟨w.heap.size, 4, none⟩ = some (.int .i64 ga)) (exact HGV.out _ hcur) ((go_at_call 77; ((with_reducible refine (HHOM.out _ hcur).mono ?_)); rintro e w4 ⟨hb4, A4, n4, c4, L4, e4, rfl, hs4, hq4⟩; have hcur := th hcur hb4))
            all_goals (go_wp2_with fail; go_meet; exact ⟨A4, n4, c4, L4, e4, rfl, rfl, hs4.old_ homR_fine, hq4, hcur⟩)
        case rest =>
          obtain ⟨A4, n4, c4, L4, e4, rfl, rfl, hs4, hq4, hb4⟩ := hcut
          have hlab' := (readLab_some HRL.out).1
          have h24' := lab_len hlab'
          have hin := cand_in (z := z) (d := d) (b := b) (s := s) (by rw [HLEN.out]; exact h17) h24'
          obtain ⟨a4, ha4⟩ : ∃ a4 : Anc, a4 = ⟨num (b.take 4), num ((b.drop 4).take 4), num ((b.drop 16).take 1), num ((b.drop 8).take 4), num ((b.drop 12).take 4), mkS s, L4⟩ := ⟨_, rfl⟩
          have hin4 : a4.In := by rw [ha4]; exact hin
          have hhl : L4.length ≤ 4 ∧ ∀ h ∈ L4, h.places.length ≤ 6000 := by
            rcases hq4 with ⟨q1, _, rfl⟩ | ⟨_, _, rfl⟩
            · exact ⟨by rw [homsOf_len]; omega, fun h hm => by have := (homsOf_in d z _ q1 h hm).1; omega⟩
            · exact ⟨by simp, fun h hm => by simp at hm⟩
          have hlt4 : Light a4 := by rw [ha4]; exact ⟨by show (mkS s).size ≤ 60000; rw [← sL_len, sL_mk]; omega, by show L4.length ≤ 6000; omega, hhl.2⟩
          have hb04 := th hb03 hb4
          have hi4 := HI2.out.on intR_fine (th hb3 hb4)
          obtain ⟨vd, x0, hvd, hvl, hx0, _, hc0⟩ := at_int hi4 (show 0 < 5 by omega)
          subst hvd
          obtain ⟨vd1, x1, hv1, _, hx1, _, hc1⟩ := at_int hi4 (show 1 < 5 by omega)
          obtain ⟨vd2, x2, hv2, _, hx2, _, hc2⟩ := at_int hi4 (show 2 < 5 by omega)
          obtain ⟨vd3, x3, hv3, _, hx3, _, hc3⟩ := at_int hi4 (show 3 < 5 by omega)
          obtain ⟨vd4, x4, hv4, _, hx4, _, hc4⟩ := at_int hi4 (show 4 < 5 by omega)
          injection hv1 with hv1
          injection hv2 with hv2
          injection hv3 with hv3
          injection hv4 with hv4
          subst hv1; subst hv2; subst hv3; subst hv4
          simp at hx0 hx1 hx2 hx3 hx4
          obtain ⟨N0, hN0⟩ : ∃ N0 : Int, N0 = (num (b.take 4) : Nat) := ⟨_, rfl⟩
          obtain ⟨N1, hN1⟩ : ∃ N1 : Int, N1 = (num ((b.drop 4).take 4) : Nat) := ⟨_, rfl⟩
          obtain ⟨N2, hN2⟩ : ∃ N2 : Int, N2 = (num ((b.drop 8).take 4) : Nat) := ⟨_, rfl⟩
          obtain ⟨N3, hN3⟩ : ∃ N3 : Int, N3 = (num ((b.drop 12).take 4) : Nat) := ⟨_, rfl⟩
          obtain ⟨N4, hN4⟩ : ∃ N4 : Int, N4 = (num ((b.drop 16).take 1) : Nat) := ⟨_, rfl⟩
          rw [← hN0] at hx0 ha4
          rw [← hN1] at hx1 ha4
          rw [← hN2] at hx2 ha4
          rw [← hN3] at hx3 ha4
          rw [← hN4] at hx4 ha4
          subst hx0; subst hx1; subst hx2; subst hx3; subst hx4
          rw [add_zero'] at hc0
          have hmv : ∀ W, Below wc.heap.size wc W → W.cell? vd = some (.int .i64 N0) ∧ W.cell? ⟨vd.block, vd.off + 1, none⟩ = some (.int .i64 N1) ∧ W.cell? ⟨vd.block, vd.off + 2, none⟩ = some (.int .i64 N2) ∧ W.cell? ⟨vd.block, vd.off + 3, none⟩ = some (.int .i64 N3) ∧ W.cell? ⟨vd.block, vd.off + 4, none⟩ = some (.int .i64 N4) := fun W hW =>
            ⟨(hW.cell hvl).trans hc0, (hW.cell (p := ⟨vd.block, vd.off + 1, none⟩) hvl).trans hc1, (hW.cell (p := ⟨vd.block, vd.off + 2, none⟩) hvl).trans hc2, (hW.cell (p := ⟨vd.block, vd.off + 3, none⟩) hvl).trans hc3, (hW.cell (p := ⟨vd.block, vd.off + 4, none⟩) hvl).trans hc4⟩
          have HMV := hide hmv
          have hd0 : Below wc.heap.size wc wc.drew := (Below.refl _ _).drew
          have hd1 : ∀ o, Below wc.heap.size wc (wc.alloc o).drew := fun o => (alloc_below wc o).drew
          have HD1 := hide hd1
          have HA4 := hide ha4
          have HHL := hide hhl
          have HN : Hid (candA z d b s = { a4 with homes := homsOf d z (b.drop (18 + s.length)) }) := hide (by rw [ha4, hN0, hN1, hN2, hN3, hN4]; rfl)
          clear hmv hd1 hc0 hc1 hc2 hc3 hc4 hi4 ha4 hhl hin hN0 hN1 hN2 hN3 hN4
          go_upto_region 10 with fail
          go_region_held3 (fun w' => w'.cell? vd = some (.int .i64 N0) ∧ w'.cell? ⟨vd.block, vd.off + 1, none⟩ = some (.int .i64 N1) ∧ w'.cell? ⟨vd.block, vd.off + 2, none⟩ = some (.int .i64 N2) ∧ w'.cell? ⟨vd.block, vd.off + 3, none⟩ = some (.int .i64 N3) ∧ w'.cell? ⟨vd.block, vd.off + 4, none⟩ = some (.int .i64 N4)) (first | exact HMV.out _ hd0 | exact HMV.out _ (HD1.out _)) (fail)
          obtain rfl := HA4.out
          obtain ⟨W5, hW5⟩ : ∃ W5, W5 = (wc.alloc (.cells #[.int .i64 N0, .int .i64 N1, .int .i64 N4, .int .i64 N2, .int .i64 N3, .string (mkS s), .slice A4 n4 c4] 26)).drew := ⟨_, rfl⟩
          have hb5 : Below wc.heap.size wc W5 := by rw [hW5]; exact (alloc_below wc _).drew
          have hb05 := th hb04 hb5
          have hsv5 : Sev W5 wc.heap.size (.int .i64 N0) (.int .i64 N1) (.int .i64 N4) (.int .i64 N2) (.int .i64 N3) (.string (mkS s)) (.slice A4 n4 c4) := by rw [hW5]; exact Sev.new rfl (Below.refl _ _).drew
          have hN5 : wc.heap.size < W5.heap.size := by rw [hW5]; show _ < (wc.alloc _).heap.size; simp
          have HBY := hide (abytes_any ⟨(z : Int), (d : Int), gs, gl, ga⟩ ⟨N0, N1, N4, N2, N3, mkS s, L4⟩ A4 n4 c4 W5 (hT0.below hb05) (hs4.on homR_fine hb5) hin4 hlt4)
          have hg5 := (hg0.on hb05).2
          have hsvx := hsv5
          rw [hW5] at hg5 hsvx
          obtain ⟨p0, p1, p2, p3, p4⟩ := hg5
          obtain ⟨r0, r1, r2, r3, r4, r5, r6⟩ := hsvx
          have HW5 := hide hW5
          clear hW5
          go_wp2_with fail
          rw [← HW5.out]
          refine HBY.out.mono ?_
          unfold ABytesPost ABytes
          rintro e w6 ⟨hb6, V6, n6, c6, l6, f6, rfl, ho6, hq6⟩
          have hb06 := th hb05 hb6
          have h18 : 17 + K = 18 + s.length := by have := HK.out; omega
          rcases hq4 with ⟨q1, rfl, rfl⟩ | ⟨q1, rfl, rfl⟩
          · rw [h18] at q1 hq6 hs4 hin4 hlt4
            have hcnd : candA z d b s = ⟨N0, N1, N4, N2, N3, mkS s, homsOf d z (b.drop (18 + s.length))⟩ := HN.out
            have hlen18 : 18 + s.length + z * (d + 6) ≤ b.length := by
              rw [List.length_drop] at q1
              have h1 := (readLab_some HRL.out).2.2
              rw [List.length_drop] at h1
              omega
            rcases hq6 with ⟨hno, rfl, rfl⟩ | ⟨hyes, rfl, rfl⟩
            · have HAF := hide (HBAD.out fun a' h => by
                rw [ancOf_cand HRL.out] at h
                by_cases hl : b.length = 18 + s.length + z * (d + 6)
                · rw [if_pos hl] at h
                  injection h with h
                  subst h
                  rw [hcnd]
                  exact fun h2 => hno ⟨HG.out, h2⟩
                · rw [if_neg hl] at h; cases h)
              obtain rfl : n6 = 0 := by simpa using ho6.len.symm
              clear hno hcnd hlen18 q1 h18
              obtain ⟨y0, y1, y2, y3, y4, y5, y6⟩ := hz0.onB (show w.heap.size + 1 < W0.heap.size by omega) hb06
              have f0 := HF0.out _ hb06 0
              have f1 := HF0.out _ hb06 1
              have f2 := HF0.out _ hb06 2
              have f3 := HF0.out _ hb06 3
              have f4 := HF0.out _ hb06 4
              have f5 := HF0.out _ hb06 5
              have f6 := HF0.out _ hb06 6
              have hzu := put7_sev (hz0.onB (show w.heap.size + 1 < W0.heap.size by omega) hb06) (.int .i64 0) (.int .i64 0) (.int .i64 0) (.int .i64 0) (.int .i64 0) (.string ⟨#[]⟩) (.slice none 0 0)
              unfold put7 at hzu
              have HZU := hide hzu
              clear hzu
              go_wp2_with fail
              obtain ⟨u0, u1, u2, u3, u4, u5, u6⟩ := HZU.out
              exact bodyPost_ret (v := .tuple #[.agg #[.int .i64 0, .int .i64 0, .int .i64 0, .int .i64 0, .int .i64 0, .string ⟨#[]⟩, .slice none 0 0], .int .i64 4]) (by simp [results, Tryd.results35, go_sem, u0, u1, u2, u3, u4, u5, u6]) rfl ⟨put7_below (th hb0 hb06) (by omega) _ _ _ _ _ _ _, noAnc, _, 4, rfl, HNONE.out _ hb06, HAF.out⟩
            · have HEQ := hide (equal_any (ho6.read byteR_fine) ((hr0.on byteR_fine hb06)))
              by_cases heq : ancL ⟨N0, N1, N4, N2, N3, mkS s, homsOf d z (b.drop (18 + s.length))⟩ = b
              · have hlb : b.length = 18 + s.length + z * (d + 6) := by rw [← hcnd] at heq; exact (cand_eq HRL.out hlen18).1 heq
                have HAF := hide (HGOOD.out _ (by rw [ancOf_cand HRL.out, if_pos hlb, hcnd]) hyes.2)
                have he2 := decide_eq_true heq
                have h9 := HEQ.out
                rw [he2] at h9
                have HEQ2 := hide h9
                have hsw := hs4.on homR_fine (th hb5 hb6)
                have hsv6 := hsv5.on hN5 hb6
                have HTW := hide (atwin_any ⟨N0, N1, N4, N2, N3, mkS s, homsOf d z (b.drop (18 + s.length))⟩ A4 n4 c4 w6 hsw (by have := hs4.len; rw [homsOf_len] at this; omega) (fun h hm => by have := HHL.out.2 h (by rw [h18]; exact hm); omega))
                obtain ⟨r0, r1, r2, r3, r4, r5, r6⟩ := hsv6
                clear heq he2 h9 hcnd hlen18 q1 h18 hlb hyes
                go_wp2_with fail
                refine HEQ2.out.mono ?_
                rintro e w7 ⟨rfl, rfl⟩
                go_wp2_with fail
                refine HTW.out.mono ?_
                unfold ATwinPost Anc.v
                dsimp only
                rintro e w8 ⟨hb8, V8, c8, rfl, hown⟩
                have hb08 := th hb06 hb8
                obtain ⟨y0, y1, y2, y3, y4, y5, y6⟩ := hz0.onB (show w.heap.size + 1 < W0.heap.size by omega) hb08
                have f0 := HF0.out _ hb08 0
                have f1 := HF0.out _ hb08 1
                have f2 := HF0.out _ hb08 2
                have f3 := HF0.out _ hb08 3
                have f4 := HF0.out _ hb08 4
                have f5 := HF0.out _ hb08 5
                have f6 := HF0.out _ hb08 6
                have hzu := put7_sev (hz0.onB (show w.heap.size + 1 < W0.heap.size by omega) hb08) (.int .i64 N0) (.int .i64 N1) (.int .i64 N4) (.int .i64 N2) (.int .i64 N3) (.string (mkS s)) (.slice V8 n4 c8)
                unfold put7 at hzu
                have HZU := hide hzu
                have hs06 := hb06.size
                have hnw := put7_new homR_fine hown.read (show w.heap.size + 1 < w6.heap.size + 2 by omega) (.int .i64 N0) (.int .i64 N1) (.int .i64 N4) (.int .i64 N2) (.int .i64 N3) (.string (mkS s)) (.slice V8 n4 c8)
                have HNW := hide (hnw.new_less homR_fine (show w.heap.size ≤ w6.heap.size + 2 by omega))
                clear hzu hnw
                go_wp2_with fail
                obtain ⟨u0, u1, u2, u3, u4, u5, u6⟩ := HZU.out
                exact bodyPost_ret (v := .tuple #[.agg #[.int .i64 N0, .int .i64 N1, .int .i64 N4, .int .i64 N2, .int .i64 N3, .string (mkS s), .slice V8 n4 c8], .int .i64 0]) (by simp [results, Tryd.results35, go_sem, u0, u1, u2, u3, u4, u5, u6]) rfl ⟨put7_below (th hb0 hb08) (by omega) _ _ _ _ _ _ _, ⟨N0, N1, N4, N2, N3, mkS s, homsOf d z (b.drop (18 + s.length))⟩, _, 0, rfl, ⟨V8, n4, c8, rfl, HNW.out⟩, HAF.out⟩
              · have HAF := hide (HBAD.out fun a' h => by
                  rw [ancOf_cand HRL.out] at h
                  by_cases hl : b.length = 18 + s.length + z * (d + 6)
                  · exact absurd (by rw [← hcnd]; exact (cand_eq HRL.out hlen18).2 hl) heq
                  · rw [if_neg hl] at h; cases h)
                have he2 := decide_eq_false heq
                have h9 := HEQ.out
                rw [he2] at h9
                have HEQ2 := hide h9
                clear heq he2 h9 hcnd hlen18 q1 h18 hyes
                go_wp2_with fail
                refine HEQ2.out.mono ?_
                rintro e w7 ⟨rfl, rfl⟩
                obtain ⟨y0, y1, y2, y3, y4, y5, y6⟩ := hz0.onB (show w.heap.size + 1 < W0.heap.size by omega) hb06
                have f0 := HF0.out _ hb06 0
                have f1 := HF0.out _ hb06 1
                have f2 := HF0.out _ hb06 2
                have f3 := HF0.out _ hb06 3
                have f4 := HF0.out _ hb06 4
                have f5 := HF0.out _ hb06 5
                have f6 := HF0.out _ hb06 6
                have hzu := put7_sev (hz0.onB (show w.heap.size + 1 < W0.heap.size by omega) hb06) (.int .i64 0) (.int .i64 0) (.int .i64 0) (.int .i64 0) (.int .i64 0) (.string ⟨#[]⟩) (.slice none 0 0)
                unfold put7 at hzu
                have HZU := hide hzu
                clear hzu
                go_wp2_with fail
                obtain ⟨u0, u1, u2, u3, u4, u5, u6⟩ := HZU.out
                exact bodyPost_ret (v := .tuple #[.agg #[.int .i64 0, .int .i64 0, .int .i64 0, .int .i64 0, .int .i64 0, .string ⟨#[]⟩, .slice none 0 0], .int .i64 4]) (by simp [results, Tryd.results35, go_sem, u0, u1, u2, u3, u4, u5, u6]) rfl ⟨put7_below (th hb0 hb06) (by omega) _ _ _ _ _ _ _, noAnc, _, 4, rfl, HNONE.out _ hb06, HAF.out⟩
          · have HAF := hide (HBAD.out fun a' h => by
              rw [ancOf_cand HRL.out] at h
              by_cases hl : b.length = 18 + s.length + z * (d + 6)
              · rw [List.length_drop] at q1
                have := HK.out
                omega
              · rw [if_neg hl] at h; cases h)
            clear q1 h18 hq6
            obtain ⟨y0, y1, y2, y3, y4, y5, y6⟩ := hz0.onB (show w.heap.size + 1 < W0.heap.size by omega) hb06
            have f0 := HF0.out _ hb06 0
            have f1 := HF0.out _ hb06 1
            have f2 := HF0.out _ hb06 2
            have f3 := HF0.out _ hb06 3
            have f4 := HF0.out _ hb06 4
            have f5 := HF0.out _ hb06 5
            have f6 := HF0.out _ hb06 6
            have hzu := put7_sev (hz0.onB (show w.heap.size + 1 < W0.heap.size by omega) hb06) (.int .i64 0) (.int .i64 0) (.int .i64 0) (.int .i64 0) (.int .i64 0) (.string ⟨#[]⟩) (.slice none 0 0)
            unfold put7 at hzu
            have HZU := hide hzu
            clear hzu
            go_wp2_with fail
            obtain ⟨u0, u1, u2, u3, u4, u5, u6⟩ := HZU.out
            exact bodyPost_ret (v := .tuple #[.agg #[.int .i64 0, .int .i64 0, .int .i64 0, .int .i64 0, .int .i64 0, .string ⟨#[]⟩, .slice none 0 0], .int .i64 4]) (by simp [results, Tryd.results35, go_sem, u0, u1, u2, u3, u4, u5, u6]) rfl ⟨put7_below (th hb0 hb06) (by omega) _ _ _ _ _ _ _, noAnc, _, 4, rfl, HNONE.out _ hb06, HAF.out⟩
      · have HAF := hide (HBAD.out fun a' h => by rw [ancOf_none hrl] at h; cases h)
        clear hrl
        obtain ⟨y0, y1, y2, y3, y4, y5, y6⟩ := hz0.onB (show w.heap.size + 1 < W0.heap.size by omega) hb03
        have f0 := HF0.out _ hb03 0
        have f1 := HF0.out _ hb03 1
        have f2 := HF0.out _ hb03 2
        have f3 := HF0.out _ hb03 3
        have f4 := HF0.out _ hb03 4
        have f5 := HF0.out _ hb03 5
        have f6 := HF0.out _ hb03 6
        have hzu := put7_sev (hz0.onB (show w.heap.size + 1 < W0.heap.size by omega) hb03) (.int .i64 0) (.int .i64 0) (.int .i64 0) (.int .i64 0) (.int .i64 0) (.string ⟨#[]⟩) (.slice none 0 0)
        unfold put7 at hzu
        have HZU := hide hzu
        clear hzu
        go_wp2_with fail
        obtain ⟨u0, u1, u2, u3, u4, u5, u6⟩ := HZU.out
        exact bodyPost_ret (v := .tuple #[.agg #[.int .i64 0, .int .i64 0, .int .i64 0, .int .i64 0, .int .i64 0, .string ⟨#[]⟩, .slice none 0 0], .int .i64 4]) (by simp [results, Tryd.results35, go_sem, u0, u1, u2, u3, u4, u5, u6]) rfl ⟨put7_below (th hb0 hb03) (by omega) _ _ _ _ _ _ _, noAnc, _, 4, rfl, HNONE.out _ hb03, HAF.out⟩
    · have hb02 := th hb01 hb2
      have HAF := hide (HBAD.out fun a' h => by
        have h1 := HLEN.out
        unfold ancOf at h
        have h2 : b.drop 17 = [] := List.drop_eq_nil_of_le (by omega)
        rw [h2] at h
        cases h)
      clear hsh
      obtain ⟨y0, y1, y2, y3, y4, y5, y6⟩ := hz0.onB (show w.heap.size + 1 < W0.heap.size by omega) hb02
      have f0 := HF0.out _ hb02 0
      have f1 := HF0.out _ hb02 1
      have f2 := HF0.out _ hb02 2
      have f3 := HF0.out _ hb02 3
      have f4 := HF0.out _ hb02 4
      have f5 := HF0.out _ hb02 5
      have f6 := HF0.out _ hb02 6
      have hzu := put7_sev (hz0.onB (show w.heap.size + 1 < W0.heap.size by omega) hb02) (.int .i64 0) (.int .i64 0) (.int .i64 0) (.int .i64 0) (.int .i64 0) (.string ⟨#[]⟩) (.slice none 0 0)
      unfold put7 at hzu
      have HZU := hide hzu
      clear hzu
      go_wp2_with fail
      obtain ⟨u0, u1, u2, u3, u4, u5, u6⟩ := HZU.out
      exact bodyPost_ret (v := .tuple #[.agg #[.int .i64 0, .int .i64 0, .int .i64 0, .int .i64 0, .int .i64 0, .string ⟨#[]⟩, .slice none 0 0], .int .i64 4]) (by simp [results, Tryd.results35, go_sem, u0, u1, u2, u3, u4, u5, u6]) rfl ⟨put7_below (th hb0 hb02) (by omega) _ _ _ _ _ _ _, noAnc, _, 4, rfl, HNONE.out _ hb02, HAF.out⟩
  · have he : geoErr g = 1 := if_neg hG
    rw [he] at hck
    have HCK := hide hck
    have HAF : Hid (ARead g b noAnc 1) := hide (.inl ⟨hG, rfl, rfl⟩)
    clear hck he hG hnone hf0
    go_enter Tryd.func35, Tryd.ntmps35
    go_wp2_with fail
    rw [← hW0]
    clear hW0
    refine (HCK.out _).mono ?_
    rintro e w1 ⟨rfl, hb1⟩
    obtain ⟨y0, y1, y2, y3, y4, y5, y6⟩ := hz0.onB (show w.heap.size + 1 < W0.heap.size by omega) hb1
    have f0 := HF0.out _ hb1 0
    have f1 := HF0.out _ hb1 1
    have f2 := HF0.out _ hb1 2
    have f3 := HF0.out _ hb1 3
    have f4 := HF0.out _ hb1 4
    have f5 := HF0.out _ hb1 5
    have f6 := HF0.out _ hb1 6
    have hzu := put7_sev (hz0.onB (show w.heap.size + 1 < W0.heap.size by omega) hb1) (.int .i64 0) (.int .i64 0) (.int .i64 0) (.int .i64 0) (.int .i64 0) (.string ⟨#[]⟩) (.slice none 0 0)
    unfold put7 at hzu
    have HZU := hide hzu
    clear hzu
    go_wp2_with fail
    obtain ⟨u0, u1, u2, u3, u4, u5, u6⟩ := HZU.out
    exact bodyPost_ret (v := .tuple #[.agg #[.int .i64 0, .int .i64 0, .int .i64 0, .int .i64 0, .int .i64 0, .string ⟨#[]⟩, .slice none 0 0], .int .i64 1]) (by simp [results, Tryd.results35, go_sem, u0, u1, u2, u3, u4, u5, u6]) rfl ⟨put7_below (th hb0 hb1) (by omega) _ _ _ _ _ _ _, noAnc, _, 1, rfl, HNONE.out _ hb1, HAF.out⟩

end Go.Proofs.YtamgpbkakmffiaaDoor
