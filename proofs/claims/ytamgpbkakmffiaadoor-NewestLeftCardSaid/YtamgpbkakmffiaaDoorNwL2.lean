/-
  The walk of casematelaw09.NewestGens.
-/
import Derived.Test.YtamgpbkakmffiaaDoorNwC
import Derived.Deep.RegionHeld3
import Derived.Deep.CutRange
import Derived.Deep.DeepCutAuto
namespace Go.Proofs.YtamgpbkakmffiaaDoor
open Go.RowKit Go.Lib
set_option linter.unusedVariables false
set_option maxRecDepth 100000

theorem got_info : (Tryd.prog.info? 78).map (fun i => (i.zero, i.size, i.bytes)) = some (some (.agg #[.int .i64 0, .slice none 0 0]), 2, 32) := by kernel_rfl
theorem pick_app {g : Geo} {L : List Gt} (x : Gt) : ∀ {k : Nat}, k ≤ L.length → pickN g (L ++ [x]) k = pickN g L k
  | 0, _ => rfl
  | k + 1, hk => by
    have ih := pick_app x (k := k) (g := g) (L := L) (by omega)
    have h1 : (L ++ [x])[k]? = L[k]? := List.getElem?_append_left (by omega)
    unfold pickN
    rw [h1, ih]
theorem at_last (L : List Gt) (x : Gt) : (L ++ [x])[L.length]? = some x := by simp

/-- What is picked of the first k readings: its Gen, its place. -/
def BestAt (g : Geo) (L : List Gt) (k : Nat) (best at_ : Int) : Prop := ∃ (a : Anc) (q : Nat) (b : Bool), pickN g L k = (a, q, b) ∧ ((b = true ∧ a.gen = best ∧ at_ = (q : Int) ∧ 0 ≤ best) ∨ (b = false ∧ best = -1 ∧ at_ = 0 ∧ k = 0))
theorem best_none (g : Geo) : BestAt g [] 0 (-1) 0 := ⟨noAnc, 0, false, rfl, .inr ⟨rfl, rfl, rfl, rfl⟩⟩
theorem best_take {g : Geo} {L : List Gt} {l : List UInt8} {best at_ : Int} {A : Anc} {k : Nat} (h : BestAt g L k best at_) (hk : L.length = k) (hs : saysN g 0 l (k : Int) = some A) (hb : best < A.gen) (h0 : 0 ≤ A.gen) : BestAt g (L ++ [⟨0, l⟩]) (k + 1) A.gen (k : Int) := by
  subst hk
  obtain ⟨a, q, b, hp, hc⟩ := h
  have hp2 : pickN g (L ++ [⟨0, l⟩]) L.length = (a, q, b) := (pick_app _ (Nat.le_refl _)).trans hp
  refine ⟨A, L.length, true, cell_take (at_last L ⟨0, l⟩) hs ?_, .inl ⟨rfl, rfl, rfl, h0⟩⟩
  rw [hp2]
  rcases hc with ⟨_, hg, _⟩ | ⟨hf, _⟩
  · exact .inr (by show a.gen < A.gen; omega)
  · exact .inl hf
theorem best_stay {g : Geo} {L : List Gt} {l : List UInt8} {best at_ : Int} {A : Anc} {k : Nat} (h : BestAt g L k best at_) (hk : L.length = k) (hs : saysN g 0 l (k : Int) = some A) (hb : ¬ best < A.gen) (h0 : 0 ≤ A.gen) : BestAt g (L ++ [⟨0, l⟩]) (k + 1) best at_ := by
  subst hk
  obtain ⟨a, q, b, hp, hc⟩ := h
  have hp2 : pickN g (L ++ [⟨0, l⟩]) L.length = (a, q, b) := (pick_app _ (Nat.le_refl _)).trans hp
  rcases hc with ⟨hb1, hg, h2⟩ | ⟨hf, hm, _⟩
  · refine ⟨a, q, b, (cell_stay (at_last L ⟨0, l⟩) hs ?_).trans hp2, .inl ⟨hb1, hg, h2⟩⟩
    rw [hp2, hb1]
    rintro (h | h)
    · cases h
    · exact hb (by have h' : a.gen < A.gen := h; omega)
  · omega
theorem lab_x : labE (sL ⟨#[120]⟩) = 0 := by
  have h : decs (sL ⟨#[120]⟩) = [(120, 1)] := by
    have e : sL ⟨#[120]⟩ = [120] := rfl
    rw [e, ← decsF_eq 1 _ (by decide)]; decide +kernel
  rw [labE_ok, h]
  exact ⟨by decide, by decide⟩
def genA (z d G : Nat) : Anc := { newAnc z d ⟨#[120]⟩ with gen := (G : Int) }
theorem genA_ok {g : Geo} {z d G : Nat} (hG : GeoOk g) (hz : g.zones = (z : Int)) (hd : g.data = (d : Int)) (hg : G < 1000) : AncOk g (genA z d G) := by
  obtain ⟨⟨_, h1⟩, h2, h3, h4⟩ := newAnc_ok (name := ⟨#[120]⟩) hG hz hd lab_x
  exact ⟨⟨⟨by show (0 : Int) ≤ (G : Int); omega, by show (G : Int) ≤ 4294967295; omega⟩, h1⟩, h2, h3, h4⟩
theorem genA_in {z d G : Nat} (hg : G < 1000) : (genA z d G).In := by
  obtain ⟨_, h⟩ := newAnc_in (z := z) (d := d) (name := ⟨#[120]⟩) (by decide)
  exact ⟨⟨by show (-9223372036854775808 : Int) ≤ (G : Int); omega, by show (G : Int) ≤ 9223372036854775807; omega⟩, h⟩
theorem genA_light {z d G : Nat} (hz : z ≤ 4) (hd : d ≤ 4) : Light (genA z d G) := newAnc_light (z := z) (d := d) (name := ⟨#[120]⟩) (by decide) (by omega) (by omega)

set_option maxHeartbeats 8000000 in
theorem law_newestGens {w : World} {A : Option Addr} {n c : Nat} {X : List Int} (hT : Tabs w) (z : Int) (hz : InI z) (d : Int) (hd : InI d) (a : Int) (ha : InI a) (hx : Is w A n c X) :
    Calls Tryd.prog 14 #[.int .i64 z, .int .i64 d, .int .i64 a, .slice A n c] w fun e w' => e = .returned (.bool true) ∧ Below w.heap.size w w' := by
  obtain ⟨e0, he0, ee0, ee1, ee2⟩ := info_parts got_info
  have hs0 := fun w => some_any z d 1 0 a hz hd inI_1 inI_0 ha w
  have hgo := someG_ok z d 1 0 a
  obtain ⟨g, hg⟩ : ∃ g, g = someG z d 1 0 a := ⟨_, rfl⟩
  rw [← hg] at hs0 hgo
  obtain ⟨Z, hZ⟩ : ∃ Z : Nat, g.zones = (Z : Int) := ⟨g.zones.toNat, by have := hgo.1; omega⟩
  obtain ⟨D, hD⟩ : ∃ D : Nat, g.data = (D : Int) := ⟨g.data.toNat, by have := hgo.2.1; omega⟩
  obtain ⟨M, hM⟩ : ∃ M : Nat, g.anchors = (M : Int) := ⟨g.anchors.toNat, by have := hgo.2.2.2.2; omega⟩
  have hZ4 : Z ≤ 4 := by have := hgo.1; omega
  have hD4 : D ≤ 4 := by have := hgo.2.1; omega
  have hM3 : 1 ≤ M ∧ M ≤ 3 := by have := hgo.2.2.2.2; omega
  obtain ⟨hM1, hM3⟩ := hM3
  have hfi := fun w => rafirst_any (g := g) hZ hD hZ4 hD4 ⟨#[120]⟩ w
  have hce : ∀ (k G : Nat), k < M → G < 1000 → ∀ (V : Option Addr) (c : Nat) (w : World), Tabs w → Sl homR 3 w (Old w) V Z c (List.replicate Z (newHom D)) →
      Calls Tryd.prog 48 #[g.v, (genA Z D G).v (.slice V Z c), .int .i64 (k : Int)] w fun e w' => Below w.heap.size w w' ∧ ∃ V m cv l, e = .returned (.tuple #[.slice V m cv, .int .i64 0]) ∧ m ≤ 1000 ∧ Sl byteR 1 w' (New w.heap.size w') V m cv l ∧ saysN g 0 l (k : Int) = some (genA Z D G) := fun k G hk hG V c w hT hs => by
    have hok := genA_ok hgo hZ hD hG
    have hr := (anc_room hgo hok).2
    refine (ncell_yes g (genA Z D G) V Z c k w hT hs (genA_in hG) (genA_light hZ4 hD4) ⟨hgo, hok, by omega, by omega⟩).mono ?_
    rintro e w' ⟨V, cv, rfl, ho, hb⟩
    exact ⟨hb, V, _, cv, _, rfl, by omega, ho.new_ byteR_fine (Nat.le_refl _) (Nat.le_refl _), by rw [says_cell hgo hok (by omega)]; exact if_pos rfl⟩
  have hpi := fun (V : Option Addr) (c : Nat) (L : List Gt) (w : World) (hT : Tabs w) (h : Sl gotR 2 w (Old w) V M c L) (hb : ∀ x ∈ L, x.bytes.length ≤ 60000) => npick_yes g hgo V M c L w hT h hM.symm hb
  have HGO := hide hgo
  have hlenX := hx.len
  have HBN := hide (best_none g)
  have HBT := hide fun (L : List Gt) (l : List UInt8) (best at_ : Int) (k G : Nat) (h : BestAt g L k best at_) (hk : L.length = k) (hs : saysN g 0 l (k : Int) = some (genA Z D G)) (hb : best < (G : Int)) => best_take h hk hs (show best < (genA Z D G).gen from hb) (show (0 : Int) ≤ (G : Int) by omega)
  have HBS := hide fun (L : List Gt) (l : List UInt8) (best at_ : Int) (k G : Nat) (h : BestAt g L k best at_) (hk : L.length = k) (hs : saysN g 0 l (k : Int) = some (genA Z D G)) (hb : ¬ best < (G : Int)) => best_stay h hk hs (show ¬ best < (genA Z D G).gen from hb) (show (0 : Int) ≤ (G : Int) by omega)
  unfold genA newAnc Anc.v at hce
  unfold Geo.v at hs0 hfi hce hpi
  unfold newAnc Anc.v at hfi
  dsimp only at hce hs0 hfi hpi
  obtain ⟨gz, gd, gs, gl, ga⟩ := g
  dsimp only at hZ hD hM hs0 hfi hce hpi
  subst hZ
  subst hD
  subst hM
  have HS0 := hide hs0
  have HFI := hide hfi
  have HCE := hide hce
  have HPI := hide hpi
  clear hs0 hfi hce hpi hg hgo hz hd ha
  by_cases hbad : n < M ∨ 10 < n
  · rcases hbad with h | h
    · have h1 : (n : Int) < (M : Int) := by omega
      go_enter Tryd.func14, Tryd.ntmps14
      go_wp2_with fail
      refine (HS0.out _).mono ?_
      rintro e w1 ⟨rfl, hb1⟩
      have hE2 := alloc_below w1 (.cells #[.int .i64 Z, .int .i64 D, .int .i64 gs, .int .i64 gl, .int .i64 M] 23)
      go_wp2_with fail
      go_ret
      exact ⟨rfl, th hb1 hE2⟩
    · have h1 : ¬ (n : Int) < (M : Int) := by omega
      have h2 : (10 : Int) < (n : Int) := by omega
      go_enter Tryd.func14, Tryd.ntmps14
      go_wp2_with fail
      refine (HS0.out _).mono ?_
      rintro e w1 ⟨rfl, hb1⟩
      have hE2 := alloc_below w1 (.cells #[.int .i64 Z, .int .i64 D, .int .i64 gs, .int .i64 gl, .int .i64 M] 23)
      go_wp2_with fail
      go_ret
      exact ⟨rfl, th hb1 hE2⟩
  have h1 : ¬ (n : Int) < (M : Int) := by omega
  have h2 : ¬ (10 : Int) < (n : Int) := by omega
  have hMn : M ≤ n := by omega
  have h1d : decide (n < M) = false := by simpa using hMn
  have h2d : decide ((10 : Int) < (n : Int)) = false := by simpa using h2
  clear hbad
  go_enter Tryd.func14, Tryd.ntmps14
  go_wp2_with fail
  refine (HS0.out _).mono ?_
  rintro e w1 ⟨rfl, hb1⟩
  obtain ⟨W2, hW2⟩ : ∃ W2, W2 = w1.alloc (.cells #[.int .i64 Z, .int .i64 D, .int .i64 gs, .int .i64 gl, .int .i64 M] 23) := ⟨_, rfl⟩
  have hE2 : Below w1.heap.size w1 W2 := by rw [hW2]; exact alloc_below _ _
  have hgb : GeoAt W2 w1.heap.size ⟨Z, D, gs, gl, M⟩ := by rw [hW2]; exact GeoAt.new w1 ⟨Z, D, gs, gl, M⟩ 23
  have HGB := hide hgb
  have hb02 := th hb1 hE2
  have hx2 := hx.on intR_fine hb02
  clear hgb
  go_wp2_with fail
  rw [← hW2]
  clear hW2
  go_loopw [10, 11, 12, 13] (fun l b t i wr => ∃ k : Nat, ∃ V cv L, ∃ best at_ : Int, k ≤ M ∧ i = .int .i64 k ∧ b = .int .i64 best ∧ t = .int .i64 at_ ∧ l = .slice V k cv ∧ Ow gotR 2 wr W2.heap.size 0 78 (.slice V k cv) k L ∧ Hid (BestAt ⟨Z, D, gs, gl, M⟩ L k best at_) ∧ Hid (∀ x ∈ L, x.bytes.length ≤ 60000) ∧ Below W2.heap.size W2 wr) (fun _ _ _ i _ => M - (RowKit.intOf i).toNat)
  case atStart => exact ⟨0, none, 0, [], -1, 0, Nat.zero_le _, rfl, rfl, rfl, rfl, Ow.nil_ _ _ _ _, HBN, hide (by simp), Below.refl _ _⟩
  case round =>
    obtain ⟨k, V, cv, L, best, at_, hk, rfl, rfl, rfl, rfl, ho, hbest, hlb, hb⟩ := hrel
    obtain ⟨_, p0, p1, p2, p3, p4⟩ := HGB.out.on hb
    by_cases hlt : k < M
    · have hlI : (k : Int) < (M : Int) := by omega
      have k0 : (0 : Int) ≤ (k : Int) := by omega
      have k1 : (k : Int) < (n : Int) := by omega
      have hbk := hb
      have hszb := hb.size
      go_wp2_with fail
      refine (HFI.out _).mono ?_
      rintro e w3 ⟨hb3, V3, c3, rfl, hs3⟩
      obtain ⟨ad, x, rfl, hadl, hxk, hxi, hxc⟩ := at_int (hx2.on intR_fine (th hb (th hb3 (alloc_below w3 (.cells #[.int .i64 1, .int .i64 0, .int .i64 0, .int .i64 1, .int .i64 0, .string ⟨#[120]⟩, .slice V3 Z c3] 26))))) (show k < n by omega)
      obtain ⟨G, hu, hG⟩ := um_is x 1000 (by omega) (by omega)
      obtain ⟨ha1, hc1⟩ := um_rawG hu (by omega) (by omega)
      have ha1' : (IntKind.u64.wrap x).tmod 1000 = (G : Int) := ha1
      have hc1' : IntKind.u64.wrap x % 1000 = (G : Int) := hc1
      have z1 : IntKind.i64.wrap (G : Int) = (G : Int) := IntWalk.i64_in _ (by omega)
      have z2 : IntKind.u64.wrap (G : Int) = (G : Int) := by rw [IntKind.wrap_u64]; omega
      have hfr : (w3.alloc (.cells #[.int .i64 1, .int .i64 0, .int .i64 0, .int .i64 1, .int .i64 0, .string ⟨#[120]⟩, .slice V3 Z c3] 26)).frozen? ⟨w3.heap.size, 0, none⟩ = false := box_free (Below.refl _ _) 0
      have hsv : Sev (w3.alloc (.cells #[.int .i64 1, .int .i64 0, .int .i64 0, .int .i64 1, .int .i64 0, .string ⟨#[120]⟩, .slice V3 Z c3] 26)) w3.heap.size (.int .i64 1) (.int .i64 0) (.int .i64 0) (.int .i64 1) (.int .i64 0) (.string ⟨#[120]⟩) (.slice V3 Z c3) := Sev.new rfl (Below.refl _ _)
      obtain ⟨W4, hW4⟩ : ∃ W4, W4 = w3.alloc (.cells #[.int .i64 (G : Int), .int .i64 0, .int .i64 0, .int .i64 1, .int .i64 0, .string ⟨#[120]⟩, .slice V3 Z c3] 26) := ⟨_, rfl⟩
      have hE4 : Below w3.heap.size w3 W4 := by rw [hW4]; exact alloc_below _ _
      have hN4 : w3.heap.size < W4.heap.size := by rw [hW4]; simp
      have hv4 : Sev W4 w3.heap.size (.int .i64 (G : Int)) (.int .i64 0) (.int .i64 0) (.int .i64 1) (.int .i64 0) (.string ⟨#[120]⟩) (.slice V3 Z c3) := by rw [hW4]; exact Sev.new rfl (Below.refl _ _)
      have hs4 := (hs3.old_ homR_fine).on homR_fine hE4
      have hb34 := th hb3 hE4
      have hb24 := th hb hb34
      have HV4 := hide hv4
      have hN3 := hb3.size
      obtain ⟨y0, _⟩ := hsv
      clear hu ha1 hc1 hv4 hxk
      go_upto_region 11 with fail
      rw [← hW4]
      clear hW4 hxc hfr y0 p0 p1 p2 p3 p4
      obtain ⟨_, p0, p1, p2, p3, p4⟩ := HGB.out.on hb24
      obtain ⟨q0, q1, q2, q3, q4, q5, q6⟩ := HV4.out
      go_wp2_with fail
      with_reducible refine (HCE.out k G hlt hG _ _ _ (hT.below (th hb02 hb24)) hs4).mono ?_
      rintro e w5 ⟨hb5, V5, m5, c5, l5, rfl, hm5, hs5, hsy⟩
      have hb25 := th hb24 hb5
      have ho5 := (ho.below gotR_fine hb34).below gotR_fine hb5
      have hltV : ∀ j, (Value.slice V k cv).ownBlock = some j → j < wr.heap.size := fun j e => (ho.lt j e).2
      have hlit : Sl gotR 2 (w5.alloc (.cells #[.int .i64 0, .slice V5 m5 c5] 78)) (But (w5.alloc (.cells #[.int .i64 0, .slice V5 m5 c5] 78)) 0 (.slice V k cv)) (some ⟨w5.heap.size, 0, none⟩) 1 1 [⟨0, l5⟩] := by
        refine Sl.one_ gotR_fine ⟨V5, m5, c5, rfl, inI_0, hs5.move byteR_fine (fun _ _ => rfl) (fun b hb => ⟨Nat.zero_le _, hb.2, fun e => ?_⟩)⟩ (fun j e => ?_) (Nat.zero_le _)
        · have h1 := hltV b e.symm
          have h2 := hb.1
          have h3 := hb34.size
          omega
        · have h1 := hltV j e
          have h3 := hb34.size
          have h4 := hb5.size
          omega
      have hE6 := alloc_below w5 (.cells #[.int .i64 0, .slice V5 m5 c5] 78)
      have hoE := ho5.below gotR_fine hE6
      have hb26 := th hb25 hE6
      have hsE : W2.heap.size ≤ (w5.alloc (.cells #[.int .i64 0, .slice V5 m5 c5] 78)).heap.size := hb26.size
      have hLk : L.length = k := ho.len
      have hl5 : l5.length = m5 := hs5.len
      have hlb2 : Hid (∀ y ∈ L ++ [(⟨0, l5⟩ : Gt)], y.bytes.length ≤ 60000) := hide fun y hy => by
        rcases List.mem_append.1 hy with h | h
        · exact hlb.out y h
        · simp at h
          subst h
          show l5.length ≤ 60000
          omega
      have h56 := (th hb5 hE6)
      have HSY := hide hsy
      have HQ0 := hide ((h56.cell (p := ⟨w3.heap.size, 0, none⟩) hN4).trans q0)
      have hN6 : w3.heap.size < (w5.alloc (.cells #[.int .i64 0, .slice V5 m5 c5] 78)).heap.size := Nat.lt_of_lt_of_le hN4 h56.size
      have hne3 : ∀ j, (Value.slice V k cv).ownBlock = some j → j ≠ w3.heap.size := fun j e => by
        have := hltV j e
        omega
      have HNE := hide hne3
      have HL5 := hide hl5
      have HLK := hide hLk
      clear hsy q0 q1 q2 q3 q4 q5 q6 p0 p1 p2 p3 p4 hne3 hltV hl5 hLk
      by_cases hgt : best < (G : Int)
      · go_wp2_with (at_builtin; refine wpList_append_ow _ rfl (.tmp 59) (.tmp 62) _ rfl gotR_fine W2.heap.size 0 78 e0 _ 32 Tryd.underlying76 he0 ee0 ee1 ee2 rfl (by omega) (.slice V k cv) k _ rfl hoE _ _ 1 1 _ rfl hlit (fun _ _ _ h => h) (by simp only [maxLen]; omega) (by omega) hsE ?_; intro V6 w6 ho6 hg6 hat6; obtain ⟨A6, c6, rfl⟩ := ho6.form; have ct6 : w6.cell? ⟨w3.heap.size, 0, none⟩ = some (.int .i64 (G : Int)) := (World.cell?_of_block (a := ⟨w3.heap.size, 0, none⟩) (hg6.block w3.heap.size hN6 (fun e => HNE.out _ e.symm rfl))).trans HQ0.out)
        have hb6 := below_grown hg6 hoE.lt hsE
        go_roundw
        case rel => exact ⟨k + 1, A6, c6, _, _, _, by omega, by go_num, rfl, rfl, rfl, ho6, hide (HBT.out L l5 best at_ k G hbest.out HLK.out HSY.out hgt), hlb2, hb26.trans hb6⟩
        case measure => (first | omega | (simp [RowKit.intOf]; omega) | (unfold RowKit.intOf; simp; omega) | go_num)
      · go_wp2_with (at_builtin; refine wpList_append_ow _ rfl (.tmp 59) (.tmp 62) _ rfl gotR_fine W2.heap.size 0 78 e0 _ 32 Tryd.underlying76 he0 ee0 ee1 ee2 rfl (by omega) (.slice V k cv) k _ rfl hoE _ _ 1 1 _ rfl hlit (fun _ _ _ h => h) (by simp only [maxLen]; omega) (by omega) hsE ?_; intro V6 w6 ho6 hg6 hat6; obtain ⟨A6, c6, rfl⟩ := ho6.form; have ct6 : w6.cell? ⟨w3.heap.size, 0, none⟩ = some (.int .i64 (G : Int)) := (World.cell?_of_block (a := ⟨w3.heap.size, 0, none⟩) (hg6.block w3.heap.size hN6 (fun e => HNE.out _ e.symm rfl))).trans HQ0.out)
        have hb6 := below_grown hg6 hoE.lt hsE
        go_roundw
        case rel => exact ⟨k + 1, A6, c6, _, _, _, by omega, by go_num, rfl, rfl, rfl, ho6, hide (HBS.out L l5 best at_ k G hbest.out HLK.out HSY.out hgt), hlb2, hb26.trans hb6⟩
        case measure => (first | omega | (simp [RowKit.intOf]; omega) | (unfold RowKit.intOf; simp; omega) | go_num)
    · obtain rfl : k = M := by omega
      obtain ⟨a9, q9, b9, hp9, hc9⟩ := hbest.out
      have hr9 := ho.read gotR_fine
      obtain ⟨rfl, rfl, rfl, _⟩ : b9 = true ∧ a9.gen = best ∧ at_ = (q9 : Int) ∧ 0 ≤ best := by
        rcases hc9 with h | ⟨_, _, _, hk0⟩
        · exact h
        · omega
      have hpe : pickE ⟨Z, D, gs, gl, k⟩ L k = 0 := by unfold pickE; rw [hp9]; rfl
      have hpk := HPI.out V cv L wr (hT.below (th hb02 hb)) hr9 hlb.out
      rw [hp9, hpe] at hpk
      unfold Anc.v at hpk
      dsimp only at hpk
      have HPK := hide hpk
      have hkk : ¬ (k : Int) < (k : Int) := by omega
      clear hpk hpe hp9
      go_wp2_with fail
      with_reducible refine HPK.out.mono ?_
      rintro e w3 ⟨hb3, V3, m3, c3, rfl, hs3⟩
      obtain ⟨W4, hW4⟩ : ∃ W4, W4 = w3.alloc (.cells #[.int .i64 a9.gen, .int .i64 a9.epoch, .int .i64 a9.pos, .int .i64 a9.seq, .int .i64 a9.last, .string a9.label, .slice V3 m3 c3] 26) := ⟨_, rfl⟩
      have hE4 : Below w3.heap.size w3 W4 := by rw [hW4]; exact alloc_below _ _
      have hv4 : Sev W4 w3.heap.size (.int .i64 a9.gen) (.int .i64 a9.epoch) (.int .i64 a9.pos) (.int .i64 a9.seq) (.int .i64 a9.last) (.string a9.label) (.slice V3 m3 c3) := by rw [hW4]; exact Sev.new rfl (Below.refl _ _)
      have hb04 := th hb02 (th hb (th hb3 hE4))
      obtain ⟨q0, _⟩ := hv4
      clear p0 p1 p2 p3 p4
      go_upto_region 18 with fail
      rw [← hW4]
      clear hW4
      go_wp2_with fail
      refine (wakes09 _ (hT.below hb04)).mono ?_
      rintro e w5 ⟨rfl, hb5⟩
      go_wp2_with fail
      go_ret
      exact ⟨rfl, th hb04 hb5⟩

end Go.Proofs.YtamgpbkakmffiaaDoor
