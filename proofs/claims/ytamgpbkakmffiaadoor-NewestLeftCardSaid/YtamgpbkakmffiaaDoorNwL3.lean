/-
  The walk of casematelaw09.NewestLeft.
-/
import Derived.Test.YtamgpbkakmffiaaDoorNwL2
import Derived.Test.YtamgpbkakmffiaaDoorSealG
namespace Go.Proofs.YtamgpbkakmffiaaDoor
open Go.RowKit Go.Lib
set_option linter.unusedVariables false
set_option maxRecDepth 100000

/-- What is picked where all that say something say the same anchor. -/
def LeftAt (g : Geo) (a : Anc) (L : List Gt) (k : Nat) (left : Int) : Prop := ∃ (p : Anc) (q : Nat) (b : Bool), pickN g L k = (p, q, b) ∧ ((b = true ∧ p = a ∧ q < k ∧ 0 < left) ∨ (b = false ∧ p = noAnc ∧ q = 0 ∧ left = 0))
theorem left_none (g : Geo) (a : Anc) : LeftAt g a [] 0 0 := ⟨noAnc, 0, false, rfl, .inr ⟨rfl, rfl, rfl, rfl⟩⟩
theorem left_rest {g : Geo} {a : Anc} {L : List Gt} {e : Int} {l : List UInt8} {left : Int} {k : Nat} (h : LeftAt g a L k left) (hk : L.length = k) (hs : saysN g e l (k : Int) = none) : LeftAt g a (L ++ [⟨e, l⟩]) (k + 1) left := by
  subst hk
  obtain ⟨p, q, b, hp, hc⟩ := h
  have hp2 : pickN g (L ++ [⟨e, l⟩]) L.length = (p, q, b) := (pick_app _ (Nat.le_refl _)).trans hp
  refine ⟨p, q, b, (cell_rest (at_last L ⟨e, l⟩) hs).trans hp2, ?_⟩
  rcases hc with ⟨h1, h2, h3, h4⟩ | h
  · exact .inl ⟨h1, h2, by omega, h4⟩
  · exact .inr h
theorem left_more {g : Geo} {a : Anc} {L : List Gt} {e : Int} {l : List UInt8} {left : Int} {k : Nat} (h : LeftAt g a L k left) (hk : L.length = k) (hs : saysN g e l (k : Int) = some a) : LeftAt g a (L ++ [⟨e, l⟩]) (k + 1) (left + 1) := by
  subst hk
  obtain ⟨p, q, b, hp, hc⟩ := h
  have hp2 : pickN g (L ++ [⟨e, l⟩]) L.length = (p, q, b) := (pick_app _ (Nat.le_refl _)).trans hp
  rcases hc with ⟨h1, h2, h3, h4⟩ | ⟨h1, h2, h3, h4⟩
  · refine ⟨p, q, b, (cell_stay (at_last L ⟨e, l⟩) hs ?_).trans hp2, .inl ⟨h1, h2, by omega, by omega⟩⟩
    rw [hp2, h1, h2]
    rintro (h | h)
    · cases h
    · exact absurd h (by show ¬ a.gen < a.gen; omega)
  · refine ⟨a, L.length, true, cell_take (at_last L ⟨e, l⟩) hs ?_, .inl ⟨rfl, rfl, by omega, by omega⟩⟩
    rw [hp2]
    exact .inl h1
theorem bent_bad {a s : Nat} {l : List UInt8} (hl : l.length ≤ 96) (bit bits : Int) : (openS (flipL (sealL a s l) bit bits)).2 ≠ 0 := by
  have hlen := seal_len a s l
  rw [show openS (flipL (sealL a s l) bit bits) = (noSec, 5) from open_bent hl (oddN_lt _) (oddN_odd _) (flipAt_lt (by omega) bit)]
  decide
theorem cut_bad {a s : Nat} {l : List UInt8} (hl : l.length ≤ 96) : (openS ((sealL a s l).take (l.length + 10))).2 ≠ 0 := by
  have hlen : ((sealL a s l).take (l.length + 10)).length = l.length + 10 := by rw [List.length_take, seal_len]; omega
  have h0 : ((sealL a s l).take (l.length + 10)).headD 0 = UInt8.ofNat l.length := rfl
  have h3 : (UInt8.ofNat l.length).toNat = l.length := by rw [UInt8.toNat_ofNat']; omega
  unfold openS
  rw [hlen, h0, h3]
  by_cases h1 : l.length + 10 < 11 ∨ 107 < l.length + 10
  · rw [if_pos h1]
    decide
  · rw [if_neg h1]
    split
    · decide
    · rw [if_pos (by omega)]
      decide
theorem wrap32 (x : Int) : ∃ y : Int, (IntKind.u64.wrap x).tmod 4294967296 = y ∧ IntKind.u64.wrap x % 4294967296 = y ∧ 0 ≤ y ∧ y < 4294967296 := by
  have h0 : 0 ≤ IntKind.u64.wrap x := by rw [IntKind.wrap_u64]; exact Int.emod_nonneg _ (by omega)
  exact ⟨_, Int.tmod_eq_emod_of_nonneg h0, rfl, Int.emod_nonneg _ (by omega), Int.emod_lt_of_pos _ (by omega)⟩

set_option maxHeartbeats 16000000 in
theorem walk_newestLeft {w : World} (hT : Tabs w) (g : Geo) (a : Anc) (A B C : Option Addr) (n c nb cb nc cc : Nat) (X Y : List Int) (ha : Sl homR 3 w (Old w) A n c a.homes) (hin : a.In) (hx : Is w B nb cb X) (hy : Is w C nc cc Y) :
    Calls Tryd.prog 13 #[g.v, a.v (.slice A n c), .slice B nb cb, .slice C nc cc] w fun e w' => e = .returned (.bool true) ∧ Below w.heap.size w w' := by
  obtain ⟨e0, he0, ee0, ee1, ee2⟩ := info_parts got_info
  have HHV := hide fun w h => heavya_any a A n c w h
  have HGE := hide fun w => rgeo_any g w
  have HRA := hide fun hG hl w h => ranchor_any g hG a A n c w h hin hl
  have HLI := hide fun (h : heavyA a = false) => heavyA_light h
  have HCE0 := hide fun hl i w hT hs hok => ncell_yes g a A n c i w hT hs hin hl hok
  have HLEN := hide ha.len
  obtain ⟨H, hH⟩ : ∃ H, H = heavyA a := ⟨_, rfl⟩
  obtain ⟨Gb, hGb⟩ : ∃ Gb, Gb = decide (GeoOk g) := ⟨_, rfl⟩
  obtain ⟨Rb, hRb⟩ : ∃ Rb, Rb = decide (AncOk g a) := ⟨_, rfl⟩
  rw [← hH] at HHV HLI
  rw [← hGb] at HGE
  rw [← hRb] at HRA
  obtain ⟨W0, hW0⟩ : ∃ W0, W0 = (w.alloc (.cells #[.int .i64 g.zones, .int .i64 g.data, .int .i64 g.spares, .int .i64 g.slots, .int .i64 g.anchors] 23)).alloc (.cells #[.int .i64 a.gen, .int .i64 a.epoch, .int .i64 a.pos, .int .i64 a.seq, .int .i64 a.last, .string a.label, .slice A n c] 26) := ⟨_, rfl⟩
  have hb0 : Below w.heap.size w W0 := by rw [hW0]; exact (alloc_below w _).alloc (by simp) _
  have ha0 := ha.on homR_fine hb0
  have hx0 := hx.on intR_fine hb0
  have hy0 := hy.on intR_fine hb0
  have hgb : GeoAt W0 w.heap.size g := by rw [hW0]; exact (GeoAt.new w g 23).on (alloc_below _ _)
  have hsv : Sev W0 (w.heap.size + 1) (.int .i64 a.gen) (.int .i64 a.epoch) (.int .i64 a.pos) (.int .i64 a.seq) (.int .i64 a.last) (.string a.label) (.slice A n c) := by rw [hW0]; exact Sev.new (by simp) (Below.refl _ _)
  have hN1 : w.heap.size + 1 < W0.heap.size := by rw [hW0]; simp
  have HSV := hide hsv
  have HGB := hide hgb
  have hpq := hgb.2
  rw [hW0] at hpq hsv
  obtain ⟨p0, p1, p2, p3, p4⟩ := hpq
  obtain ⟨q0, q1, q2, q3, q4, q5, q6⟩ := hsv
  clear hgb hx hy
  have HGD := hide hGb
  have HRD := hide hRb
  clear hGb hRb hH
  unfold Geo.v Anc.v at *
  cases H with
  | true =>
    go_enter Tryd.func13, Tryd.ntmps13
    go_wp2_with fail
    rw [← hW0]
    clear p0 p1 p2 p3 p4
    clear q0 q1 q2 q3 q4 q5 q6
    refine (HHV.out _ ha0).mono ?_
    rintro e w1 ⟨rfl, hb1⟩
    go_wp2_with fail
    go_ret
    exact ⟨rfl, th hb0 hb1⟩
  | false =>
    have HL := hide (HLI.out rfl)
    cases Gb with
    | false =>
      go_enter Tryd.func13, Tryd.ntmps13
      go_wp2_with fail
      rw [← hW0]
      clear p0 p1 p2 p3 p4
      clear q0 q1 q2 q3 q4 q5 q6
      refine (HHV.out _ ha0).mono ?_
      rintro e w1 ⟨rfl, hb1⟩
      obtain ⟨_, p0, p1, p2, p3, p4⟩ := HGB.out.on hb1
      go_wp2_with fail
      refine (HGE.out _).mono ?_
      rintro e w2 ⟨rfl, hb2⟩
      have hb02 := th hb1 hb2
      clear p0 p1 p2 p3 p4
      go_wp2_with fail
      go_ret
      exact ⟨rfl, th hb0 hb02⟩
    | true =>
      have HGO : Hid (GeoOk g) := hide (of_decide_eq_true HGD.out.symm)
      cases Rb with
      | false =>
        go_enter Tryd.func13, Tryd.ntmps13
        go_wp2_with fail
        rw [← hW0]
        clear p0 p1 p2 p3 p4
        clear q0 q1 q2 q3 q4 q5 q6
        refine (HHV.out _ ha0).mono ?_
        rintro e w1 ⟨rfl, hb1⟩
        obtain ⟨_, p0, p1, p2, p3, p4⟩ := HGB.out.on hb1
        go_wp2_with fail
        refine (HGE.out _).mono ?_
        rintro e w2 ⟨rfl, hb2⟩
        have hb02 := th hb1 hb2
        clear p0 p1 p2 p3 p4
        obtain ⟨_, p0, p1, p2, p3, p4⟩ := HGB.out.on hb02
        obtain ⟨q0, q1, q2, q3, q4, q5, q6⟩ := HSV.out.onB hN1 hb02
        go_wp2_with fail
        refine (HRA.out HGO.out HL.out _ (ha0.on homR_fine hb02)).mono ?_
        rintro e w3 ⟨rfl, hb3⟩
        have hb03 := th hb02 hb3
        clear p0 p1 p2 p3 p4
        clear q0 q1 q2 q3 q4 q5 q6
        go_wp2_with fail
        go_ret
        exact ⟨rfl, th hb0 hb03⟩
      | true =>
        have HOK : Hid (AncOk g a) := hide (of_decide_eq_true HRD.out.symm)
        by_cases t1 : 10 < nb
        · have t1' : (10 : Int) < (nb : Int) := by omega
          go_enter Tryd.func13, Tryd.ntmps13
          go_wp2_with fail
          rw [← hW0]
          clear p0 p1 p2 p3 p4
          clear q0 q1 q2 q3 q4 q5 q6
          refine (HHV.out _ ha0).mono ?_
          rintro e w1 ⟨rfl, hb1⟩
          obtain ⟨_, p0, p1, p2, p3, p4⟩ := HGB.out.on hb1
          go_wp2_with fail
          refine (HGE.out _).mono ?_
          rintro e w2 ⟨rfl, hb2⟩
          have hb02 := th hb1 hb2
          clear p0 p1 p2 p3 p4
          obtain ⟨_, p0, p1, p2, p3, p4⟩ := HGB.out.on hb02
          obtain ⟨q0, q1, q2, q3, q4, q5, q6⟩ := HSV.out.onB hN1 hb02
          go_wp2_with fail
          refine (HRA.out HGO.out HL.out _ (ha0.on homR_fine hb02)).mono ?_
          rintro e w3 ⟨rfl, hb3⟩
          have hb03 := th hb02 hb3
          clear p0 p1 p2 p3 p4
          clear q0 q1 q2 q3 q4 q5 q6
          go_wp2_with fail
          go_ret
          exact ⟨rfl, th hb0 hb03⟩
        have t1' : ¬ (10 : Int) < (nb : Int) := by omega
        by_cases t2 : 10 < nc
        · have t2' : (10 : Int) < (nc : Int) := by omega
          go_enter Tryd.func13, Tryd.ntmps13
          go_wp2_with fail
          rw [← hW0]
          clear p0 p1 p2 p3 p4
          clear q0 q1 q2 q3 q4 q5 q6
          refine (HHV.out _ ha0).mono ?_
          rintro e w1 ⟨rfl, hb1⟩
          obtain ⟨_, p0, p1, p2, p3, p4⟩ := HGB.out.on hb1
          go_wp2_with fail
          refine (HGE.out _).mono ?_
          rintro e w2 ⟨rfl, hb2⟩
          have hb02 := th hb1 hb2
          clear p0 p1 p2 p3 p4
          obtain ⟨_, p0, p1, p2, p3, p4⟩ := HGB.out.on hb02
          obtain ⟨q0, q1, q2, q3, q4, q5, q6⟩ := HSV.out.onB hN1 hb02
          go_wp2_with fail
          refine (HRA.out HGO.out HL.out _ (ha0.on homR_fine hb02)).mono ?_
          rintro e w3 ⟨rfl, hb3⟩
          have hb03 := th hb02 hb3
          clear p0 p1 p2 p3 p4
          clear q0 q1 q2 q3 q4 q5 q6
          go_wp2_with fail
          go_ret
          exact ⟨rfl, th hb0 hb03⟩
        have t2' : ¬ (10 : Int) < (nc : Int) := by omega
        have hga := HGO.out.2.2.2.2
        have hrm := (anc_room HGO.out HOK.out).2
        have hgn := HOK.out.1.1
        have hgn0 : 0 ≤ a.gen := hgn.1
        have hgn1 : a.gen ≤ 4294967295 := hgn.2
        obtain ⟨M, hM⟩ : ∃ M : Nat, g.anchors = (M : Int) := ⟨g.anchors.toNat, by omega⟩
        have hM1 : 1 ≤ M := by omega
        have hM3 : M ≤ 3 := by omega
        have hce : ∀ (k : Nat), k < M → ∀ (w : World), Tabs w → Sl homR 3 w (Old w) A n c a.homes →
            Calls Tryd.prog 48 #[.agg #[.int .i64 g.zones, .int .i64 g.data, .int .i64 g.spares, .int .i64 g.slots, .int .i64 g.anchors], .agg #[.int .i64 a.gen, .int .i64 a.epoch, .int .i64 a.pos, .int .i64 a.seq, .int .i64 a.last, .string a.label, .slice A n c], .int .i64 (k : Int)] w fun e w' => Below w.heap.size w w' ∧ ∃ V m cv l, e = .returned (.tuple #[.slice V (m + 1) cv, .int .i64 0]) ∧ m ≤ 1000 ∧ Sl byteR 1 w' (New w.heap.size w') V (m + 1) cv l ∧ saysN g 0 l (k : Int) = some a ∧ (∀ i j, saysN g 0 (flipL l i j) (k : Int) = none) ∧ saysN g 0 (l.take m) (k : Int) = none := fun k hk w hT hs => by
          refine (HCE0.out HL.out k w hT hs ⟨HGO.out, HOK.out, by omega, by omega⟩).mono ?_
          rintro e w' ⟨V, cv, rfl, ho, hb⟩
          exact ⟨hb, V, (ancL a).length + 10, cv, _, rfl, by omega, ho.new_ byteR_fine (Nat.le_refl _) (Nat.le_refl _), by rw [says_cell HGO.out HOK.out (by omega)]; exact if_pos rfl, fun i j => says_shut (bent_bad (by omega) i j) _, says_shut (cut_bad (by omega)) _⟩
        have hpi := fun (V : Option Addr) (c : Nat) (L : List Gt) (w : World) (hT : Tabs w) (h : Sl gotR 2 w (Old w) V M c L) (hb : ∀ x ∈ L, x.bytes.length ≤ 60000) => npick_yes g HGO.out V M c L w hT h hM.symm hb
        have hKN : ∀ (V : Option Addr) (m cv : Nat) (w : World), Sl homR 3 w (Old w) V m cv a.homes → m ≤ 65536 := fun V m cv w h => by
          have h1 := h.len
          have h2 := HL.out.2.1
          omega
        have HKA := hide fun (V : Option Addr) (m cv : Nat) (w : World) (h : Sl homR 3 w (Old w) V m cv a.homes) (h2 : Sl homR 3 w (Old w) A n c a.homes) => keepa_any a a V A m cv n c w h h2 (hKN V m cv w h) (fun x hx => Nat.le_trans (HL.out.2.2 x hx) (by omega))
        simp only [decide_true] at HKA
        have HLN := hide (left_none g a)
        have HLR := hide fun (L : List Gt) (e : Int) (l : List UInt8) (left : Int) (k : Nat) (h : LeftAt g a L k left) (hk : L.length = k) (hs : saysN g e l (k : Int) = none) => left_rest h hk hs
        have HLM := hide fun (L : List Gt) (e : Int) (l : List UInt8) (left : Int) (k : Nat) (h : LeftAt g a L k left) (hk : L.length = k) (hs : saysN g e l (k : Int) = some a) => left_more h hk hs
        have HSB := hide fun (l : List UInt8) (k : Int) => says_bad (g := g) (e := 6) (by decide) l k
        unfold Geo.v at hpi
        unfold Anc.v at hpi HKA
        have HCE := hide hce
        have HPI := hide hpi
        have HMG := hide hM
        clear hce hpi hKN hga hrm hgn hgn0 hgn1 HCE0 hM
        go_enter Tryd.func13, Tryd.ntmps13
        go_wp2_with fail
        rw [← hW0]
        clear p0 p1 p2 p3 p4
        clear q0 q1 q2 q3 q4 q5 q6
        refine (HHV.out _ ha0).mono ?_
        rintro e w1 ⟨rfl, hb1⟩
        obtain ⟨_, p0, p1, p2, p3, p4⟩ := HGB.out.on hb1
        go_wp2_with fail
        refine (HGE.out _).mono ?_
        rintro e w2 ⟨rfl, hb2⟩
        have hb02 := th hb1 hb2
        clear p0 p1 p2 p3 p4
        obtain ⟨_, p0, p1, p2, p3, p4⟩ := HGB.out.on hb02
        obtain ⟨q0, q1, q2, q3, q4, q5, q6⟩ := HSV.out.onB hN1 hb02
        go_wp2_with fail
        refine (HRA.out HGO.out HL.out _ (ha0.on homR_fine hb02)).mono ?_
        rintro e w3 ⟨rfl, hb3⟩
        have hb03 := th hb02 hb3
        clear p0 p1 p2 p3 p4
        clear q0 q1 q2 q3 q4 q5 q6
        go_wp2_with fail
        go_loopw [9, 10, 11] (fun l b i wr => ∃ k : Nat, ∃ V cv L, ∃ left : Int, k ≤ M ∧ i = .int .i64 k ∧ b = .int .i64 left ∧ l = .slice V k cv ∧ (0 ≤ left ∧ left ≤ (k : Int)) ∧ Ow gotR 2 wr W0.heap.size 0 78 (.slice V k cv) k L ∧ Hid (LeftAt g a L k left) ∧ Hid (∀ x ∈ L, x.bytes.length ≤ 60000) ∧ Below W0.heap.size W0 wr) (fun _ _ i _ => M - (RowKit.intOf i).toNat)
        case atStart => exact ⟨0, none, 0, [], 0, Nat.zero_le _, rfl, rfl, rfl, ⟨by omega, by omega⟩, Ow.nil_ _ _ _ _, HLN, hide (by simp), hb03⟩
        case round =>
          obtain ⟨k, V, cv, L, left, hk, rfl, rfl, rfl, hleft, ho, hbest, hlb, hb⟩ := hrel
          obtain ⟨_, p0, p1, p2, p3, p4⟩ := HGB.out.on hb
          rw [HMG.out] at p4
          by_cases hlt : k < M
          · have hlI : (k : Int) < (M : Int) := by omega
            have k0 : (0 : Int) ≤ (k : Int) := by omega
            have hbk := hb
            have hszb := hb.size
            obtain ⟨q0, q1, q2, q3, q4, q5, q6⟩ := HSV.out.onB hN1 hb
            have HC1 := hide (HCE.out k hlt _ (hT.below (th hb0 hb)) (ha0.on homR_fine hb))
            rw [HMG.out] at HC1
            go_wp2_with fail
            with_reducible refine HC1.out.mono ?_
            rintro e w5 ⟨hb5, V5, m, c5, l5, rfl, hm5, hs5, hsy, hfl, hct⟩
            have m0 : ¬ ((m : Int) + 1 = 0) := by omega
            have m1 : (((m : Int) + 1) == 0) = false := by simpa using m0
            have m2 : ¬ (m + 1 = 0) := by omega
            obtain ⟨W6, hW6⟩ : ∃ W6, W6 = w5.alloc (.cells #[.int .i64 0, .slice V5 (m + 1) c5] 78) := ⟨_, rfl⟩
            have hE6 : Below w5.heap.size w5 W6 := by rw [hW6]; exact alloc_below _ _
            have hN6 : w5.heap.size < W6.heap.size := by rw [hW6]; simp
            have x0 : W6.cell? ⟨w5.heap.size, 0, none⟩ = some (.int .i64 0) := by rw [hW6]; exact box_cell (Below.refl _ _) 0 _ rfl
            have x1 : W6.cell? ⟨w5.heap.size, 1, none⟩ = some (.slice V5 (m + 1) c5) := by rw [hW6]; exact box_cell (Below.refl _ _) 1 _ rfl
            have f0 : W6.frozen? ⟨w5.heap.size, 0, none⟩ = false := by rw [hW6]; exact box_free (Below.refl _ _) 0
            have f1 : W6.frozen? ⟨w5.heap.size, 1, none⟩ = false := by rw [hW6]; exact box_free (Below.refl _ _) 1
            have hb6 := th hb (th hb5 hE6)
            have ho6 := (ho.below gotR_fine hb5).below gotR_fine hE6
            have hl5 : l5.length = m + 1 := hs5.len
            have HB5 := hide (hs5.old_ byteR_fine)
            have hs6 : Sl byteR 1 W6 (New wr.heap.size W6) V5 (m + 1) c5 l5 := hs5.move byteR_fine (fun b hb => hE6.block b hb.2) (fun b hb => ⟨hb.1, Nat.lt_of_lt_of_le hb.2 hE6.size⟩)
            have hltV : ∀ j, (Value.slice V k cv).ownBlock = some j → j < wr.heap.size := fun j e => (ho.lt j e).2
            have h5s := hb5.size
            have HX := hide (And.intro x0 (And.intro x1 (And.intro f0 f1)))
            have HSY := hide hsy
            have HFL := hide hfl
            have HCT := hide hct
            have HL5 := hide hl5
            have HOV := hide hltV
            have HLK := hide (show L.length = k from ho.len)
            clear x0 x1 f0 f1 hsy hfl hct hl5 hltV p0 p1 p2 p3 p4 q0 q1 q2 q3 q4 q5 q6
            go_upto_region 12 with fail
            rw [← hW6]
            clear hW6
            have hx6 := hx0.on intR_fine hb6
            have hy6 := hy0.on intR_fine hb6
            have hcap5 := hs6.cap
            have t3 : (m : Int) + 1 ≤ (c5 : Int) := by omega
            have eS : IntKind.i64.wrap ((m : Int) + 1 - 1) = (m : Int) := by rw [IntWalk.i64_in _ (by omega)]; omega
            have eL : IntKind.i64.wrap (left + 1) = left + 1 := IntWalk.i64_in _ (by omega)
            have eM : (m : Int) ≤ (c5 : Int) := by omega
            have eM0 : (0 : Int) ≤ (m : Int) := by omega
            by_cases hkb : k < nb
            · have hk1 : (k : Int) < (nb : Int) := by omega
              obtain ⟨bd, x, rfl, hbdl, _, hxi, hxc⟩ := at_int hx6 hkb
              obtain ⟨r, hu, hr⟩ := um_is x 4 (by omega) (by omega)
              obtain ⟨ha1, hc1⟩ := um_rawG hu (by omega) (by omega)
              clear hu
              obtain rfl | rfl | rfl | rfl : r = 0 ∨ r = 1 ∨ r = 2 ∨ r = 3 := by omega
              · have ha2 : (IntKind.u64.wrap x).tmod 4 = 0 := ha1
                have hc2 : IntKind.u64.wrap x % 4 = 0 := hc1
                clear ha1 hc1
                obtain ⟨x0, x1, f0, f1⟩ := HX.out
                have hoW : Ow gotR 2 W6 W0.heap.size 0 78 (.slice V k cv) k L := ho.below gotR_fine (th hb5 hE6)
                have hsW : Sl byteR 1 W6 (New wr.heap.size W6) V5 (m + 1) c5 (l5) := hs6
                have hlen7 : (l5).length ≤ 60000 := by
                  have := hsW.len
                  omega
                have hlit : Sl gotR 2 (W6.alloc (.cells #[.int .i64 0, .slice V5 (m + 1) c5] 78)) (But (W6.alloc (.cells #[.int .i64 0, .slice V5 (m + 1) c5] 78)) 0 (.slice V k cv)) (some ⟨W6.heap.size, 0, none⟩) 1 1 [⟨0, l5⟩] := by
                  refine Sl.one_ gotR_fine ⟨V5, (m + 1), c5, rfl, ⟨by show (-9223372036854775808 : Int) ≤ 0; omega, by show (0 : Int) ≤ 9223372036854775807; omega⟩, hsW.move byteR_fine (fun _ _ => rfl) (fun b hb => ⟨Nat.zero_le _, hb.2, fun e => ?_⟩)⟩ (fun j e => ?_) (Nat.zero_le _)
                  · have h1 := HOV.out b e.symm
                    have h2 := hb.1
                    omega
                  · have h1 := HOV.out j e
                    have h3 := Below.size (th hb5 hE6)
                    omega
                have hE9 := alloc_below W6 (.cells #[.int .i64 0, .slice V5 (m + 1) c5] 78)
                have hoE := hoW.below gotR_fine hE9
                have hb09 := th hbk (th (th hb5 hE6) hE9)
                have hsE : W0.heap.size ≤ (W6.alloc (.cells #[.int .i64 0, .slice V5 (m + 1) c5] 78)).heap.size := hb09.size
                have hlb2 : Hid (∀ y ∈ L ++ [(⟨0, l5⟩ : Gt)], y.bytes.length ≤ 60000) := hide fun y hy => by
                  rcases List.mem_append.1 hy with h | h
                  · exact hlb.out y h
                  · simp at h
                    subst h
                    exact hlen7
                have HLF := hide (HLM.out L 0 (l5) left k hbest.out HLK.out (HSY.out))
                have HLC := hide hlit
                clear hlit hsW hlen7
                have hlit := HLC.out
                go_wp2_with (at_builtin; refine wpList_append_ow _ rfl (.tmp 109) (.tmp 111) _ rfl gotR_fine W0.heap.size 0 78 e0 _ 32 Tryd.underlying76 he0 ee0 ee1 ee2 rfl (by omega) (.slice V k cv) k _ rfl hoE _ _ 1 1 _ rfl hlit (fun _ _ _ h => h) (by simp only [maxLen]; omega) (by omega) hsE ?_; intro V9 w9 ho9 hg9 hat9; obtain ⟨A9, c9, rfl⟩ := ho9.form)
                have hb9 := below_grown hg9 hoE.lt hsE
                go_roundw
                case rel => exact ⟨k + 1, A9, c9, _, _, by omega, by go_num, rfl, rfl, ⟨by omega, by omega⟩, ho9, HLF, hlb2, hb09.trans hb9⟩
                case measure => (first | omega | (simp [RowKit.intOf]; omega) | (unfold RowKit.intOf; simp; omega) | go_num)
              · have ha2 : (IntKind.u64.wrap x).tmod 4 = 1 := ha1
                have hc2 : IntKind.u64.wrap x % 4 = 1 := hc1
                clear ha1 hc1
                obtain ⟨x0, x1, f0, f1⟩ := HX.out
                obtain ⟨W7, hW7⟩ : ∃ W7, W7 = (W6.setCell ⟨w5.heap.size, 0, none⟩ (.int .i64 6)).setCell ⟨w5.heap.size, 1, none⟩ (.slice none 0 0) := ⟨_, rfl⟩
                have hE7 : Below w5.heap.size w5 W7 := by rw [hW7]; exact (hE6.setCell (Nat.le_refl _) _).setCell (Nat.le_refl _) _
                have y0 : W7.cell? ⟨w5.heap.size, 0, none⟩ = some (.int .i64 6) := by rw [hW7]; exact put_off' (by omega) (put_same x0)
                have y1 : W7.cell? ⟨w5.heap.size, 1, none⟩ = some (.slice none 0 0) := by rw [hW7]; exact put_same (put_off' (by omega) x1)
                go_upto_region 26 with fail
                rw [← hW7]
                clear hW7 x0 x1 f0 f1
                have hoW : Ow gotR 2 W7 W0.heap.size 0 78 (.slice V k cv) k L := ho.below gotR_fine (th hb5 hE7)
                have hsW : Sl byteR 1 W7 (New wr.heap.size W7) none 0 0 (([] : List UInt8)) := Sl.nil_ _
                have hlen7 : (([] : List UInt8)).length ≤ 60000 := by
                  have := hsW.len
                  omega
                have hlit : Sl gotR 2 (W7.alloc (.cells #[.int .i64 6, .slice none 0 0] 78)) (But (W7.alloc (.cells #[.int .i64 6, .slice none 0 0] 78)) 0 (.slice V k cv)) (some ⟨W7.heap.size, 0, none⟩) 1 1 [⟨6, ([] : List UInt8)⟩] := by
                  refine Sl.one_ gotR_fine ⟨none, 0, 0, rfl, ⟨by show (-9223372036854775808 : Int) ≤ 6; omega, by show (6 : Int) ≤ 9223372036854775807; omega⟩, hsW.move byteR_fine (fun _ _ => rfl) (fun b hb => ⟨Nat.zero_le _, hb.2, fun e => ?_⟩)⟩ (fun j e => ?_) (Nat.zero_le _)
                  · have h1 := HOV.out b e.symm
                    have h2 := hb.1
                    omega
                  · have h1 := HOV.out j e
                    have h3 := Below.size (th hb5 hE7)
                    omega
                have hE9 := alloc_below W7 (.cells #[.int .i64 6, .slice none 0 0] 78)
                have hoE := hoW.below gotR_fine hE9
                have hb09 := th hbk (th (th hb5 hE7) hE9)
                have hsE : W0.heap.size ≤ (W7.alloc (.cells #[.int .i64 6, .slice none 0 0] 78)).heap.size := hb09.size
                have hlb2 : Hid (∀ y ∈ L ++ [(⟨6, ([] : List UInt8)⟩ : Gt)], y.bytes.length ≤ 60000) := hide fun y hy => by
                  rcases List.mem_append.1 hy with h | h
                  · exact hlb.out y h
                  · simp at h
                    subst h
                    exact hlen7
                have HLF := hide (HLR.out L 6 (([] : List UInt8)) left k hbest.out HLK.out (HSB.out _ _))
                have HLC := hide hlit
                clear hlit hsW hlen7
                have hlit := HLC.out
                go_wp2_with (at_builtin; refine wpList_append_ow _ rfl (.tmp 109) (.tmp 111) _ rfl gotR_fine W0.heap.size 0 78 e0 _ 32 Tryd.underlying76 he0 ee0 ee1 ee2 rfl (by omega) (.slice V k cv) k _ rfl hoE _ _ 1 1 _ rfl hlit (fun _ _ _ h => h) (by simp only [maxLen]; omega) (by omega) hsE ?_; intro V9 w9 ho9 hg9 hat9; obtain ⟨A9, c9, rfl⟩ := ho9.form)
                have hb9 := below_grown hg9 hoE.lt hsE
                go_roundw
                case rel => exact ⟨k + 1, A9, c9, _, _, by omega, by go_num, rfl, rfl, ⟨by omega, by omega⟩, ho9, HLF, hlb2, hb09.trans hb9⟩
                case measure => (first | omega | (simp [RowKit.intOf]; omega) | (unfold RowKit.intOf; simp; omega) | go_num)
              · have ha2 : (IntKind.u64.wrap x).tmod 4 = 2 := ha1
                have hc2 : IntKind.u64.wrap x % 4 = 2 := hc1
                clear ha1 hc1
                by_cases hkc : k < nc
                · have hk2 : (k : Int) < (nc : Int) := by omega
                  obtain ⟨dd, y, rfl, hddl, _, hyi, hyc⟩ := at_int hy6 hkc
                  obtain ⟨v, hv1, hv2, hv3, hv4⟩ := wrap32 y
                  have z1 : IntKind.i64.wrap v = v := IntWalk.i64_in _ (by omega)
                  have z2 : IntKind.u64.wrap v = v := by rw [IntKind.wrap_u64]; omega
                  have e9 : v.tmod 1000 = v % 1000 := Int.tmod_eq_emod_of_nonneg (by omega)
                  have bI : InI (v % 1000) := ⟨by omega, by omega⟩
                  have bJ : InI v := ⟨by omega, by omega⟩
                  have z3 : IntKind.i64.wrap (v % 1000) = v % 1000 := IntWalk.i64_in _ (by omega)
                  obtain ⟨x0, x1, f0, f1⟩ := HX.out
                  have HFQ := hide (rflip_any (HB5.out.on byteR_fine hE6) (by omega) (v % 1000) v bI bJ)
                  go_wp2_with fail
                  with_reducible refine HFQ.out.mono ?_
                  rintro e w7 ⟨V7, c7, rfl, ho7, hb7⟩
                  have x0 := (hb7.cell (p := ⟨w5.heap.size, 0, none⟩) (by show w5.heap.size < _; omega)).trans HX.out.1
                  have x1 := (hb7.cell (p := ⟨w5.heap.size, 1, none⟩) (by show w5.heap.size < _; omega)).trans HX.out.2.1
                  have f1 := (hb7.frozen (p := ⟨w5.heap.size, 1, none⟩) (by show w5.heap.size < _; omega)).trans HX.out.2.2.2
                  obtain ⟨W8, hW8⟩ : ∃ W8, W8 = w7.setCell ⟨w5.heap.size, 1, none⟩ (.slice V7 (m + 1) c7) := ⟨_, rfl⟩
                  have hE8 : Below w5.heap.size w5 W8 := by rw [hW8]; exact (th hE6 hb7).setCell (Nat.le_refl _) _
                  have y0 : W8.cell? ⟨w5.heap.size, 0, none⟩ = some (.int .i64 0) := by rw [hW8]; exact put_off' (by omega) x0
                  have y1 : W8.cell? ⟨w5.heap.size, 1, none⟩ = some (.slice V7 (m + 1) c7) := by rw [hW8]; exact put_same x1
                  have hs8 : Sl byteR 1 W8 (New wr.heap.size W8) V7 (m + 1) c7 (flipL l5 (v % 1000) v) := by
                    have h1 := (ho7.new_ byteR_fine (Nat.le_refl _) (Nat.le_refl _)).new_set byteR_fine ⟨w5.heap.size, 1, none⟩ (.slice V7 (m + 1) c7) (by show w5.heap.size < W6.heap.size; omega)
                    rw [← hW8] at h1
                    exact h1.new_less byteR_fine (by omega)
                  go_upto_region 26 with fail
                  rw [← hW8]
                  clear hW8 x0 x1 f1
                  have hoW : Ow gotR 2 W8 W0.heap.size 0 78 (.slice V k cv) k L := ho.below gotR_fine (th hb5 hE8)
                  have hsW : Sl byteR 1 W8 (New wr.heap.size W8) V7 (m + 1) c7 (flipL l5 (v % 1000) v) := hs8
                  have hlen7 : (flipL l5 (v % 1000) v).length ≤ 60000 := by
                    have := hsW.len
                    omega
                  have hlit : Sl gotR 2 (W8.alloc (.cells #[.int .i64 0, .slice V7 (m + 1) c7] 78)) (But (W8.alloc (.cells #[.int .i64 0, .slice V7 (m + 1) c7] 78)) 0 (.slice V k cv)) (some ⟨W8.heap.size, 0, none⟩) 1 1 [⟨0, flipL l5 (v % 1000) v⟩] := by
                    refine Sl.one_ gotR_fine ⟨V7, (m + 1), c7, rfl, ⟨by show (-9223372036854775808 : Int) ≤ 0; omega, by show (0 : Int) ≤ 9223372036854775807; omega⟩, hsW.move byteR_fine (fun _ _ => rfl) (fun b hb => ⟨Nat.zero_le _, hb.2, fun e => ?_⟩)⟩ (fun j e => ?_) (Nat.zero_le _)
                    · have h1 := HOV.out b e.symm
                      have h2 := hb.1
                      omega
                    · have h1 := HOV.out j e
                      have h3 := Below.size (th hb5 hE8)
                      omega
                  have hE9 := alloc_below W8 (.cells #[.int .i64 0, .slice V7 (m + 1) c7] 78)
                  have hoE := hoW.below gotR_fine hE9
                  have hb09 := th hbk (th (th hb5 hE8) hE9)
                  have hsE : W0.heap.size ≤ (W8.alloc (.cells #[.int .i64 0, .slice V7 (m + 1) c7] 78)).heap.size := hb09.size
                  have hlb2 : Hid (∀ y ∈ L ++ [(⟨0, flipL l5 (v % 1000) v⟩ : Gt)], y.bytes.length ≤ 60000) := hide fun y hy => by
                    rcases List.mem_append.1 hy with h | h
                    · exact hlb.out y h
                    · simp at h
                      subst h
                      exact hlen7
                  have HLF := hide (HLR.out L 0 (flipL l5 (v % 1000) v) left k hbest.out HLK.out (HFL.out _ _))
                  have HLC := hide hlit
                  clear hlit hsW hlen7
                  have hlit := HLC.out
                  go_wp2_with (at_builtin; refine wpList_append_ow _ rfl (.tmp 109) (.tmp 111) _ rfl gotR_fine W0.heap.size 0 78 e0 _ 32 Tryd.underlying76 he0 ee0 ee1 ee2 rfl (by omega) (.slice V k cv) k _ rfl hoE _ _ 1 1 _ rfl hlit (fun _ _ _ h => h) (by simp only [maxLen]; omega) (by omega) hsE ?_; intro V9 w9 ho9 hg9 hat9; obtain ⟨A9, c9, rfl⟩ := ho9.form)
                  have hb9 := below_grown hg9 hoE.lt hsE
                  go_roundw
                  case rel => exact ⟨k + 1, A9, c9, _, _, by omega, by go_num, rfl, rfl, ⟨by omega, by omega⟩, ho9, HLF, hlb2, hb09.trans hb9⟩
                  case measure => (first | omega | (simp [RowKit.intOf]; omega) | (unfold RowKit.intOf; simp; omega) | go_num)
                · have hk2 : ¬ (k : Int) < (nc : Int) := by omega
                  have bI : InI 3 := ⟨by omega, by omega⟩
                  have bJ : InI 3 := ⟨by omega, by omega⟩
                  obtain ⟨x0, x1, f0, f1⟩ := HX.out
                  have HFQ := hide (rflip_any (HB5.out.on byteR_fine hE6) (by omega) (3) 3 bI bJ)
                  go_wp2_with fail
                  with_reducible refine HFQ.out.mono ?_
                  rintro e w7 ⟨V7, c7, rfl, ho7, hb7⟩
                  have x0 := (hb7.cell (p := ⟨w5.heap.size, 0, none⟩) (by show w5.heap.size < _; omega)).trans HX.out.1
                  have x1 := (hb7.cell (p := ⟨w5.heap.size, 1, none⟩) (by show w5.heap.size < _; omega)).trans HX.out.2.1
                  have f1 := (hb7.frozen (p := ⟨w5.heap.size, 1, none⟩) (by show w5.heap.size < _; omega)).trans HX.out.2.2.2
                  obtain ⟨W8, hW8⟩ : ∃ W8, W8 = w7.setCell ⟨w5.heap.size, 1, none⟩ (.slice V7 (m + 1) c7) := ⟨_, rfl⟩
                  have hE8 : Below w5.heap.size w5 W8 := by rw [hW8]; exact (th hE6 hb7).setCell (Nat.le_refl _) _
                  have y0 : W8.cell? ⟨w5.heap.size, 0, none⟩ = some (.int .i64 0) := by rw [hW8]; exact put_off' (by omega) x0
                  have y1 : W8.cell? ⟨w5.heap.size, 1, none⟩ = some (.slice V7 (m + 1) c7) := by rw [hW8]; exact put_same x1
                  have hs8 : Sl byteR 1 W8 (New wr.heap.size W8) V7 (m + 1) c7 (flipL l5 (3) 3) := by
                    have h1 := (ho7.new_ byteR_fine (Nat.le_refl _) (Nat.le_refl _)).new_set byteR_fine ⟨w5.heap.size, 1, none⟩ (.slice V7 (m + 1) c7) (by show w5.heap.size < W6.heap.size; omega)
                    rw [← hW8] at h1
                    exact h1.new_less byteR_fine (by omega)
                  go_upto_region 26 with fail
                  rw [← hW8]
                  clear hW8 x0 x1 f1
                  have hoW : Ow gotR 2 W8 W0.heap.size 0 78 (.slice V k cv) k L := ho.below gotR_fine (th hb5 hE8)
                  have hsW : Sl byteR 1 W8 (New wr.heap.size W8) V7 (m + 1) c7 (flipL l5 (3) 3) := hs8
                  have hlen7 : (flipL l5 (3) 3).length ≤ 60000 := by
                    have := hsW.len
                    omega
                  have hlit : Sl gotR 2 (W8.alloc (.cells #[.int .i64 0, .slice V7 (m + 1) c7] 78)) (But (W8.alloc (.cells #[.int .i64 0, .slice V7 (m + 1) c7] 78)) 0 (.slice V k cv)) (some ⟨W8.heap.size, 0, none⟩) 1 1 [⟨0, flipL l5 (3) 3⟩] := by
                    refine Sl.one_ gotR_fine ⟨V7, (m + 1), c7, rfl, ⟨by show (-9223372036854775808 : Int) ≤ 0; omega, by show (0 : Int) ≤ 9223372036854775807; omega⟩, hsW.move byteR_fine (fun _ _ => rfl) (fun b hb => ⟨Nat.zero_le _, hb.2, fun e => ?_⟩)⟩ (fun j e => ?_) (Nat.zero_le _)
                    · have h1 := HOV.out b e.symm
                      have h2 := hb.1
                      omega
                    · have h1 := HOV.out j e
                      have h3 := Below.size (th hb5 hE8)
                      omega
                  have hE9 := alloc_below W8 (.cells #[.int .i64 0, .slice V7 (m + 1) c7] 78)
                  have hoE := hoW.below gotR_fine hE9
                  have hb09 := th hbk (th (th hb5 hE8) hE9)
                  have hsE : W0.heap.size ≤ (W8.alloc (.cells #[.int .i64 0, .slice V7 (m + 1) c7] 78)).heap.size := hb09.size
                  have hlb2 : Hid (∀ y ∈ L ++ [(⟨0, flipL l5 (3) 3⟩ : Gt)], y.bytes.length ≤ 60000) := hide fun y hy => by
                    rcases List.mem_append.1 hy with h | h
                    · exact hlb.out y h
                    · simp at h
                      subst h
                      exact hlen7
                  have HLF := hide (HLR.out L 0 (flipL l5 (3) 3) left k hbest.out HLK.out (HFL.out _ _))
                  have HLC := hide hlit
                  clear hlit hsW hlen7
                  have hlit := HLC.out
                  go_wp2_with (at_builtin; refine wpList_append_ow _ rfl (.tmp 109) (.tmp 111) _ rfl gotR_fine W0.heap.size 0 78 e0 _ 32 Tryd.underlying76 he0 ee0 ee1 ee2 rfl (by omega) (.slice V k cv) k _ rfl hoE _ _ 1 1 _ rfl hlit (fun _ _ _ h => h) (by simp only [maxLen]; omega) (by omega) hsE ?_; intro V9 w9 ho9 hg9 hat9; obtain ⟨A9, c9, rfl⟩ := ho9.form)
                  have hb9 := below_grown hg9 hoE.lt hsE
                  go_roundw
                  case rel => exact ⟨k + 1, A9, c9, _, _, by omega, by go_num, rfl, rfl, ⟨by omega, by omega⟩, ho9, HLF, hlb2, hb09.trans hb9⟩
                  case measure => (first | omega | (simp [RowKit.intOf]; omega) | (unfold RowKit.intOf; simp; omega) | go_num)
              · have ha2 : (IntKind.u64.wrap x).tmod 4 = 3 := ha1
                have hc2 : IntKind.u64.wrap x % 4 = 3 := hc1
                clear ha1 hc1
                obtain ⟨x0, x1, f0, f1⟩ := HX.out
                obtain ⟨W7, hW7⟩ : ∃ W7, W7 = W6.setCell ⟨w5.heap.size, 1, none⟩ (.slice V5 m c5) := ⟨_, rfl⟩
                have hE7 : Below w5.heap.size w5 W7 := by rw [hW7]; exact hE6.setCell (Nat.le_refl _) _
                have y0 : W7.cell? ⟨w5.heap.size, 0, none⟩ = some (.int .i64 0) := by rw [hW7]; exact put_off' (by omega) x0
                have y1 : W7.cell? ⟨w5.heap.size, 1, none⟩ = some (.slice V5 m c5) := by rw [hW7]; exact put_same x1
                have hs7 : Sl byteR 1 W7 (New wr.heap.size W7) V5 m c5 (l5.take m) := by
                  have h1 : Sl byteR 1 w5 (New wr.heap.size w5) V5 m c5 (l5.take m) := hs5.init_ (by omega)
                  exact h1.move byteR_fine (fun b hb => hE7.block b hb.2) (fun b hb => ⟨hb.1, Nat.lt_of_lt_of_le hb.2 hE7.size⟩)
                go_upto_region 26 with fail
                rw [← hW7]
                clear hW7 x0 x1 f0 f1
                have hoW : Ow gotR 2 W7 W0.heap.size 0 78 (.slice V k cv) k L := ho.below gotR_fine (th hb5 hE7)
                have hsW : Sl byteR 1 W7 (New wr.heap.size W7) V5 m c5 (l5.take m) := hs7
                have hlen7 : (l5.take m).length ≤ 60000 := by
                  have := hsW.len
                  omega
                have hlit : Sl gotR 2 (W7.alloc (.cells #[.int .i64 0, .slice V5 m c5] 78)) (But (W7.alloc (.cells #[.int .i64 0, .slice V5 m c5] 78)) 0 (.slice V k cv)) (some ⟨W7.heap.size, 0, none⟩) 1 1 [⟨0, l5.take m⟩] := by
                  refine Sl.one_ gotR_fine ⟨V5, m, c5, rfl, ⟨by show (-9223372036854775808 : Int) ≤ 0; omega, by show (0 : Int) ≤ 9223372036854775807; omega⟩, hsW.move byteR_fine (fun _ _ => rfl) (fun b hb => ⟨Nat.zero_le _, hb.2, fun e => ?_⟩)⟩ (fun j e => ?_) (Nat.zero_le _)
                  · have h1 := HOV.out b e.symm
                    have h2 := hb.1
                    omega
                  · have h1 := HOV.out j e
                    have h3 := Below.size (th hb5 hE7)
                    omega
                have hE9 := alloc_below W7 (.cells #[.int .i64 0, .slice V5 m c5] 78)
                have hoE := hoW.below gotR_fine hE9
                have hb09 := th hbk (th (th hb5 hE7) hE9)
                have hsE : W0.heap.size ≤ (W7.alloc (.cells #[.int .i64 0, .slice V5 m c5] 78)).heap.size := hb09.size
                have hlb2 : Hid (∀ y ∈ L ++ [(⟨0, l5.take m⟩ : Gt)], y.bytes.length ≤ 60000) := hide fun y hy => by
                  rcases List.mem_append.1 hy with h | h
                  · exact hlb.out y h
                  · simp at h
                    subst h
                    exact hlen7
                have HLF := hide (HLR.out L 0 (l5.take m) left k hbest.out HLK.out (HCT.out))
                have HLC := hide hlit
                clear hlit hsW hlen7
                have hlit := HLC.out
                go_wp2_with (at_builtin; refine wpList_append_ow _ rfl (.tmp 109) (.tmp 111) _ rfl gotR_fine W0.heap.size 0 78 e0 _ 32 Tryd.underlying76 he0 ee0 ee1 ee2 rfl (by omega) (.slice V k cv) k _ rfl hoE _ _ 1 1 _ rfl hlit (fun _ _ _ h => h) (by simp only [maxLen]; omega) (by omega) hsE ?_; intro V9 w9 ho9 hg9 hat9; obtain ⟨A9, c9, rfl⟩ := ho9.form)
                have hb9 := below_grown hg9 hoE.lt hsE
                go_roundw
                case rel => exact ⟨k + 1, A9, c9, _, _, by omega, by go_num, rfl, rfl, ⟨by omega, by omega⟩, ho9, HLF, hlb2, hb09.trans hb9⟩
                case measure => (first | omega | (simp [RowKit.intOf]; omega) | (unfold RowKit.intOf; simp; omega) | go_num)
            · have hk1 : ¬ (k : Int) < (nb : Int) := by omega
              obtain ⟨x0, x1, f0, f1⟩ := HX.out
              have hoW : Ow gotR 2 W6 W0.heap.size 0 78 (.slice V k cv) k L := ho.below gotR_fine (th hb5 hE6)
              have hsW : Sl byteR 1 W6 (New wr.heap.size W6) V5 (m + 1) c5 (l5) := hs6
              have hlen7 : (l5).length ≤ 60000 := by
                have := hsW.len
                omega
              have hlit : Sl gotR 2 (W6.alloc (.cells #[.int .i64 0, .slice V5 (m + 1) c5] 78)) (But (W6.alloc (.cells #[.int .i64 0, .slice V5 (m + 1) c5] 78)) 0 (.slice V k cv)) (some ⟨W6.heap.size, 0, none⟩) 1 1 [⟨0, l5⟩] := by
                refine Sl.one_ gotR_fine ⟨V5, (m + 1), c5, rfl, ⟨by show (-9223372036854775808 : Int) ≤ 0; omega, by show (0 : Int) ≤ 9223372036854775807; omega⟩, hsW.move byteR_fine (fun _ _ => rfl) (fun b hb => ⟨Nat.zero_le _, hb.2, fun e => ?_⟩)⟩ (fun j e => ?_) (Nat.zero_le _)
                · have h1 := HOV.out b e.symm
                  have h2 := hb.1
                  omega
                · have h1 := HOV.out j e
                  have h3 := Below.size (th hb5 hE6)
                  omega
              have hE9 := alloc_below W6 (.cells #[.int .i64 0, .slice V5 (m + 1) c5] 78)
              have hoE := hoW.below gotR_fine hE9
              have hb09 := th hbk (th (th hb5 hE6) hE9)
              have hsE : W0.heap.size ≤ (W6.alloc (.cells #[.int .i64 0, .slice V5 (m + 1) c5] 78)).heap.size := hb09.size
              have hlb2 : Hid (∀ y ∈ L ++ [(⟨0, l5⟩ : Gt)], y.bytes.length ≤ 60000) := hide fun y hy => by
                rcases List.mem_append.1 hy with h | h
                · exact hlb.out y h
                · simp at h
                  subst h
                  exact hlen7
              have HLF := hide (HLM.out L 0 (l5) left k hbest.out HLK.out (HSY.out))
              have HLC := hide hlit
              clear hlit hsW hlen7
              have hlit := HLC.out
              go_wp2_with (at_builtin; refine wpList_append_ow _ rfl (.tmp 109) (.tmp 111) _ rfl gotR_fine W0.heap.size 0 78 e0 _ 32 Tryd.underlying76 he0 ee0 ee1 ee2 rfl (by omega) (.slice V k cv) k _ rfl hoE _ _ 1 1 _ rfl hlit (fun _ _ _ h => h) (by simp only [maxLen]; omega) (by omega) hsE ?_; intro V9 w9 ho9 hg9 hat9; obtain ⟨A9, c9, rfl⟩ := ho9.form)
              have hb9 := below_grown hg9 hoE.lt hsE
              go_roundw
              case rel => exact ⟨k + 1, A9, c9, _, _, by omega, by go_num, rfl, rfl, ⟨by omega, by omega⟩, ho9, HLF, hlb2, hb09.trans hb9⟩
              case measure => (first | omega | (simp [RowKit.intOf]; omega) | (unfold RowKit.intOf; simp; omega) | go_num)
          · obtain rfl : k = M := by omega
            obtain ⟨a9, q9, b9, hp9, hc9⟩ := hbest.out
            have hr9 := ho.read gotR_fine
            have hpk := HPI.out V cv L wr (hT.below (th hb0 hb)) hr9 hlb.out
            have hkk : ¬ (k : Int) < (k : Int) := by omega
            rcases hc9 with ⟨rfl, rfl, hq9, hl9⟩ | ⟨rfl, rfl, rfl, rfl⟩
            · have hpe : pickE g L k = 0 := by unfold pickE; rw [hp9]; rfl
              rw [hp9, hpe, HMG.out] at hpk
              dsimp only at hpk
              have l1 : ¬ left = 0 := by omega
              have l2 : (left == 0) = false := by simpa using l1
              have q1 : (0 : Int) ≤ (q9 : Int) := by omega
              have q2 : (q9 : Int) < (k : Int) := by omega
              have HPK := hide hpk
              clear hpk hpe hp9
              go_wp2_with fail
              with_reducible refine HPK.out.mono ?_
              rintro e w3 ⟨hb3, V3, m3, c3, rfl, hs3⟩
              obtain ⟨W4, hW4⟩ : ∃ W4, W4 = w3.alloc (.cells #[.int .i64 a9.gen, .int .i64 a9.epoch, .int .i64 a9.pos, .int .i64 a9.seq, .int .i64 a9.last, .string a9.label, .slice V3 m3 c3] 26) := ⟨_, rfl⟩
              have hE4 : Below w3.heap.size w3 W4 := by rw [hW4]; exact alloc_below _ _
              have hN4 : w3.heap.size < W4.heap.size := by rw [hW4]; simp
              have hv4 : Sev W4 w3.heap.size (.int .i64 a9.gen) (.int .i64 a9.epoch) (.int .i64 a9.pos) (.int .i64 a9.seq) (.int .i64 a9.last) (.string a9.label) (.slice V3 m3 c3) := by rw [hW4]; exact Sev.new rfl (Below.refl _ _)
              have hb04 := th hb (th hb3 hE4)
              have HV4 := hide hv4
              clear p0 p1 p2 p3 p4 hv4
              go_upto_region 28 with fail
              rw [← hW4]
              clear hW4
              obtain ⟨r0, r1, r2, r3, r4, r5, r6⟩ := HV4.out
              obtain ⟨s0, s1, s2, s3, s4, s5, s6⟩ := HSV.out.onB hN1 hb04
              go_wp2_with fail
              with_reducible refine (HKA.out _ _ _ _ (hs3.on homR_fine hE4) (ha0.on homR_fine hb04)).mono ?_
              rintro e w5 ⟨rfl, hb5⟩
              have hb05 := th hb04 hb5
              clear r0 r1 r2 r3 r4 r5 r6 s0 s1 s2 s3 s4 s5 s6
              obtain ⟨_, p0, p1, p2, p3, p4⟩ := HGB.out.on hb05
              rw [HMG.out] at p4
              go_wp2_with fail
              refine (wakes09 _ (hT.below (th hb0 hb05))).mono ?_
              rintro e w6 ⟨rfl, hb6⟩
              go_wp2_with fail
              go_ret
              exact ⟨rfl, th hb0 (th hb05 hb6)⟩
            · have hpe : pickE g L k = 11 := by unfold pickE; rw [hp9]; rfl
              rw [hp9, hpe, HMG.out] at hpk
              unfold noAnc at hpk
              dsimp only at hpk
              have HPK := hide hpk
              clear hpk hpe hp9
              go_wp2_with fail
              with_reducible refine HPK.out.mono ?_
              rintro e w3 ⟨hb3, V3, m3, c3, rfl, hs3⟩
              have hE4 := alloc_below w3 (.cells #[.int .i64 0, .int .i64 0, .int .i64 0, .int .i64 0, .int .i64 0, .string ⟨#[]⟩, .slice V3 m3 c3] 26)
              have hb04 := th hb (th hb3 hE4)
              clear p0 p1 p2 p3 p4
              go_wp2_with fail
              refine (wakes09 _ (hT.below (th hb0 hb04))).mono ?_
              rintro e w6 ⟨rfl, hb6⟩
              go_wp2_with fail
              go_ret
              exact ⟨rfl, th hb0 (th hb04 hb6)⟩

theorem law_newestLeft {w : World} {B C : Option Addr} {nb cb nc cc : Nat} {X Y : List Int} (hT : Tabs w) {v0 v1 : Value} {g : Geo} {a : Anc} (hg : ArgR geoR w v0 g) (ha : ArgR ancR w v1 a) (hx : Is w B nb cb X) (hy : Is w C nc cc Y) :
    Calls Tryd.prog 13 #[v0, v1, .slice B nb cb, .slice C nc cc] w fun e w' => e = .returned (.bool true) ∧ Below w.heap.size w w' := by
  obtain ⟨rfl, _⟩ := geo_form hg
  obtain ⟨A, n, c, rfl, hin, hs⟩ := anc_form ha
  exact walk_newestLeft hT g a A B C n c nb cb nc cc X Y hs hin hx hy

end Go.Proofs.YtamgpbkakmffiaaDoor
