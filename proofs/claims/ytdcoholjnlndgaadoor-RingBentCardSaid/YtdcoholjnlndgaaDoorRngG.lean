/-
  Contract: geom.Split of a right geometry.
  The ring's transactions as rows: a number, a place, a length, images (a zone, a block, bytes: as Sec has them).
  Contracts: rec.in, ring.Used.
  Contracts: rec.Image, ring.Check's closure; slices.IndexFunc, ContainsFunc over images.
  Contract: ring.Check.
  Contracts: ring.Who, ring.Next of a right log.
  Contract: ring.Need of blocks that are, no two alike.
-/
import Derived.Test.YtdcoholjnlndgaaDoorZRef
import Derived.Test.YtdcoholjnlndgaaDoorGeom
import Derived.Deep.CutBlock
import Derived.Test.YtdcoholjnlndgaaDoorStruct
import Derived.Test.YtdcoholjnlndgaaDoorTabC
import Derived.Test.YtdcoholjnlndgaaDoorTabF
import Derived.Test.YtdcoholjnlndgaaDoorAncK
import Derived.Maps.OwnSet
namespace Go.Proofs.YtdcoholjnlndgaaDoor
open Go.RowKit
set_option linter.unusedVariables false

/-- What Split tells: the zone, the place in it, the error. -/
def splitV (g : Geo) (b : Int) : Int × Int × Int := if 0 ≤ b ∧ b < g.zones * g.data then (b / g.data, b % g.data, 0) else (0, 0, 17)
set_option maxHeartbeats 1000000 in
theorem split_any {g : Geo} (hG : GeoOk g) (b : Int) (hb : InI b) (w : World) :
    Calls Tryd.prog 29 #[g.v, .int .i64 b] w fun e w' => e = .returned (.tuple #[.int .i64 (splitV g b).1, .int .i64 (splitV g b).2.1, .int .i64 (splitV g b).2.2]) ∧ Below w.heap.size w w' := by
  have hc := fun w => gcheck_any g w
  have h0 : geoErr g = 0 := by unfold geoErr; simp [hG]
  rw [h0] at hc
  obtain ⟨z, d, s, l, a⟩ := g
  have hz := hG.1
  have hd := hG.2.1
  dsimp only at hz hd
  obtain ⟨M, hM⟩ : ∃ M, M = z * d := ⟨_, rfl⟩
  have hM1 : 1 ≤ M ∧ M ≤ 16 := by
    have hz' : z = 1 ∨ z = 2 ∨ z = 3 ∨ z = 4 := by omega
    rcases hz' with rfl | rfl | rfl | rfl <;> omega
  have C1 : IntKind.i64.wrap (z * d) = M := by rw [← hM]; exact IntWalk.i64_in _ ⟨by omega, by omega⟩
  have hi := fun w => gin_any b 0 (M - 1) w
  have hsv : splitV ⟨z, d, s, l, a⟩ b = if 0 ≤ b ∧ b ≤ M - 1 then (b / d, b % d, 0) else (0, 0, 17) := by
    unfold splitV
    dsimp only
    rw [← hM]
    by_cases h : 0 ≤ b ∧ b < M
    · rw [if_pos h, if_pos (by omega)]
    · rw [if_neg h, if_neg (by omega)]
  rw [hsv]
  obtain ⟨hb1, hb2⟩ := hb
  have hd0 : ¬ d = 0 := by omega
  unfold Geo.v at *
  dsimp only at hc
  have HC := hide hc
  have HI := hide hi
  clear hc hi hsv hM h0
  by_cases h : 0 ≤ b ∧ b ≤ M - 1
  · rw [if_pos h]
    rw [decide_eq_true h] at HI
    dsimp only
    go_enter Tryd.func29, Tryd.ntmps29
    go_wp2_with fail
    refine (HC.out _).mono ?_
    rintro e w1 ⟨rfl, hb1'⟩
    have p0 := box_cell hb1' 0 _ rfl
    have p1 := box_cell hb1' 1 _ rfl
    go_wp2_with fail
    refine (HI.out _).mono ?_
    rintro e w2 ⟨rfl, rfl⟩
    go_wp2_with fail
    go_quiet (fail)
    go_wp2_with fail
    go_ret3
    exact ⟨rfl, th (alloc_below _ _) (th hb1' (drewN_below _ _))⟩
  · rw [if_neg h]
    rw [decide_eq_false h] at HI
    dsimp only
    go_enter Tryd.func29, Tryd.ntmps29
    go_wp2_with fail
    refine (HC.out _).mono ?_
    rintro e w1 ⟨rfl, hb1'⟩
    have p0 := box_cell hb1' 0 _ rfl
    have p1 := box_cell hb1' 1 _ rfl
    go_wp2_with fail
    refine (HI.out _).mono ?_
    rintro e w2 ⟨rfl, rfl⟩
    go_wp2_with fail
    go_ret3
    exact ⟨rfl, th (alloc_below _ _) hb1'⟩

end Go.Proofs.YtdcoholjnlndgaaDoor

namespace Go.Proofs.YtdcoholjnlndgaaDoor
open Go.RowKit
set_option linter.unusedVariables false

structure Txn where
  num : Int
  at_ : Int
  len : Int
  ims : List Sec
def txnR : Rp Txn := fun w S cs x => ∃ A n c, cs = [.int .i64 x.num, .int .i64 x.at_, .int .i64 x.len, .slice A n c] ∧ InI x.num ∧ InI x.at_ ∧ InI x.len ∧ Sl secR 3 w S A n c x.ims
theorem txnR_fine : Fine txnR 4 where
  size := by rintro _ _ _ _ ⟨A, n, c, rfl, _⟩; rfl
  one := by rintro _ _ _ _ ⟨A, n, c, rfl, _⟩ u hu; simp at hu; rcases hu with rfl | rfl | rfl | rfl <;> rfl
  move := by rintro _ _ _ _ _ _ ⟨A, n, c, rfl, h1, h2, h3, h⟩ hk hS; exact ⟨A, n, c, rfl, h1, h2, h3, h.move secR_fine hk hS⟩
theorem at_txn {w : World} {S : Nat → Prop} {A : Option Addr} {n c : Nat} {L : List Txn} (h : Sl txnR 4 w S A n c L) {k : Nat} (hk : k < n) : ∃ ad x A' n' c', A = some ad ∧ S ad.block ∧ L[k]? = some x ∧ InI x.num ∧ InI x.at_ ∧ InI x.len ∧ Sl secR 3 w S A' n' c' x.ims ∧
    w.cell? (ad.add (k * 4)) = some (.int .i64 x.num) ∧ w.cell? ⟨(ad.add (k * 4)).block, (ad.add (k * 4)).off + 1, none⟩ = some (.int .i64 x.at_) ∧ w.cell? ⟨(ad.add (k * 4)).block, (ad.add (k * 4)).off + 2, none⟩ = some (.int .i64 x.len) ∧ w.cell? ⟨(ad.add (k * 4)).block, (ad.add (k * 4)).off + 3, none⟩ = some (.slice A' n' c') := by
  obtain ⟨ad, x, cs, rfl, hS, hx, ⟨A', n', c', rfl, h1, h2, h3, hs⟩, hat⟩ := h.at_ hk
  refine ⟨ad, x, A', n', c', rfl, hS, hx, h1, h2, h3, hs, ?_, hat 1 _ rfl, hat 2 _ rfl, hat 3 _ rfl⟩
  have := hat 0 _ rfl
  rwa [add_zero'] at this

end Go.Proofs.YtdcoholjnlndgaaDoor

namespace Go.Proofs.YtdcoholjnlndgaaDoor
open Go.RowKit
set_option linter.unusedVariables false

theorem recin_any (n lo hi : Int) (w : World) : Calls Tryd.prog 41 #[.int .i64 n, .int .i64 lo, .int .i64 hi] w fun e w' => e = .returned (.bool (decide (lo ≤ n ∧ n ≤ hi))) ∧ w = w' := by
  by_cases h1 : lo ≤ n
  · by_cases h2 : n ≤ hi
    · have e1 : decide (lo ≤ n ∧ n ≤ hi) = true := by simp [h1, h2]
      rw [e1]
      go_enter Tryd.func41, Tryd.ntmps41
      go_wp2_with fail
      go_ret
      exact ⟨rfl, rfl⟩
    · have e1 : decide (lo ≤ n ∧ n ≤ hi) = false := by simp [h2]
      rw [e1]
      go_enter Tryd.func41, Tryd.ntmps41
      go_wp2_with fail
      go_ret
      exact ⟨rfl, rfl⟩
  · have e1 : decide (lo ≤ n ∧ n ≤ hi) = false := by simp [h1]
    rw [e1]
    go_enter Tryd.func41, Tryd.ntmps41
    go_wp2_with fail
    go_ret
    exact ⟨rfl, rfl⟩


/-- The slots that are used. -/
def usedL : List Txn → Nat
  | [] => 0
  | x :: L => (if 0 ≤ x.len ∧ x.len ≤ 30 then x.len.toNat else 0) + usedL L
theorem used_snoc (L : List Txn) (x : Txn) : usedL (L ++ [x]) = usedL L + (if 0 ≤ x.len ∧ x.len ≤ 30 then x.len.toNat else 0) := by
  induction L with
  | nil => simp [usedL]
  | cons y L ih => rw [List.cons_append, usedL, ih, usedL]; omega
theorem used_step {L : List Txn} {k : Nat} {x : Txn} (h : L[k]? = some x) : usedL (L.take (k + 1)) = usedL (L.take k) + (if 0 ≤ x.len ∧ x.len ≤ 30 then x.len.toNat else 0) := by
  obtain ⟨h1, e1⟩ := List.getElem?_eq_some_iff.1 h
  rw [List.take_succ_eq_append_getElem h1, e1, used_snoc]
set_option maxHeartbeats 1000000 in
theorem used_any (A : Option Addr) (n c : Nat) (L : List Txn) (w : World) (ha : Sl txnR 4 w (Old w) A n c L) (hn : n ≤ 65536) :
    Calls Tryd.prog 13 #[.slice A n c] w fun e w' => e = .returned (.int .i64 (usedL L)) ∧ Below w.heap.size w w' := by
  have hlen := ha.len
  have HLEN := hide hlen
  clear hlen
  go_enter Tryd.func13, Tryd.ntmps13
  go_wp2_with fail
  go_loopw [3, 8] (fun v i wr => ∃ k U : Nat, k ≤ n ∧ i = .int .i64 k ∧ v = .int .i64 U ∧ U ≤ 30 * k ∧ Hid (U = usedL (L.take k)) ∧ Below w.heap.size w wr) (fun _ i _ => n - (RowKit.intOf i).toNat)
  case atStart => exact ⟨0, 0, Nat.zero_le _, rfl, rfl, Nat.zero_le _, hide rfl, Below.refl _ _⟩
  case round =>
    obtain ⟨k, U, hk, rfl, rfl, hU, hu, hbr⟩ := hrel
    by_cases hlt : k < n
    · obtain ⟨ad, x, A', n', c', rfl, hadl, hx, i1, i2, i3, hs, e0, e1, e2, e3⟩ := at_txn (ha.on txnR_fine hbr) hlt
      have hst := used_step hx
      have hE := alloc_below wr (.cells #[.int .i64 x.num, .int .i64 x.at_, .int .i64 x.len, .slice A' n' c'] 40)
      by_cases h : 0 ≤ x.len ∧ x.len ≤ 30
      · obtain ⟨T, hT⟩ : ∃ T : Nat, x.len = (T : Int) := ⟨x.len.toNat, by omega⟩
        rw [if_pos h, hT, Int.toNat_natCast] at hst
        rw [hT] at e2 hE
        have hT30 : T ≤ 30 := by omega
        have d1 : (0 : Int) ≤ (T : Int) := by omega
        have d2 : (T : Int) ≤ 30 := by omega
        have HN : Hid (U + T = usedL (L.take (k + 1))) := hide (by rw [hst, hu.out])
        clear hst h hT hx hs i1 i2 i3
        go_wp2_with fail
        go_roundw
        case rel => exact ⟨k + 1, U + T, by omega, by go_num, by go_num, by omega, HN, th hbr hE⟩
        case measure => (first | omega | (simp [RowKit.intOf]; omega) | (unfold RowKit.intOf; simp; omega) | go_num)
      · rw [if_neg h] at hst
        have HN : Hid (U = usedL (L.take (k + 1))) := hide (by have := hu.out; omega)
        by_cases d1 : (0 : Int) ≤ x.len
        · have d2 : ¬ x.len ≤ 30 := by omega
          clear hst h hx hs i1 i2 i3
          go_wp2_with fail
          go_roundw
          case rel => exact ⟨k + 1, U, by omega, by go_num, rfl, by omega, HN, th hbr hE⟩
          case measure => (first | omega | (simp [RowKit.intOf]; omega) | (unfold RowKit.intOf; simp; omega) | go_num)
        · clear hst h hx hs i1 i2 i3
          go_wp2_with fail
          go_roundw
          case rel => exact ⟨k + 1, U, by omega, by go_num, rfl, by omega, HN, th hbr hE⟩
          case measure => (first | omega | (simp [RowKit.intOf]; omega) | (unfold RowKit.intOf; simp; omega) | go_num)
    · obtain rfl : k = n := by omega
      have hfin := hu.out
      rw [List.take_of_length_le (by rw [HLEN.out]; exact Nat.le_refl _)] at hfin
      have HF := hide hfin
      clear hfin
      go_wp2_with fail
      go_ret
      exact ⟨by rw [HF.out]; rfl, hbr⟩

end Go.Proofs.YtdcoholjnlndgaaDoor

namespace Go.Proofs.YtdcoholjnlndgaaDoor
open Go.RowKit
set_option linter.unusedVariables false
set_option maxRecDepth 100000

/-- A right image. -/
def ImgOk (g : Geo) (x : Sec) : Prop := GeoOk g ∧ (0 ≤ x.addr ∧ x.addr ≤ g.zones - 1) ∧ ((x.stamp = 255 ∧ ReadOk g.data x.load) ∨ (¬ x.stamp = 255 ∧ (-1 ≤ x.stamp ∧ x.stamp ≤ g.data - 1) ∧ x.load.length = 8))

set_option maxHeartbeats 2000000 in
theorem img_any (g : Geo) (x : Sec) (A : Option Addr) (n c : Nat) (w : World) (ha : Bs w A n c x.load) (hn : n ≤ 60000) (hin : InI x.addr ∧ InI x.stamp) (E : Int) (hE1 : ImgOk g x → E = 0) (hE2 : ¬ ImgOk g x → E = 1) :
    Calls Tryd.prog 25 #[g.v, .agg #[.int .i64 x.addr, .int .i64 x.stamp, .slice A n c]] w fun e w' => e = .returned (.int .i64 E) ∧ Below w.heap.size w w' := by
  have hck := fun w => gcheck_any g w
  have hrd := fun w hl => read_any A n c x.load g w hl hn
  have hlen := ha.len
  obtain ⟨⟨i1, i2⟩, ⟨i3, i4⟩⟩ := hin
  obtain ⟨zo, wh, l⟩ := x
  obtain ⟨z, d, s, sl, an⟩ := g
  unfold Geo.v at *
  dsimp only at *
  obtain ⟨W0, hW0⟩ : ∃ W0, W0 = (w.alloc (.cells #[.int .i64 z, .int .i64 d, .int .i64 s, .int .i64 sl, .int .i64 an] 23)).alloc (.cells #[.int .i64 zo, .int .i64 wh, .slice A n c] 56) := ⟨_, rfl⟩
  have hb0 : Below w.heap.size w W0 := by rw [hW0]; exact (alloc_below w _).alloc (by simp) _
  have ha0 := ha.on byteR_fine hb0
  have hgb : GeoAt W0 w.heap.size ⟨z, d, s, sl, an⟩ := by rw [hW0]; exact (GeoAt.new w ⟨z, d, s, sl, an⟩ 23).on (alloc_below _ _)
  have bx : ∀ W, Below W0.heap.size W0 W →
      W.cell? ⟨w.heap.size + 1, 0, none⟩ = some (.int .i64 zo) ∧ W.cell? ⟨w.heap.size + 1, 1, none⟩ = some (.int .i64 wh) ∧ W.cell? ⟨w.heap.size + 1, 2, none⟩ = some (.slice A n c) := fun W hW => by
    subst hW0
    have q2 : ∀ k u, (#[.int .i64 zo, .int .i64 wh, .slice A n c] : Array Value)[k]? = some u → W.cell? ⟨w.heap.size + 1, k, none⟩ = some u := fun k u hk => by have := box_cell hW k u hk; simpa using this
    exact ⟨q2 0 _ rfl, q2 1 _ rfl, q2 2 _ rfl⟩
  have BX := hide bx
  have HE1 := hide hE1
  have HE2 := hide hE2
  have HRD := hide hrd
  have HLEN := hide hlen
  clear bx hE1 hE2 hrd hlen
  unfold geoErr at hck
  by_cases hG : GeoOk ⟨z, d, s, sl, an⟩
  · rw [if_pos hG] at hck
    have HCK := hide hck
    clear hck
    have hz : 1 ≤ z ∧ z ≤ 4 := hG.1
    have hd : 1 ≤ d ∧ d ≤ 4 := hG.2.1
    obtain ⟨hz1, hz2⟩ := hz
    obtain ⟨hd1, hd2⟩ := hd
    have hi1 := fun w => recin_any zo 0 (z - 1) w
    obtain ⟨b1, hb1⟩ : ∃ b, b = decide (0 ≤ zo ∧ zo ≤ z - 1) := ⟨_, rfl⟩
    rw [← hb1] at hi1
    have HI1 := hide hi1
    have HB1 := hide hb1
    have HG := hide hG
    clear hi1 hb1 hG
    cases b1 with
    | false =>
      obtain rfl := HE2.out (fun h => of_decide_eq_false HB1.out.symm h.2.1)
      go_enter Tryd.func25, Tryd.ntmps25
      go_wp2_with fail
      rw [← hW0]
      clear hW0
      refine (HCK.out _).mono ?_
      rintro e w1 ⟨rfl, hb1⟩
      obtain ⟨_, p0, p1, p2, p3, p4⟩ := hgb.on hb1
      obtain ⟨q0, q1, q2⟩ := BX.out _ hb1
      go_wp2_with fail
      refine (HI1.out _).mono ?_
      rintro e w2 ⟨rfl, rfl⟩
      go_wp2_with fail
      go_ret
      exact ⟨rfl, th hb0 hb1⟩
    | true =>
      by_cases c1 : wh = 255
      · subst c1
        have e1 : ((255 : Int) == 255) = true := rfl
        have HYES : Hid (ReadOk d l → E = 0) := hide (fun h => HE1.out ⟨HG.out, of_decide_eq_true HB1.out.symm, .inl ⟨rfl, h⟩⟩)
        have HNO : Hid (¬ ReadOk d l → E = 1) := hide (fun h => HE2.out (fun h2 => by
          rcases h2.2.2 with h3 | h3
          · exact h h3.2
          · exact h3.1 rfl))
        go_enter Tryd.func25, Tryd.ntmps25
        go_wp2_with fail
        rw [← hW0]
        clear hW0
        refine (HCK.out _).mono ?_
        rintro e w1 ⟨rfl, hb1⟩
        obtain ⟨_, p0, p1, p2, p3, p4⟩ := hgb.on hb1
        obtain ⟨q0, q1, q2⟩ := BX.out _ hb1
        go_wp2_with fail
        refine (HI1.out _).mono ?_
        rintro e w2 ⟨rfl, rfl⟩
        go_wp2_with fail
        refine (HRD.out _ (ha0.on byteR_fine hb1)).mono ?_
        rintro e w3 ⟨hb3, A3, n3, c3, T3, err, rfl, hs3, hq⟩
        have hb13 := th hb1 hb3
        rcases hq with ⟨h, _⟩ | ⟨_, h, rfl, _⟩ | ⟨_, h, rfl, _⟩
        · exact absurd HG.out h
        · obtain rfl := HYES.out h
          clear h
          go_wp2_with fail
          go_ret
          exact ⟨rfl, th hb0 (th hb13 (alloc_below _ _))⟩
        · obtain rfl := HNO.out h
          clear h
          go_wp2_with fail
          go_ret
          exact ⟨rfl, th hb0 (th hb13 (alloc_below _ _))⟩
      · have e1 : ((wh : Int) == 255) = false := by simpa using c1
        have hi2 := fun w => recin_any wh (-1) (d - 1) w
        obtain ⟨b2, hb2⟩ : ∃ b, b = decide (-1 ≤ wh ∧ wh ≤ d - 1) := ⟨_, rfl⟩
        rw [← hb2] at hi2
        have HI2 := hide hi2
        have HB2 := hide hb2
        clear hi2 hb2
        cases b2 with
        | false =>
          obtain rfl := HE2.out (fun h2 => by
            rcases h2.2.2 with h3 | h3
            · exact c1 h3.1
            · exact of_decide_eq_false HB2.out.symm h3.2.1)
          go_enter Tryd.func25, Tryd.ntmps25
          go_wp2_with fail
          rw [← hW0]
          clear hW0
          refine (HCK.out _).mono ?_
          rintro e w1 ⟨rfl, hb1⟩
          obtain ⟨_, p0, p1, p2, p3, p4⟩ := hgb.on hb1
          obtain ⟨q0, q1, q2⟩ := BX.out _ hb1
          go_wp2_with fail
          refine (HI1.out _).mono ?_
          rintro e w2 ⟨rfl, rfl⟩
          go_wp2_with fail
          refine (HI2.out _).mono ?_
          rintro e w3 ⟨rfl, rfl⟩
          go_wp2_with fail
          go_ret
          exact ⟨rfl, th hb0 hb1⟩
        | true =>
          by_cases c2 : n = 8
          · obtain rfl := HE1.out ⟨HG.out, of_decide_eq_true HB1.out.symm, .inr ⟨c1, of_decide_eq_true HB2.out.symm, by show l.length = 8; rw [HLEN.out]; exact c2⟩⟩
            have e2 : ((n : Int) != 8) = false := by rw [c2]; rfl
            clear c2
            go_enter Tryd.func25, Tryd.ntmps25
            go_wp2_with fail
            rw [← hW0]
            clear hW0
            refine (HCK.out _).mono ?_
            rintro e w1 ⟨rfl, hb1⟩
            obtain ⟨_, p0, p1, p2, p3, p4⟩ := hgb.on hb1
            obtain ⟨q0, q1, q2⟩ := BX.out _ hb1
            go_wp2_with fail
            refine (HI1.out _).mono ?_
            rintro e w2 ⟨rfl, rfl⟩
            go_wp2_with fail
            refine (HI2.out _).mono ?_
            rintro e w3 ⟨rfl, rfl⟩
            go_wp2_with fail
            go_ret
            exact ⟨rfl, th hb0 hb1⟩
          · obtain rfl := HE2.out (fun h2 => by
              rcases h2.2.2 with h3 | h3
              · exact c1 h3.1
              · exact c2 (by rw [← HLEN.out]; exact h3.2.2))
            have e2 : ((n : Int) != 8) = true := by simp; omega
            clear c2
            go_enter Tryd.func25, Tryd.ntmps25
            go_wp2_with fail
            rw [← hW0]
            clear hW0
            refine (HCK.out _).mono ?_
            rintro e w1 ⟨rfl, hb1⟩
            obtain ⟨_, p0, p1, p2, p3, p4⟩ := hgb.on hb1
            obtain ⟨q0, q1, q2⟩ := BX.out _ hb1
            go_wp2_with fail
            refine (HI1.out _).mono ?_
            rintro e w2 ⟨rfl, rfl⟩
            go_wp2_with fail
            refine (HI2.out _).mono ?_
            rintro e w3 ⟨rfl, rfl⟩
            go_wp2_with fail
            go_ret
            exact ⟨rfl, th hb0 hb1⟩
  · rw [if_neg hG] at hck
    have HCK := hide hck
    clear hck
    obtain rfl := HE2.out (fun h => hG h.1)
    clear hG
    go_enter Tryd.func25, Tryd.ntmps25
    go_wp2_with fail
    rw [← hW0]
    clear hW0
    refine (HCK.out _).mono ?_
    rintro e w1 ⟨rfl, hb1⟩
    go_wp2_with fail
    go_ret
    exact ⟨rfl, th hb0 hb1⟩

/-- The closure. -/
theorem imgc_any (g : Geo) (x : Sec) (A : Option Addr) (n c : Nat) (w : World) (ha : Bs w A n c x.load) (hn : n ≤ 60000) (hin : InI x.addr ∧ InI x.stamp) (G : Nat) (hg : GeoAt w G g) (B : Bool) (hB1 : ImgOk g x → B = false) (hB2 : ¬ ImgOk g x → B = true) :
    Calls Tryd.prog 24 #[.agg #[.int .i64 x.addr, .int .i64 x.stamp, .slice A n c], .pointer (some ⟨G, 0, none⟩)] w fun e w' => e = .returned (.bool B) ∧ Below w.heap.size w w' := by
  have hb := alloc_below w (.cells #[.int .i64 x.addr, .int .i64 x.stamp, .slice A n c] 56)
  obtain ⟨_, p0, p1, p2, p3, p4⟩ := hg.on hb
  cases B with
  | false =>
    have hh := img_any g x A n c _ (ha.on byteR_fine hb) hn hin 0 (fun _ => rfl) (fun h => absurd (hB2 h) (by simp))
    unfold Geo.v at hh
    have HH := hide hh
    clear hh
    go_enter Tryd.func24, Tryd.ntmps24
    go_wp2_with fail
    refine HH.out.mono ?_
    rintro e w1 ⟨rfl, hb1⟩
    go_wp2_with fail
    go_ret
    exact ⟨rfl, th hb hb1⟩
  | true =>
    have hh := img_any g x A n c _ (ha.on byteR_fine hb) hn hin 1 (fun h => absurd (hB1 h) (by simp)) (fun _ => rfl)
    unfold Geo.v at hh
    have HH := hide hh
    clear hh
    go_enter Tryd.func24, Tryd.ntmps24
    go_wp2_with fail
    refine HH.out.mono ?_
    rintro e w1 ⟨rfl, hb1⟩
    go_wp2_with fail
    go_ret
    exact ⟨rfl, th hb hb1⟩

/-- An image's three cells. -/
theorem at_sec {w : World} {S : Nat → Prop} {A : Option Addr} {n c : Nat} {L : List Sec} (h : Sl secR 3 w S A n c L) {k : Nat} (hk : k < n) : ∃ ad e A' n' c', A = some ad ∧ S ad.block ∧ L[k]? = some e ∧ InI e.addr ∧ InI e.stamp ∧ Sl byteR 1 w S A' n' c' e.load ∧
    w.cell? (ad.add (k * 3)) = some (.int .i64 e.addr) ∧ w.cell? ⟨(ad.add (k * 3)).block, (ad.add (k * 3)).off + 1, none⟩ = some (.int .i64 e.stamp) ∧ w.cell? ⟨(ad.add (k * 3)).block, (ad.add (k * 3)).off + 2, none⟩ = some (.slice A' n' c') := by
  obtain ⟨ad, e, cs, rfl, hS, he, ⟨A', n', c', rfl, h1, h2, hs⟩, hat⟩ := h.at_ hk
  refine ⟨ad, e, A', n', c', rfl, hS, he, h1, h2, hs, ?_, hat 1 _ rfl, hat 2 _ rfl⟩
  have := hat 0 _ rfl
  rwa [add_zero'] at this

set_option maxHeartbeats 1000000 in
theorem indexm_any (g : Geo) (A : Option Addr) (n c : Nat) (L : List Sec) (w : World) (ha : Sl secR 3 w (Old w) A n c L) (hn : n ≤ 65536) (hpl : ∀ h ∈ L, h.load.length ≤ 6000) (G : Nat) (hg : GeoAt w G g) :
    Calls Tryd.prog 43 #[.slice A n c, .func (.func 24) #[] #[.pointer (some ⟨G, 0, none⟩)]] w fun e w' => Below w.heap.size w w' ∧
      (((∀ x ∈ L, ImgOk g x) ∧ e = .returned (.int .i64 (-1))) ∨ (¬ (∀ x ∈ L, ImgOk g x)) ∧ ∃ k : Nat, e = .returned (.int .i64 k)) := by
  have hlen := ha.len
  have HLEN := hide hlen
  have HPL := hide hpl
  clear hlen hpl
  go_enter Tryd.func43, Tryd.ntmps43
  go_wp2_with fail
  go_loopw [8] (fun i wr => ∃ k : Nat, k ≤ n ∧ i = .int .i64 k ∧ Hid (∀ x ∈ L.take k, ImgOk g x) ∧ Below w.heap.size w wr) (fun i _ => n - (intOf i).toNat)
  case atStart => exact ⟨0, Nat.zero_le _, rfl, hide (by intro x hx; simp at hx), Below.refl _ _⟩
  case round =>
    obtain ⟨k, hk, rfl, hall, hb⟩ := hrel
    by_cases hlt : k < n
    · obtain ⟨ad, x, A', n', c', rfl, hadl, hx, q1, q2, hs, c0, c1, c2⟩ := at_sec (ha.on secR_fine hb) hlt
      have hw := imgc_any g x A' n' c' wr hs (by have := HPL.out x (List.mem_of_getElem? hx); rw [← hs.len]; omega) ⟨q1, q2⟩ G (hg.on hb)
      by_cases hok : ImgOk g x
      · have hw := hw false (fun _ => rfl) (fun h => absurd hok h)
        have hnext : ∀ y ∈ L.take (k + 1), ImgOk g y := by
          obtain ⟨h1, e1⟩ := List.getElem?_eq_some_iff.1 hx
          rw [List.take_succ_eq_append_getElem h1, e1]
          intro y hy
          rcases List.mem_append.1 hy with hy | hy
          · exact hall.out y hy
          · simp at hy; subst hy; exact hok
        have HN := hide hnext
        have HW := hide hw
        clear hw hnext hok hx
        go_wp2_with fail
        refine HW.out.mono ?_
        rintro e w1 ⟨rfl, hb1⟩
        go_wp2_with fail
        go_roundw
        case rel => exact ⟨k + 1, by omega, by go_num, HN, th hb hb1⟩
        case measure => simp [intOf]; omega
      · have hw := hw true (fun h => absurd h hok) (fun _ => rfl)
        have hbad : ¬ ∀ y ∈ L, ImgOk g y := fun h => hok (h x (List.mem_of_getElem? hx))
        have HB := hide hbad
        have HW := hide hw
        clear hw hbad hok hx
        go_wp2_with fail
        refine HW.out.mono ?_
        rintro e w1 ⟨rfl, hb1⟩
        go_wp2_with fail
        go_ret
        exact ⟨th hb hb1, .inr ⟨HB.out, k, rfl⟩⟩
    · obtain rfl : k = n := by omega
      go_wp2_with fail
      go_ret
      refine ⟨hb, .inl ⟨?_, rfl⟩⟩
      have h := hall.out
      rwa [List.take_of_length_le (by rw [HLEN.out]; omega)] at h

set_option maxHeartbeats 1000000 in
theorem contm_any (g : Geo) (A : Option Addr) (n c : Nat) (L : List Sec) (w : World) (ha : Sl secR 3 w (Old w) A n c L) (hn : n ≤ 65536) (hpl : ∀ h ∈ L, h.load.length ≤ 6000) (G : Nat) (hg : GeoAt w G g) (B : Bool) (hB1 : (∀ x ∈ L, ImgOk g x) → B = false) (hB2 : ¬ (∀ x ∈ L, ImgOk g x) → B = true) :
    Calls Tryd.prog 26 #[.slice A n c, .func (.func 24) #[] #[.pointer (some ⟨G, 0, none⟩)]] w fun e w' => e = .returned (.bool B) ∧ Below w.heap.size w w' := by
  have hi := indexm_any g A n c L w ha hn hpl G hg
  have HI := hide hi
  have H1 := hide hB1
  have H2 := hide hB2
  clear hi hB1 hB2
  go_enter Tryd.func26, Tryd.ntmps26
  go_wp2_with fail
  refine HI.out.mono ?_
  rintro e w1 ⟨hb, ⟨h, rfl⟩ | ⟨h, k, rfl⟩⟩
  · obtain rfl := H1.out h
    clear h
    go_wp2_with fail
    go_ret
    exact ⟨rfl, hb⟩
  · obtain rfl := H2.out h
    clear h
    go_wp2_with fail
    go_ret
    exact ⟨by simp, hb⟩

end Go.Proofs.YtdcoholjnlndgaaDoor

namespace Go.Proofs.YtdcoholjnlndgaaDoor
open Go.RowKit
set_option linter.unusedVariables false
set_option maxRecDepth 100000

/-- A right transaction of a log that stands at P, Q with R slots left. -/
def TxnOk (g : Geo) (P Q R : Int) (t : Txn) : Prop := t.num = Q ∧ t.num ≤ 4294967295 ∧ t.at_ = P ∧ 2 ≤ t.len ∧ t.len ≤ R ∧ t.len = (t.ims.length : Int) + 1 ∧ ∀ x ∈ t.ims, ImgOk g x
def LogOk (g : Geo) : Int → Int → Int → List Txn → Prop
  | _, _, _, [] => True
  | P, Q, R, t :: L => TxnOk g P Q R t ∧ LogOk g ((P + t.len) % g.slots) (Q + 1) (R - t.len) L
theorem drop_one {α : Type} {L : List α} {k : Nat} {x : α} (h : L[k]? = some x) : L.drop k = x :: L.drop (k + 1) := by
  obtain ⟨h1, e1⟩ := List.getElem?_eq_some_iff.1 h
  rw [List.drop_eq_getElem_cons h1, e1]
theorem txn_boxed {W W' : World} {t : Txn} {A : Option Addr} {n c : Nat} {e : TypeId} (hb : Below (W.alloc (.cells #[.int .i64 t.num, .int .i64 t.at_, .int .i64 t.len, .slice A n c] e)).heap.size (W.alloc (.cells #[.int .i64 t.num, .int .i64 t.at_, .int .i64 t.len, .slice A n c] e)) W') :
    W'.cell? ⟨W.heap.size, 0, none⟩ = some (.int .i64 t.num) ∧ W'.cell? ⟨W.heap.size, 1, none⟩ = some (.int .i64 t.at_) ∧ W'.cell? ⟨W.heap.size, 2, none⟩ = some (.int .i64 t.len) ∧ W'.cell? ⟨W.heap.size, 3, none⟩ = some (.slice A n c) :=
  ⟨box_cell hb 0 _ rfl, box_cell hb 1 _ rfl, box_cell hb 2 _ rfl, box_cell hb 3 _ rfl⟩

set_option maxHeartbeats 4000000 in
theorem rcheck_any (g : Geo) (a : Anc) (A : Option Addr) (n c : Nat) (Al : Option Addr) (m cl : Nat) (L : List Txn) (w : World) (hT : Tabs w) (ha : Sl homR 3 w (Old w) A n c a.homes) (hin : a.In) (hl : Light a) (hL : Sl txnR 4 w (Old w) Al m cl L) (hm : m ≤ 60000) (hims : ∀ t ∈ L, t.ims.length ≤ 6000 ∧ ∀ x ∈ t.ims, x.load.length ≤ 6000)
    (E : Int) (hE1 : GeoOk g ∧ AncOk g a ∧ LogOk g a.pos a.seq g.slots L → E = 0) (hE2 : ¬ (GeoOk g ∧ AncOk g a ∧ LogOk g a.pos a.seq g.slots L) → E = 1) :
    Calls Tryd.prog 10 #[g.v, a.v (.slice A n c), .slice Al m cl] w fun e w' => e = .returned (.int .i64 E) ∧ Below w.heap.size w w' := by
  obtain ⟨ER, hER⟩ : ∃ ER, ER = ancErr g a := ⟨_, rfl⟩
  have hac := fun w hT ha => acheck_any g a A n c w hT ha hin hl
  rw [← hER] at hac
  have hlen := hL.len
  obtain ⟨gen, epoch, pos, seq, last, label, homes⟩ := a
  obtain ⟨z, d, s, sl, an⟩ := g
  unfold Geo.v Anc.v at *
  dsimp only at *
  obtain ⟨W0, hW0⟩ : ∃ W0, W0 = (w.alloc (.cells #[.int .i64 z, .int .i64 d, .int .i64 s, .int .i64 sl, .int .i64 an] 23)).alloc (.cells #[.int .i64 gen, .int .i64 epoch, .int .i64 pos, .int .i64 seq, .int .i64 last, .string label, .slice A n c] 26) := ⟨_, rfl⟩
  have hb0 : Below w.heap.size w W0 := by rw [hW0]; exact (alloc_below w _).alloc (by simp) _
  have hgb : GeoAt W0 w.heap.size ⟨z, d, s, sl, an⟩ := by rw [hW0]; exact (GeoAt.new w ⟨z, d, s, sl, an⟩ 23).on (alloc_below _ _)
  have bx : ∀ W, Below W0.heap.size W0 W → W.cell? ⟨w.heap.size + 1, 2, none⟩ = some (.int .i64 pos) ∧ W.cell? ⟨w.heap.size + 1, 3, none⟩ = some (.int .i64 seq) := fun W hW => by
    subst hW0
    have q2 : ∀ k u, (#[.int .i64 gen, .int .i64 epoch, .int .i64 pos, .int .i64 seq, .int .i64 last, .string label, .slice A n c] : Array Value)[k]? = some u → W.cell? ⟨w.heap.size + 1, k, none⟩ = some u := fun k u hk => by have := box_cell hW k u hk; simpa using this
    exact ⟨q2 2 _ rfl, q2 3 _ rfl⟩
  have BX := hide bx
  have HE1 := hide hE1
  have HE2 := hide hE2
  have HAC := hide (hac W0 (hT.below hb0) (ha.on homR_fine hb0))
  have HLEN := hide hlen
  have HIMS := hide hims
  clear bx hE1 hE2 hac hlen hims
  by_cases hok : GeoOk ⟨z, d, s, sl, an⟩ ∧ AncOk ⟨z, d, s, sl, an⟩ ⟨gen, epoch, pos, seq, last, label, homes⟩
  · unfold ancErr at hER
    rw [if_pos hok] at hER
    obtain rfl := hER.symm
    have hsl : 14 ≤ sl ∧ sl ≤ 30 := hok.1.2.2.2.1
    have hpo : 0 ≤ pos ∧ pos ≤ sl - 1 := hok.2.1.2.2.2.2.2.2
    have hse : 1 ≤ seq := hok.2.1.2.2.2.2.1
    have hse2 : 0 ≤ seq ∧ seq ≤ 4294967295 := hok.2.1.2.2.1
    obtain ⟨hsl1, hsl2⟩ := hsl
    obtain ⟨hpo1, hpo2⟩ := hpo
    replace hse2 := hse2.2
    have HYES : Hid (LogOk ⟨z, d, s, sl, an⟩ pos seq sl L → E = 0) := hide (fun h => HE1.out ⟨hok.1, hok.2, h⟩)
    have HNO : Hid (¬ LogOk ⟨z, d, s, sl, an⟩ pos seq sl L → E = 1) := hide (fun h => HE2.out (fun h2 => h h2.2.2))
    clear hok HE1 HE2 hER
    go_enter Tryd.func10, Tryd.ntmps10
    go_wp2_with fail
    rw [← hW0]
    clear hW0
    refine HAC.out.mono ?_
    rintro e w1 ⟨rfl, hb1⟩
    have hgb1 := hgb.on hb1
    obtain ⟨_, p0, p1, p2, p3, p4⟩ := hgb.on hb1
    obtain ⟨q2, q3⟩ := BX.out _ hb1
    have hL1 := hL.on txnR_fine (th hb0 hb1)
    have hbw := th hb0 hb1
    clear hL ha hT HAC
    go_wp2_with fail
    go_quiet (fail)
    go_wp2_with fail
    go_loopw [8, 9, 10, 28] (fun P Q R i wr => ∃ k : Nat, ∃ p q r : Int, k ≤ m ∧ i = .int .i64 k ∧ P = .int .i64 p ∧ Q = .int .i64 q ∧ R = .int .i64 r ∧ 0 ≤ p ∧ p < 30 ∧ 1 ≤ q ∧ q ≤ 4294967296 ∧ 0 ≤ r ∧ r ≤ 30 ∧ Hid (LogOk ⟨z, d, s, sl, an⟩ pos seq sl L ↔ LogOk ⟨z, d, s, sl, an⟩ p q r (L.drop k)) ∧ Below w1.heap.size w1 wr) (fun _ _ _ i _ => m - (intOf i).toNat)
    case atStart => exact ⟨0, pos, seq, sl, Nat.zero_le _, rfl, rfl, rfl, rfl, by omega, by omega, by omega, by omega, by omega, by omega, hide (by rw [List.drop_zero]), drewN_below _ _⟩
    case round =>
      obtain ⟨k, p, q, r, hk, rfl, rfl, rfl, rfl, hp1, hp2, hq1, hq2, hr1, hr2, hlog, hb⟩ := hrel
      by_cases hlt : k < m
      · obtain ⟨ad, x, A', n', c', rfl, hadl, hx, i1, i2, i3, hs, e0, e1, e2, e3⟩ := at_txn (hL1.on txnR_fine hb) hlt
        obtain ⟨him1, him2⟩ := HIMS.out x (List.mem_of_getElem? hx)
        have hdr := drop_one hx
        have hxl := hs.len
        clear hx
        obtain ⟨num, at_, len, ims⟩ := x
        dsimp only at *
        obtain ⟨i1a, i1b⟩ := i1
        obtain ⟨i2a, i2b⟩ := i2
        obtain ⟨i3a, i3b⟩ := i3
        have hn6 : n' ≤ 6000 := by omega
        have hE := alloc_below wr (.cells #[.int .i64 num, .int .i64 at_, .int .i64 len, .slice A' n' c'] 40)
        have HBAD : Hid (¬ TxnOk ⟨z, d, s, sl, an⟩ p q r ⟨num, at_, len, ims⟩ → E = 1) := hide (fun hn => HNO.out (fun h => hn (by have h2 := hlog.out.1 h; rw [hdr] at h2; exact h2.1)))
        have HGOOD : Hid (TxnOk ⟨z, d, s, sl, an⟩ p q r ⟨num, at_, len, ims⟩ → (LogOk ⟨z, d, s, sl, an⟩ pos seq sl L ↔ LogOk ⟨z, d, s, sl, an⟩ ((p + len) % sl) (q + 1) (r - len) (L.drop (k + 1)))) := hide (fun hg => hlog.out.trans (by rw [hdr]; exact ⟨fun h => h.2, fun h => ⟨hg, h⟩⟩))
        have HCT := hide (contm_any ⟨z, d, s, sl, an⟩ A' n' c' ims (wr.alloc (.cells #[.int .i64 num, .int .i64 at_, .int .i64 len, .slice A' n' c'] 40)) (hs.on secR_fine hE) (by omega) him2 w.heap.size (hgb1.on (th hb hE)))
        have HXL := hide hxl
        clear hdr hs him1 him2 hlog hxl
        by_cases c1 : num = q
        · obtain rfl := c1
          by_cases c2 : num ≤ 4294967295
          · have f2 : ¬ (4294967295 : Int) < num := by omega
            have d2 : decide ((4294967295 : Int) < num) = false := decide_eq_false f2
            by_cases c3 : at_ = p
            · obtain rfl := c3
              by_cases c4 : 2 ≤ len
              · have f4 : ¬ len < 2 := by omega
                have d4 : decide (len < 2) = false := decide_eq_false f4
                by_cases c5 : len ≤ r
                · have f5 : ¬ r < len := by omega
                  have d5 : decide (r < len) = false := decide_eq_false f5
                  by_cases c6 : len = (n' : Int) + 1
                  · subst c6
                    by_cases c7 : ∀ x ∈ ims, ImgOk ⟨z, d, s, sl, an⟩ x
                    · obtain ⟨P', hP'⟩ : ∃ P', P' = (at_ + ((n' : Int) + 1)) % sl := ⟨_, rfl⟩
                      have hP0 : 0 ≤ P' := by rw [hP']; exact Int.emod_nonneg _ (by omega)
                      have hP1 : P' < sl := by rw [hP']; exact Int.emod_lt_of_pos _ (by omega)
                      have t1 : (at_ + ((n' : Int) + 1)) % sl = P' := hP'.symm
                      have t2 : (at_ + ((n' : Int) + 1)).tmod sl = P' := by rw [Int.tmod_eq_emod_of_nonneg (by omega), hP']
                      have HC := hide (HCT.out false (fun _ => rfl) (fun h => absurd c7 h))
                      have HN := hide (HGOOD.out ⟨rfl, c2, rfl, c4, c5, by show (n' : Int) + 1 = (ims.length : Int) + 1; rw [HXL.out], c7⟩)
                      have hsl0 : ¬ sl = 0 := by omega
                      rw [t1] at HN
                      clear HCT HGOOD HBAD hP' c7
                      go_wp2_with fail
                      refine HC.out.mono ?_
                      rintro e w5 ⟨rfl, hb5⟩
                      obtain ⟨r0, r1, r2, r3⟩ := txn_boxed (t := ⟨num, at_, (n' : Int) + 1, ims⟩) hb5
                      obtain ⟨_, p0, p1, p2, p3, p4⟩ := hgb1.on (th (th hb hE) hb5)
                      dsimp only at r0 r1 r2 r3 p0 p1 p2 p3 p4
                      go_wp2_with fail
                      go_quiet (fail)
                      go_wp2_with fail
                      go_roundw
                      case rel => exact ⟨k + 1, P', num + 1, r - ((n' : Int) + 1), by omega, by go_num, by go_num, by go_num, by go_num, by omega, by omega, by omega, by omega, by omega, by omega, HN, th (th (th hb hE) hb5) (drewN_below _ _)⟩
                      case measure => simp [intOf]; omega
                    · have HC := hide (HCT.out true (fun h => absurd h c7) (fun _ => rfl))
                      obtain rfl := HBAD.out (fun h => c7 h.2.2.2.2.2.2)
                      clear HCT HGOOD HBAD c7
                      go_wp2_with fail
                      refine HC.out.mono ?_
                      rintro e w5 ⟨rfl, hb5⟩
                      go_wp2_with fail
                      go_ret
                      exact ⟨rfl, th hbw (th (th hb hE) hb5)⟩
                  · have b6 : (len != (n' : Int) + 1) = true := by simpa using c6
                    obtain rfl := HBAD.out (fun h => c6 (by rw [← HXL.out]; exact h.2.2.2.2.2.1))
                    clear HCT HGOOD HBAD 
                    go_wp2_with fail
                    go_ret
                    exact ⟨rfl, th hbw (th hb hE)⟩
                · have f5 : r < len := by omega
                  have d5 : decide (r < len) = true := decide_eq_true f5
                  obtain rfl := HBAD.out (fun h => c5 h.2.2.2.2.1)
                  clear HCT HGOOD HBAD 
                  go_wp2_with fail
                  go_ret
                  exact ⟨rfl, th hbw (th hb hE)⟩
              · have f4 : len < 2 := by omega
                have d4 : decide (len < 2) = true := decide_eq_true f4
                obtain rfl := HBAD.out (fun h => c4 h.2.2.2.1)
                clear HCT HGOOD HBAD 
                go_wp2_with fail
                go_ret
                exact ⟨rfl, th hbw (th hb hE)⟩
            · have b3 : (at_ != p) = true := by simpa using c3
              obtain rfl := HBAD.out (fun h => c3 h.2.2.1)
              clear HCT HGOOD HBAD 
              go_wp2_with fail
              go_ret
              exact ⟨rfl, th hbw (th hb hE)⟩
          · have f2 : (4294967295 : Int) < num := by omega
            have d2 : decide ((4294967295 : Int) < num) = true := decide_eq_true f2
            obtain rfl := HBAD.out (fun h => c2 h.2.1)
            clear HCT HGOOD HBAD 
            go_wp2_with fail
            go_ret
            exact ⟨rfl, th hbw (th hb hE)⟩
        · have b1 : (num != q) = true := by simpa using c1
          obtain rfl := HBAD.out (fun h => c1 h.1)
          clear HCT HGOOD HBAD 
          go_wp2_with fail
          go_ret
          exact ⟨rfl, th hbw (th hb hE)⟩
      · obtain rfl : k = m := by omega
        obtain rfl := HYES.out (hlog.out.2 (by rw [List.drop_of_length_le (by rw [HLEN.out]; exact Nat.le_refl _)]; trivial))
        go_wp2_with fail
        go_ret
        exact ⟨rfl, th hbw hb⟩
  · unfold ancErr at hER
    rw [if_neg hok] at hER
    obtain rfl := hER.symm
    obtain rfl := HE2.out (fun h => hok ⟨h.1, h.2.1⟩)
    clear hok HE1 HE2 hER
    go_enter Tryd.func10, Tryd.ntmps10
    go_wp2_with fail
    rw [← hW0]
    clear hW0
    refine HAC.out.mono ?_
    rintro e w1 ⟨rfl, hb1⟩
    go_wp2_with fail
    go_ret
    exact ⟨rfl, th hb0 hb1⟩

end Go.Proofs.YtdcoholjnlndgaaDoor

namespace Go.Proofs.YtdcoholjnlndgaaDoor
open Go.RowKit
set_option linter.unusedVariables false
set_option maxRecDepth 100000

/-- Which of a transaction's slots a slot is. -/
def offT (sl slot : Int) (t : Txn) : Int := (slot - t.at_ + sl) % sl
def WhoPost (sl slot : Int) (L : List Txn) (w : World) (e : Ending) (w' : World) : Prop := Below w.heap.size w w' ∧
  ((∃ (i : Nat) (t : Txn), L[i]? = some t ∧ offT sl slot t < t.len ∧ (∀ (j : Nat) (t : Txn), j < i → L[j]? = some t → t.len ≤ offT sl slot t) ∧ e = .returned (.tuple #[.int .i64 (i : Int), .int .i64 (offT sl slot t), .bool true])) ∨
   ((∀ t ∈ L, t.len ≤ offT sl slot t) ∧ e = .returned (.tuple #[.int .i64 0, .int .i64 0, .bool false])))

set_option maxHeartbeats 2000000 in
theorem who_yes (g : Geo) (hG : GeoOk g) (A : Option Addr) (m c : Nat) (L : List Txn) (slot : Int) (hs : 0 ≤ slot ∧ slot < g.slots) (w : World) (hL : Sl txnR 4 w (Old w) A m c L) (hm : m ≤ 60000) (hok : ∀ t ∈ L, (0 ≤ t.at_ ∧ t.at_ < g.slots) ∧ 0 ≤ t.len ∧ t.len ≤ g.slots) :
    Calls Tryd.prog 11 #[g.v, .slice A m c, .int .i64 slot] w (WhoPost g.slots slot L w) := by
  have hck := fun w => gcheck_any g w
  have h0 : geoErr g = 0 := by unfold geoErr; simp [hG]
  rw [h0] at hck
  have hsl : 14 ≤ g.slots ∧ g.slots ≤ 30 := hG.2.2.2.1
  have hlen := hL.len
  obtain ⟨z, d, s, sl, an⟩ := g
  unfold Geo.v at *
  dsimp only at *
  have hb0 := alloc_below w (.cells #[.int .i64 z, .int .i64 d, .int .i64 s, .int .i64 sl, .int .i64 an] 23)
  have hgb := GeoAt.new w ⟨z, d, s, sl, an⟩ 23
  dsimp only at hgb
  obtain ⟨W0, hW0⟩ : ∃ W0, W0 = w.alloc (.cells #[.int .i64 z, .int .i64 d, .int .i64 s, .int .i64 sl, .int .i64 an] 23) := ⟨_, rfl⟩
  rw [← hW0] at hb0 hgb
  obtain ⟨hs1, hs2⟩ := hs
  obtain ⟨hsl1, hsl2⟩ := hsl
  have f1 : ¬ slot < 0 := by omega
  have f2 : ¬ sl ≤ slot := by omega
  have d1 : decide (slot < 0) = false := decide_eq_false f1
  have d2 : decide (sl ≤ slot) = false := decide_eq_false f2
  have HCK := hide hck
  have HLEN := hide hlen
  have HOK := hide hok
  clear hck hlen hok h0 hG
  go_enter Tryd.func11, Tryd.ntmps11
  go_wp2_with fail
  rw [← hW0]
  clear hW0
  refine (HCK.out _).mono ?_
  rintro e w1 ⟨rfl, hb1⟩
  have hgb1 := hgb.on hb1
  obtain ⟨_, p0, p1, p2, p3, p4⟩ := hgb.on hb1
  dsimp only at p0 p1 p2 p3 p4
  have hL1 := hL.on txnR_fine (th hb0 hb1)
  have hbw := th hb0 hb1
  clear hL HCK
  go_wp2_with fail
  go_loopw [27] (fun i wr => ∃ k : Nat, k ≤ m ∧ i = .int .i64 k ∧ Hid (∀ j t, j < k → L[j]? = some t → t.len ≤ offT sl slot t) ∧ Below w1.heap.size w1 wr) (fun i _ => m - (intOf i).toNat)
  case atStart => exact ⟨0, Nat.zero_le _, rfl, hide (fun j t hj => absurd hj (by omega)), Below.refl _ _⟩
  case round =>
    obtain ⟨k, hk, rfl, hno, hb⟩ := hrel
    by_cases hlt : k < m
    · obtain ⟨ad, x, A', n', c', rfl, hadl, hx, i1, i2, i3, hs, e0, e1, e2, e3⟩ := at_txn (hL1.on txnR_fine hb) hlt
      obtain ⟨⟨x1, x2⟩, x3, x4⟩ := HOK.out x (List.mem_of_getElem? hx)
      have HX := hide hx
      obtain ⟨O, hO⟩ : ∃ O, O = offT sl slot x := ⟨_, rfl⟩
      have hO0 : 0 ≤ O := by rw [hO]; exact Int.emod_nonneg _ (by omega)
      have hO1 : O < sl := by rw [hO]; exact Int.emod_lt_of_pos _ (by omega)
      have t1 : (slot - x.at_ + sl) % sl = O := hO.symm
      have t2 : (slot - x.at_ + sl).tmod sl = O := by rw [Int.tmod_eq_emod_of_nonneg (by omega)]; exact t1
      have HO := hide hO
      clear hx hO hs
      obtain ⟨num, at_, len, ims⟩ := x
      dsimp only at *
      have hE := alloc_below wr (.cells #[.int .i64 num, .int .i64 at_, .int .i64 len, .slice A' n' c'] 40)
      obtain ⟨_, p0, p1, p2, p3, p4⟩ := hgb1.on (th hb hE)
      dsimp only at p0 p1 p2 p3 p4
      have g1 : ¬ at_ < 0 := by omega
      have g2 : ¬ sl ≤ at_ := by omega
      have g3 : ¬ len < 0 := by omega
      have g4 : ¬ sl < len := by omega
      have q1 : decide (at_ < 0) = false := decide_eq_false g1
      have q2 : decide (sl ≤ at_) = false := decide_eq_false g2
      have q3 : decide (len < 0) = false := decide_eq_false g3
      have q4 : decide (sl < len) = false := decide_eq_false g4
      have hsl0 : ¬ sl = 0 := by omega
      by_cases hc : O < len
      · have q5 : decide (O < len) = true := decide_eq_true hc
        go_wp2_with fail
        go_ret3
        exact ⟨th hbw (th hb hE), .inl ⟨k, _, HX.out, by rw [← HO.out]; exact hc, hno.out, by rw [← HO.out]; rfl⟩⟩
      · have q5 : decide (O < len) = false := decide_eq_false hc
        have HN : Hid (∀ j t, j < k + 1 → L[j]? = some t → t.len ≤ offT sl slot t) := hide (fun j t hj ht => by
          by_cases hj2 : j < k
          · exact hno.out j t hj2 ht
          · obtain rfl : j = k := by omega
            rw [HX.out] at ht
            injection ht with ht
            subst ht
            rw [← HO.out]
            exact Int.not_lt.1 hc)
        go_wp2_with fail
        go_roundw
        case rel => exact ⟨k + 1, by omega, by go_num, HN, th hb hE⟩
        case measure => simp [intOf]; omega
    · obtain rfl : k = m := by omega
      go_wp2_with fail
      go_ret3
      refine ⟨th hbw hb, .inr ⟨fun t ht => ?_, rfl⟩⟩
      obtain ⟨j, hj, e⟩ := List.mem_iff_getElem.1 ht
      exact hno.out j t (by rw [← HLEN.out]; exact hj) (by rw [← e]; exact List.getElem?_eq_getElem hj)

set_option maxHeartbeats 2000000 in
theorem next_yes (g : Geo) (a : Anc) (A : Option Addr) (n c : Nat) (Al : Option Addr) (m cl : Nat) (L : List Txn) (w : World) (hT : Tabs w) (ha : Sl homR 3 w (Old w) A n c a.homes) (hin : a.In) (hl : Light a) (hL : Sl txnR 4 w (Old w) Al m cl L) (hm : m ≤ 60000) (hims : ∀ t ∈ L, t.ims.length ≤ 6000 ∧ ∀ x ∈ t.ims, x.load.length ≤ 6000)
    (hG : GeoOk g) (hA : AncOk g a) (hlog : LogOk g a.pos a.seq g.slots L) (hq : a.seq + m ≤ 4294967295) :
    Calls Tryd.prog 12 #[g.v, a.v (.slice A n c), .slice Al m cl] w fun e w' => e = .returned (.tuple #[.int .i64 ((a.pos + usedL L) % g.slots), .int .i64 (a.seq + m), .int .i64 0]) ∧ Below w.heap.size w w' := by
  have hck := fun w hT ha hL => rcheck_any g a A n c Al m cl L w hT ha hin hl hL hm hims 0 (fun _ => rfl) (fun h => absurd ⟨hG, hA, hlog⟩ h)
  have hus := fun w hL => used_any Al m cl L w hL (by omega)
  have hlen := hL.len
  have hsl : 14 ≤ g.slots ∧ g.slots ≤ 30 := hG.2.2.2.1
  have hpo : 0 ≤ a.pos ∧ a.pos ≤ g.slots - 1 := hA.1.2.2.2.2.2.2
  have hse : 1 ≤ a.seq := hA.1.2.2.2.2.1
  have hU : usedL L ≤ 30 * m := by
    rw [← hlen]
    clear hL hck hus hlen hq hm hims hlog
    induction L with
    | nil => simp [usedL]
    | cons t L ih => rw [usedL, List.length_cons]; split <;> omega
  obtain ⟨gen, epoch, pos, seq, last, label, homes⟩ := a
  obtain ⟨z, d, s, sl, an⟩ := g
  unfold Geo.v Anc.v at *
  dsimp only at *
  obtain ⟨U, hUe⟩ : ∃ U, U = usedL L := ⟨_, rfl⟩
  rw [← hUe] at hus hU ⊢
  obtain ⟨W0, hW0⟩ : ∃ W0, W0 = (w.alloc (.cells #[.int .i64 z, .int .i64 d, .int .i64 s, .int .i64 sl, .int .i64 an] 23)).alloc (.cells #[.int .i64 gen, .int .i64 epoch, .int .i64 pos, .int .i64 seq, .int .i64 last, .string label, .slice A n c] 26) := ⟨_, rfl⟩
  have hb0 : Below w.heap.size w W0 := by rw [hW0]; exact (alloc_below w _).alloc (by simp) _
  have hgb : GeoAt W0 w.heap.size ⟨z, d, s, sl, an⟩ := by rw [hW0]; exact (GeoAt.new w ⟨z, d, s, sl, an⟩ 23).on (alloc_below _ _)
  have bx : ∀ W, Below W0.heap.size W0 W → W.cell? ⟨w.heap.size, 3, none⟩ = some (.int .i64 sl) ∧ W.cell? ⟨w.heap.size + 1, 2, none⟩ = some (.int .i64 pos) ∧ W.cell? ⟨w.heap.size + 1, 3, none⟩ = some (.int .i64 seq) := fun W hW => by
    have h := (hgb.on hW).2.2.2.2.1
    subst hW0
    have q2 : ∀ k u, (#[.int .i64 gen, .int .i64 epoch, .int .i64 pos, .int .i64 seq, .int .i64 last, .string label, .slice A n c] : Array Value)[k]? = some u → W.cell? ⟨w.heap.size + 1, k, none⟩ = some u := fun k u hk => by have := box_cell hW k u hk; simpa using this
    exact ⟨h, q2 2 _ rfl, q2 3 _ rfl⟩
  have BX := hide bx
  have HCK := hide (hck W0 (hT.below hb0) (ha.on homR_fine hb0) (hL.on txnR_fine hb0))
  have hL0 := hL.on txnR_fine hb0
  have HUS : Hid (∀ W, Below W0.heap.size W0 W → _) := hide (fun W hW => hus W (hL0.on txnR_fine hW))
  have hsl0 : ¬ sl = 0 := by omega
  obtain ⟨P', hP'⟩ : ∃ P', P' = (pos + (U : Int)) % sl := ⟨_, rfl⟩
  rw [← hP']
  have t1 : (pos + (U : Int)) % sl = P' := hP'.symm
  have t2 : (pos + (U : Int)).tmod sl = P' := by rw [Int.tmod_eq_emod_of_nonneg (by omega), hP']
  have f1 : ¬ (4294967295 : Int) < seq + m := by omega
  have d1 : decide ((4294967295 : Int) < seq + m) = false := decide_eq_false f1
  have hm0 : 0 ≤ (m : Int) := by omega
  have hm1 : (m : Int) ≤ 60000 := by omega
  have hU0 : 0 ≤ (U : Int) := by omega
  have hU1 : (U : Int) ≤ 1800000 := by omega
  obtain ⟨hpo1, hpo2⟩ := hpo
  obtain ⟨hsl1, hsl2⟩ := hsl
  clear bx hck hus hlen hims hUe hP' hlog hA hG hL ha hT hin hl hL0
  go_enter Tryd.func12, Tryd.ntmps12
  go_wp2_with fail
  rw [← hW0]
  clear hW0
  refine HCK.out.mono ?_
  rintro e w1 ⟨rfl, hb1⟩
  obtain ⟨p3, q2, q3⟩ := BX.out _ hb1
  have wr1 : IntKind.i64.wrap (pos + (U : Int)) = pos + U := IntWalk.i64_in _ ⟨by omega, by omega⟩
  have wr2 : IntKind.i64.wrap (seq + (m : Int)) = seq + m := IntWalk.i64_in _ ⟨by omega, by omega⟩
  have BX1 : Hid (∀ W, Below w1.heap.size w1 W → _) := hide (fun W hW => BX.out W (th hb1 hW))
  have HUS1 : Hid (∀ W, Below w1.heap.size w1 W → _) := hide (fun W hW => HUS.out W (th hb1 hW))
  have hcur : Below w1.heap.size w1 w1 := Below.refl _ _
  go_wp2_with fail
  go_region_held3 (fun W => W.cell? ⟨w.heap.size, 3, none⟩ = some (.int .i64 sl) ∧ W.cell? ⟨w.heap.size + 1, 2, none⟩ = some (.int .i64 pos) ∧ W.cell? ⟨w.heap.size + 1, 3, none⟩ = some (.int .i64 seq)) (first | with_reducible exact BX1.out _ hcur | with_reducible exact BX1.out _ hcur.drew) (first
    | ((with_reducible refine (HUS1.out _ hcur).mono ?_); rintro e wA ⟨rfl, hzz⟩; have hcur := th hcur hzz)
    | ((with_reducible refine (HUS1.out _ hcur.drew).mono ?_); rintro e wA ⟨rfl, hzz⟩; have hcur := th hcur.drew hzz))
  all_goals (go_wp2_with fail; go_ret3; exact ⟨by simp, th (th hb0 hb1) (by first | exact hcur | exact hcur.drew)⟩)

end Go.Proofs.YtdcoholjnlndgaaDoor

namespace Go.Proofs.YtdcoholjnlndgaaDoor
open Go.RowKit Go.Maps
set_option linter.unusedVariables false
set_option maxRecDepth 100000

theorem keyI : Keyed Tryd.prog 3 := int_keyed Tryd.underlying3
/-- The zones of blocks. -/
def zset (d : Int) (L : List Int) : List Int := L.foldl (fun acc b => if b / d ∈ acc then acc else acc ++ [b / d]) []
theorem zset_snoc (d : Int) (L : List Int) (b : Int) : zset d (L ++ [b]) = if b / d ∈ zset d L then zset d L else zset d L ++ [b / d] := by
  unfold zset
  rw [List.foldl_append]
  rfl
theorem zset_len (d : Int) (L : List Int) (k : Nat) : (zset d (L.take k)).length ≤ k := by
  induction k with
  | zero => simp [zset]
  | succ k ih =>
    by_cases h : k < L.length
    · rw [List.take_succ_eq_append_getElem h, zset_snoc]
      split
      · omega
      · rw [List.length_append]; simp; omega
    · rw [List.take_of_length_le (by omega)] at ih ⊢
      omega
/-- A map of the zones that were met. -/
def MetZ (d : Int) (D : DataW Unit) (L : List Int) : Prop := Maps.size D = (zset d L).length ∧ ∀ z : Int, Maps.has D (.int .i64 z) = decide (z ∈ zset d L)
theorem MetZ.step {d : Int} {D : DataW Unit} {L : List Int} {b : Int} (h : MetZ d D L) (hT : Tidy D) : MetZ d (D.put (.int .i64 (b / d)) (.lit (.bool true))) (L ++ [b]) := by
  have hk : WideAt.IsKeyLit (.int .i64 (b / d)) := trivial
  refine ⟨?_, fun z => ?_⟩
  · rw [size_put hT, h.2, h.1, zset_snoc]
    by_cases hm : b / d ∈ zset d L
    · simp [hm]
    · simp [hm]
  · by_cases hz : z = b / d
    · subst hz
      rw [has_put_same hT.isMap hk, zset_snoc]
      by_cases hm : b / d ∈ zset d L
      · simp [hm]
      · simp [hm]
    · rw [has_put_other (by intro e; injection e with _ e; exact hz e), h.2, zset_snoc]
      by_cases hm : b / d ∈ zset d L
      · simp [hm]
      · simp [hm, hz]
/-- What Need tells. -/
def needN (d : Int) (L : List Int) : Nat := if L.length = 0 then 0 else L.length + 2 * (zset d L).length + 1

set_option maxHeartbeats 2000000 in
theorem need_yes (g : Geo) (hG : GeoOk g) (A : Option Addr) (n c : Nat) (L : List Int) (w : World) (ha : Is w A n c L) (hn : n ≤ 60000) (hr : ∀ b ∈ L, 0 ≤ b ∧ b < g.zones * g.data) (hnd : L.Nodup) :
    Calls Tryd.prog 16 #[g.v, .slice A n c] w fun e w' => e = .returned (.tuple #[.int .i64 (needN g.data L), .int .i64 0]) ∧ Below w.heap.size w w' := by
  have hmm := @run_makeMap Tryd.prog
  have hck := fun w => gcheck_any g w
  have h0 : geoErr g = 0 := by unfold geoErr; simp [hG]
  rw [h0] at hck
  have hspl : ∀ b, b ∈ L → InI b → ∀ w, Calls Tryd.prog 29 #[g.v, .int .i64 b] w fun e w' => e = .returned (.tuple #[.int .i64 (b / g.data), .int .i64 (b % g.data), .int .i64 0]) ∧ Below w.heap.size w w' := fun b hb hi w => by
    have h := split_any hG b hi w
    unfold splitV at h
    rw [if_pos (hr b hb)] at h
    exact h
  have hdiv : ∀ b, b ∈ L → 0 ≤ b / g.data ∧ b / g.data < 4 := fun b hb => by
    have h1 := hr b hb
    have h2 := hG.1
    have h3 := hG.2.1
    refine ⟨Int.ediv_nonneg h1.1 (by omega), ?_⟩
    refine Int.ediv_lt_of_lt_mul (by omega) (Int.lt_of_lt_of_le h1.2 ?_)
    exact Int.mul_le_mul_of_nonneg_right (by omega) (by omega)
  have hlen := ha.len
  obtain ⟨z, d, s, sl, an⟩ := g
  unfold Geo.v at *
  dsimp only at *
  have hb0 := alloc_below w (.cells #[.int .i64 z, .int .i64 d, .int .i64 s, .int .i64 sl, .int .i64 an] 23)
  have hgb := GeoAt.new w ⟨z, d, s, sl, an⟩ 23
  dsimp only at hgb
  obtain ⟨W0, hW0⟩ : ∃ W0, W0 = w.alloc (.cells #[.int .i64 z, .int .i64 d, .int .i64 s, .int .i64 sl, .int .i64 an] 23) := ⟨_, rfl⟩
  rw [← hW0] at hb0 hgb
  have HCK := hide hck
  have HLEN := hide hlen
  have HSP := hide hspl
  have HDV := hide hdiv
  have HND := hide hnd
  obtain ⟨N, hN⟩ : ∃ N, N = needN d L := ⟨_, rfl⟩
  rw [← hN]
  have HN := hide hN
  clear hck hlen hspl hdiv hnd h0 hG hr hN
  go_enter Tryd.func16, Tryd.ntmps16
  go_wp2_with fail
  rw [← hW0]
  clear hW0
  refine (HCK.out _).mono ?_
  rintro e w1 ⟨rfl, hb1⟩
  have hgb1 := hgb.on hb1
  have ha1 := ha.on intR_fine (th hb0 hb1)
  have hbw := th hb0 hb1
  have hmade := World.ownsMap_made w1 Tryd.prog 3 (plainElem (H := Unit) Tryd.prog 4)
  have hE1 := alloc_below w1 (.map #[] 0)
  have HM := hide hmade
  clear HCK ha hb0 hb1 hgb hmade
  go_wp2_with fail
  go_loopw [18] (fun i wr => ∃ k : Nat, ∃ D, k ≤ n ∧ i = .int .i64 k ∧ Hid (wr.ownsMap Tryd.prog 3 (plainElem (H := Unit) Tryd.prog 4) w1.heap.size k D) ∧ Hid (MetZ d D (L.take k)) ∧ Below w1.heap.size w1 wr ∧ w1.heap.size < wr.heap.size) (fun i _ => n - (intOf i).toNat)
  case atStart => exact ⟨0, _, Nat.zero_le _, rfl, HM, hide ⟨rfl, fun z => by simp [zset, Maps.has]⟩, hE1, by simp⟩
  case round =>
    obtain ⟨k, D, hk, rfl, hown, hmet, hb, hsz⟩ := hrel
    by_cases hlt : k < n
    · obtain ⟨ad, b, rfl, hadl, hx, hbi, hcell⟩ := at_int (ha1.on intR_fine hb) hlt
      have hbm := List.mem_of_getElem? hx
      have hsp := HSP.out b hbm hbi
      obtain ⟨v0, v1⟩ := HDV.out b hbm
      have hnot : b ∉ L.take k := fun h => by
        obtain ⟨j, hj, e⟩ := List.mem_iff_getElem.1 h
        rw [List.getElem_take] at e
        rw [List.length_take] at hj
        obtain ⟨h1, e1⟩ := List.getElem?_eq_some_iff.1 hx
        have := (List.getElem_inj HND.out).1 (e.trans e1.symm)
        omega
      have hct := fun w ha => contains_any (some ad) k c (L.take k) b w ha (by omega)
      rw [decide_eq_false hnot] at hct
      have hstep := hmet.out.step (b := b) (hown.out.tidy keyI)
      have htk : L.take k ++ [b] = L.take (k + 1) := by
        obtain ⟨h1, e1⟩ := List.getElem?_eq_some_iff.1 hx
        rw [List.take_succ_eq_append_getElem h1, e1]
      rw [htk] at hstep
      obtain ⟨Z, hZ⟩ : ∃ Z, Z = b / d := ⟨_, rfl⟩
      rw [← hZ] at hsp hstep v0 v1
      have HSP1 := hide hsp
      have HCT := hide hct
      have HST := hide hstep
      have hkey : keyOf Tryd.prog 3 (.int .i64 Z) = some (.int .i64 Z) := keyOf_int_mk Tryd.underlying3 (WalkArith.wf_i64 (by omega))
      obtain ⟨_, p0, p1, p2, p3, p4⟩ := hgb1.on hb
      dsimp only at p0 p1 p2 p3 p4
      clear hsp hct hstep hx hnot hZ htk hbm
      go_wp2_with fail
      refine (HSP1.out _).mono ?_
      rintro e w3 ⟨rfl, hb3⟩
      have ha3 := (ha1.on intR_fine (th hb hb3)).init_ (j := k) (by omega)
      have hown3 := hown.out.kept (grown_of_below hb3 none) (by simp)
      have hsz3 := hb3.size
      have hc' := (ha1.on intR_fine (th hb hb3)).cap
      go_wp2_with fail
      refine (HCT.out _ ha3).mono ?_
      rintro e w4 ⟨rfl, rfl⟩
      go_wp2_with (first
        | (at_mapUpdate; refine wpList_mapUpdate_own _ rfl _ _ _ 73 rfl 3 4 keyI Tryd.underlying73 _ w1.heap.size k _ rfl hown3 (by unfold maxLen; omega) _ _ _ rfl rfl hkey _ [] (plainElem_bool Tryd.underlying4 true) ?_; intro w5 hown5 hgrow5)
        | fail)
      have hb5 : Below w1.heap.size w1 w5 := (th hb hb3).grown hgrow5 (by omega) (fun j hj => by cases hj; exact Nat.le_refl _)
      have hsz5 := hgrow5.size
      go_roundw
      case rel => exact ⟨k + 1, _, by omega, by go_num, hide hown5, HST, hb5, by omega⟩
      case measure => simp [intOf]; omega
    · obtain rfl : k = n := by omega
      have hm := hmet.out
      rw [List.take_of_length_le (by rw [HLEN.out]; exact Nat.le_refl _)] at hm
      have hSz := hm.1
      have hzl := zset_len d L k
      rw [List.take_of_length_le (by rw [HLEN.out]; exact Nat.le_refl _)] at hzl
      have hNN : N = if k = 0 then 0 else k + 2 * Maps.size D + 1 := by rw [HN.out, hSz]; unfold needN; rw [HLEN.out]
      rw [← hSz] at hzl
      have hownD := hown.out
      have HS := hide hSz
      clear hSz hm
      by_cases hk0 : k = 0
      · rw [if_pos hk0] at hNN
        subst hk0
        subst hNN
        go_wp2_with fail
        go_ret2
        exact ⟨rfl, th hbw hb⟩
      · rw [if_neg hk0] at hNN
        obtain ⟨S, hS⟩ : ∃ S, S = Maps.size D := ⟨_, rfl⟩
        rw [← hS] at hNN hzl
        have e1 : ((k : Int) == 0) = false := by simpa using hk0
        have HS := hide hS.symm
        have HNN := hide hNN
        clear hS hNN
        go_wp2_with (first
          | (at_len; refine wpList_len_own _ rfl _ 73 rfl 3 4 Tryd.underlying73 _ w1.heap.size k D rfl hownD ?_; rw [HS.out])
          | fail)
        go_ret2
        exact ⟨by rw [HNN.out]; simp, th hbw hb⟩

end Go.Proofs.YtdcoholjnlndgaaDoor
