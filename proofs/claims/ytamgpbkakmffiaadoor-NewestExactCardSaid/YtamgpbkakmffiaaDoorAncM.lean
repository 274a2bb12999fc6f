/-
  Contracts: slices.Repeat of one int; anchor.homes.
-/
import Derived.Test.YtamgpbkakmffiaaDoorCopyN
import Derived.Test.YtamgpbkakmffiaaDoorStruct
import Derived.Test.YtamgpbkakmffiaaDoorRowO
import Derived.Deep.RegionLaw
import Derived.Deep.CutRange
import Derived.IntWalk
import Derived.Deep.DeepCutAuto
import Derived.Test.YtamgpbkakmffiaaDoorAncW
import Derived.Deep.RegionHeld3
namespace Go.Proofs.YtamgpbkakmffiaaDoor
open Go.RowKit
set_option linter.unusedVariables false
set_option maxRecDepth 100000

theorem int_sizeR : (Tryd.prog.info? 3).map (·.size) = some 1 := by kernel_rfl
def zInt : List Value := [.int .i64 0]
theorem made_int {k : Nat} (h : k = 3 ∨ k = 4 ∨ k = 5 ∨ k = 6) : madeCells (Value.int .i64 0).cells (k * 1) = (flat k zInt).toArray := by
  rcases h with rfl | rfl | rfl | rfl <;> kernel_rfl

set_option maxHeartbeats 2000000 in
theorem repeati_any {A : Option Addr} {c k : Nat} {x : Int} {w : World} (ha : Sl intR 1 w (Old w) A 1 c [x]) (hk : k = 3 ∨ k = 4 ∨ k = 5 ∨ k = 6) :
    Calls Tryd.prog 105 #[.slice A 1 c, .int .i64 k] w fun e w' => ∃ V cv, e = .returned (.slice V k cv) ∧ Ow intR 1 w' w.heap.size 0 3 (.slice V k cv) k (List.replicate k x) ∧ Below w.heap.size w w' := by
  obtain ⟨e0, he0, ee0, ee1, ee2⟩ := info_parts int_info
  have hk2 : 2 ≤ k ∧ k ≤ 6 := by omega
  obtain ⟨hk2, hk5⟩ := hk2
  obtain ⟨T, hT⟩ : ∃ T, T = (flat k zInt).toArray := ⟨_, rfl⟩
  have hmk : ∀ W, (Instr.makeSlice 42 (.int .i64 k) (.int .i64 k)).run Tryd.prog W = .ok (.slice (some ⟨W.heap.size, 0, none⟩) k k) (W.alloc (.cells T 3)) := fun W => by
    rw [hT, ← made_int hk]
    exact run_make_all (P := Tryd.prog) 42 3 e0 _ 1 8 Tryd.underlying42 he0 ee0 ee1 ee2 .i64 .i64 k (by omega) (by omega) W
  have HM := hide (mul_small (k : Int) (by omega))
  have hg1 : (w.alloc (.cells T 3)).heap[w.heap.size]? = some (.cells (flat k zInt).toArray 3 (0, 0)) := by rw [← hT]; exact heap_alloc_new w _
  have hb1 := alloc_below w (.cells T 3)
  have ha1 := ha.on intR_fine hb1
  obtain ⟨cs, hcs, hcl, hc1, hrun⟩ := run_copy_first (P := Tryd.prog) intR_fine _ 42 42 3 3 ha1 Tryd.underlying42 int_sizeR hg1 (show zInt.length = 1 from rfl) (show 1 ≤ k by omega)
  have hgr := setRow_heap (w.alloc (.cells T 3)) w.heap.size _ (rowR cs zInt 1 k).toArray _ _ hg1
  have hbr : Below w.heap.size w ((w.alloc (.cells T 3)).setRow w.heap.size (rowR cs zInt 1 k).toArray) := below_setRow hb1 (Nat.le_refl _) _
  have HRUN := hide hrun
  have HGR := hide hgr
  have HCL := hide hcl
  have hz3 : zInt.length = 1 := rfl
  clear hk hrun hgr hg1 hcl hT
  go_enter Tryd.func105, Tryd.ntmps105
  go_wp2_with fail
  refine (HM.out _).mono ?_
  rintro e w1 ⟨rfl, rfl⟩
  go_wp2_with (refine wp_copy_run rfl (.tmp 31) (.tmp 32) _ _ rfl _ _ _ rfl rfl HRUN.out ?_)
  go_loopw [8] (fun v wr => ∃ j : Nat, 1 ≤ j ∧ j ≤ k ∧ v = .int .i64 j ∧ Hid (wr.heap[w.heap.size]? = some (.cells (rowR cs zInt j k).toArray 3 (0, 0))) ∧ Below w.heap.size w wr) (fun v _ => k - (intOf v).toNat)
  case atStart => exact ⟨1, Nat.le_refl _, by omega, rfl, HGR, hbr⟩
  case round =>
    obtain ⟨j, hj1, hjk, rfl, hg, hb⟩ := hrel
    by_cases hlt : j < k
    · have hrn := run_copy_more (P := Tryd.prog) wr.drew 42 42 3 3 HCL.out hz3 hc1 Tryd.underlying42 int_sizeR hg.out hjk (k - j) k
      obtain ⟨q, hq⟩ : ∃ q, q = Nat.min j (k - j) := ⟨_, rfl⟩
      have hq1 : 1 ≤ q ∧ q ≤ k - j := by rw [hq]; exact ⟨Nat.le_min.2 ⟨by omega, by omega⟩, Nat.min_le_right _ _⟩
      rw [← hq] at hrn
      have hgn := setRow_heap wr.drew w.heap.size _ (rowR cs zInt (j + q) k).toArray _ _ hg.out
      have hbn : Below w.heap.size w (wr.drew.setRow w.heap.size (rowR cs zInt (j + q) k).toArray) := below_setRow hb.drew (Nat.le_refl _) _
      obtain ⟨h1, h2⟩ := hq1
      rw [Nat.one_mul] at hrn
      have hsum : IntKind.i64.wrap ((j : Int) + (q : Int)) = ((j + q : Nat) : Int) := by rw [IntWalk.i64_in _ (by omega)]; omega
      have HGN := hide hgn
      have hne : k ≠ j := by omega
      clear hgn hq
      go_upto_region 9 with fail
      go_region
      all_goals go_wp2_with fail
      go_roundw
      case rel => exact ⟨j + q, by omega, by omega, by go_num, HGN, hbn⟩
      case measure => simp [intOf]; omega
    · obtain rfl : j = k := by omega
      go_wp2_with fail
      go_ret
      exact ⟨_, _, rfl, own_rep (fun w S => hcs) intR_fine hc1 hg.out (Nat.le_refl _) (by simp only [maxLen]; omega), hb⟩

end Go.Proofs.YtamgpbkakmffiaaDoor

namespace Go.Proofs.YtamgpbkakmffiaaDoor
open Go.RowKit Go.Lib
set_option linter.unusedVariables false
set_option maxRecDepth 100000

theorem Sl.cap_ {α : Type} {R : Rp α} {s : Nat} {w : World} {S : Nat → Prop} {A : Option Addr} {n c c' : Nat} {L : List α} (h : Sl R s w S A n c L) (hc : n ≤ c') : Sl R s w S A n c' L := ⟨h.len, hc, h.at0⟩

/-- The sizes of a home's numbers. -/
def homS (d : Nat) : List Int := List.replicate (d + 2) 1 ++ [4]
theorem homS_len (d : Nat) : (homS d).length = d + 3 := by simp [homS]
theorem homS_sized (d : Nat) : ∀ z ∈ homS d, Sized z := by
  intro z hz
  rcases List.mem_append.1 hz with h | h
  · rw [(List.mem_replicate.1 h).2]; exact .inl rfl
  · obtain rfl := List.mem_singleton.1 h; exact .inr (.inr rfl)
theorem sumN_rep (m : Nat) (t : List Int) : sumN (List.replicate m 1 ++ t) = m + sumN t := by
  induction m with
  | zero => simp
  | succ m ih =>
    rw [List.replicate_succ, List.cons_append]
    show (1 : Int).toNat + sumN (List.replicate m 1 ++ t) = _
    rw [ih]
    show 1 + (m + sumN t) = _
    omega
theorem homS_sum (d : Nat) : sumN (homS d) = d + 6 := by
  rw [homS, sumN_rep]
  rfl
theorem unrow_rep (m : Nat) (t : List Int) (xs : List UInt8) (h : m ≤ xs.length) : unrowI (List.replicate m 1 ++ t) xs = (xs.take m).map (fun x => (x.toNat : Int)) ++ unrowI t (xs.drop m) := by
  induction m generalizing xs with
  | zero => simp
  | succ m ih =>
    match xs, h with
    | x :: xs, h =>
      rw [List.replicate_succ, List.cons_append]
      show ((num ((x :: xs).take 1) : Nat) : Int) :: unrowI (List.replicate m 1 ++ t) ((x :: xs).drop 1) = _
      rw [List.drop_succ_cons, List.drop_zero, ih xs (by simpa using h)]
      simp [num]
theorem homS_unrow {d : Nat} {xs : List UInt8} (h : d + 6 ≤ xs.length) : unrowI (homS d) xs = (homOf d xs).places ++ [(homOf d xs).next, (homOf d xs).root] := by
  rw [homS, unrow_rep _ _ _ (by omega)]
  have hl : d + 1 < xs.length := by omega
  have e1 : xs.take (d + 2) = xs.take (d + 1) ++ [xs[d + 1]] := List.take_succ_eq_append_getElem hl
  have e2 : num ((xs.drop (d + 1)).take 1) = (xs[d + 1]).toNat := by
    rw [List.drop_eq_getElem_cons hl, List.take_succ_cons, List.take_zero]
    simp [num]
  rw [e1]
  show List.map _ (List.take (d + 1) xs ++ [xs[d + 1]]) ++ [((num ((xs.drop (d + 2)).take 4) : Nat) : Int)] = (List.take (d + 1) xs).map _ ++ [((num ((xs.drop (d + 1)).take 1) : Nat) : Int), ((num ((xs.drop (d + 2)).take 4) : Nat) : Int)]
  rw [e2, List.map_append, List.append_assoc]
  rfl
theorem homOf_in {d : Nat} {xs : List UInt8} (h : d + 6 ≤ xs.length) : (homOf d xs).places.length = d + 1 ∧ InI (homOf d xs).next ∧ InI (homOf d xs).root := by
  have h1 := num_take_lt (xs.drop (d + 1)) 1 (by rw [List.length_drop]; omega)
  have h2 := num_take_lt (xs.drop (d + 2)) 4 (by rw [List.length_drop]; omega)
  refine ⟨by simp [homOf]; omega, ⟨?_, ?_⟩, ?_, ?_⟩
  all_goals (show _ ≤ _; simp only [homOf]; omega)
theorem homsOf_snoc (d k : Nat) (l : List UInt8) : homsOf d (k + 1) l = homsOf d k l ++ [homOf d (l.drop (k * (d + 6)))] := by
  induction k generalizing l with
  | zero => simp [homsOf]
  | succ k ih =>
    show homOf d l :: homsOf d (k + 1) (l.drop (d + 6)) = _
    rw [ih, List.drop_drop]
    show _ = homOf d l :: (homsOf d k (l.drop (d + 6)) ++ _)
    rw [show d + 6 + k * (d + 6) = (k + 1) * (d + 6) by rw [Nat.add_mul, Nat.one_mul]; omega]

/-- What is apart from an owned slice stays while it grows. -/
theorem but_grow {α : Type} {R : Rp α} {s n : Nat} {w w' : World} {v v' : Value} {A : Option Addr} {c : Nat} {L : List α} (hF : Fine R s) (h : Sl R s w (But w 0 v) A n c L) (hg : w.grownBy w' v.ownBlock) (hat : v'.ownBlock = v.ownBlock ∨ v'.ownBlock = some w.heap.size) : Sl R s w' (But w' 0 v') A n c L :=
  h.move hF (fun b hb => hg.block b hb.2.1 hb.2.2) (fun b hb => ⟨Nat.zero_le _, Nat.lt_of_lt_of_le hb.2.1 hg.size, by
    rcases hat with h | h <;> rw [h]
    · exact hb.2.2
    · intro e
      injection e with e
      have := hb.2.1
      omega⟩)
theorem but_below {α : Type} {R : Rp α} {s n : Nat} {w w' : World} {v : Value} {A : Option Addr} {c : Nat} {L : List α} (hF : Fine R s) (h : Sl R s w (But w 0 v) A n c L) (hb : Below w.heap.size w w') : Sl R s w' (But w' 0 v) A n c L :=
  h.move hF (fun b hb' => hb.block b hb'.2.1) (fun b hb' => ⟨Nat.zero_le _, Nat.lt_of_lt_of_le hb'.2.1 hb.size, hb'.2.2⟩)

/-- What anchor.homes tells. -/
def AHomes (z d : Nat) (b : List UInt8) (L : List Hom) (err : Int) : Prop := (z * (d + 6) ≤ b.length ∧ err = 0 ∧ L = homsOf d z b) ∨ (b.length < z * (d + 6) ∧ err = 4 ∧ L = [])
def AHomesPost (w : World) (z d : Nat) (b : List UInt8) (e : Ending) (w' : World) : Prop := Below w.heap.size w w' ∧ ∃ A n c L err, e = .returned (.tuple #[.slice A n c, .int .i64 err]) ∧ Sl homR 3 w' (New w.heap.size w') A n c L ∧ AHomes z d b L err

set_option maxHeartbeats 2000000 in
theorem ahomes_any (z d : Nat) (s l a : Int) (hz : 1 ≤ z ∧ z ≤ 4) (hd : 1 ≤ d ∧ d ≤ 4) (A : Option Addr) (n c : Nat) (b : List UInt8) (w : World) (hb : Bs w A n c b) (hn : n ≤ 60000) :
    Calls Tryd.prog 77 #[.agg #[.int .i64 z, .int .i64 d, .int .i64 s, .int .i64 l, .int .i64 a], .slice A n c] w (AHomesPost w z d b) := by
  obtain ⟨e0, he0, ee0, ee1, ee2⟩ := info_parts hom_info
  obtain ⟨i0, hi0, ii0, ii1, ii2⟩ := info_parts int_info
  obtain ⟨hz1, hz4⟩ := hz
  obtain ⟨hd1, hd4⟩ := hd
  obtain ⟨W0, hW0⟩ : ∃ W0, W0 = w.alloc (.cells #[.int .i64 z, .int .i64 d, .int .i64 s, .int .i64 l, .int .i64 a] 23) := ⟨_, rfl⟩
  have hb0 : Below w.heap.size w W0 := by rw [hW0]; exact alloc_below _ _
  have hs0 : W0.heap.size = w.heap.size + 1 := by rw [hW0]; simp
  have hg0 : GeoAt W0 w.heap.size ⟨(z : Int), (d : Int), s, l, a⟩ := by rw [hW0]; exact GeoAt.new w ⟨(z : Int), (d : Int), s, l, a⟩ _
  have hE1 := alloc_below W0 (.cells #[.int .i64 1] 3)
  have hl1 : Is (W0.alloc (.cells #[.int .i64 1] 3)) (some ⟨w.heap.size + 1, 0, none⟩) 1 1 [1] := lit_ints_at (n := 1) (l := [1]) hs0 rfl (by omega) (fun x hx => by simp at hx; subst hx; exact ⟨by omega, by omega⟩) rfl
  have hrep := repeati_any (k := d + 2) hl1 (by omega)
  rw [show ((d + 2 : Nat) : Int) = (d : Int) + 2 by omega] at hrep
  have HREP := hide hrep
  clear hrep
  have hlen := hb.len
  have HLEN := hide hlen
  unfold AHomesPost
  have HG0 := hide hg0
  obtain ⟨_, p0, p1, p2, p3, p4⟩ := hg0.on hE1
  clear hlen hg0
  go_enter Tryd.func77, Tryd.ntmps77
  go_wp2_with fail
  rw [← hW0]
  clear hW0
  refine HREP.out.mono ?_
  rintro e w1 ⟨U1, u1, rfl, ho1, hb1⟩
  have hb01 := th hE1 hb1
  have hE2 := alloc_below w1 (.cells #[.int .i64 4] 3)
  have ho1E := ho1.below intR_fine hE2
  have hl2 : Is (w1.alloc (.cells #[.int .i64 4] 3)) (some ⟨w1.heap.size, 0, none⟩) 1 1 [4] := lit_ints_at (n := 1) (l := [4]) rfl rfl (by omega) (fun x hx => by simp at hx; subst hx; exact ⟨by omega, by omega⟩) rfl
  have hsE : (W0.alloc (.cells #[.int .i64 1] 3)).heap.size ≤ (w1.alloc (.cells #[.int .i64 4] 3)).heap.size := Nat.le_trans hb1.size hE2.size
  go_wp2_with (at_builtin; refine wpList_append_ow _ rfl (.tmp 15) (.tmp 16) _ rfl intR_fine (W0.alloc (.cells #[.int .i64 1] 3)).heap.size 0 3 i0 _ 8 Tryd.underlying42 hi0 ii0 ii1 ii2 rfl (by omega) (.slice U1 (d + 2) u1) (d + 2) _ rfl ho1E _ _ 1 1 _ rfl hl2 (fun _ _ _ h => h) (by simp only [maxLen]; omega) (by omega) hsE ?_; intro V2 w2 ho2 hg2 hat2; obtain ⟨A2, c2, rfl⟩ := ho2.form; have hb2 := below_grown (base := (W0.alloc (.cells #[.int .i64 1] 3)).heap.size) hg2 ho1E.lt hsE; have hb02 : Below W0.heap.size W0 w2 := (th hb01 hE2).trans (hb2.mono hE1.size); obtain ⟨_, p0, p1, p2, p3, p4⟩ := HG0.out.on hb02)
  have hsz2 : Is w2 A2 (d + 2 + 1) c2 (homS d) := ho2.read intR_fine
  obtain ⟨D3, hD3⟩ : ∃ D3, D3 = d + 2 + 1 := ⟨_, rfl⟩
  rw [← hD3] at hsz2 ⊢
  have hd3 : d + 3 = D3 := hD3.symm
  have hD3a : D3 ≤ 7 := by omega
  have HD3 := hide hd3
  clear hD3 hd3
  have hrw : Bs w2 A n c b := (hb.on byteR_fine hb0).on byteR_fine hb02
  have hr0 : Sl byteR 1 w2 (But w2 0 (.slice none 0 0)) A n c (b.drop 0) := hrw.move byteR_fine (fun _ _ => rfl) (fun q hq => ⟨Nat.zero_le _, hq, by simp [Value.ownBlock]⟩)
  obtain ⟨D6, hD6⟩ : ∃ D6, D6 = d + 6 := ⟨_, rfl⟩
  have HD6 := hide hD6
  have hD10 : D6 ≤ 10 := by omega
  clear hD6
  go_loopw [1, 6, 20] (fun rv v i wr => ∃ k m q : Nat, ∃ R cr V cv, k ≤ z ∧ i = .int .i64 k ∧ q + m = n ∧ Hid (q = k * (d + 6)) ∧ rv = .slice R m cr ∧ Sl byteR 1 wr (But wr 0 (.slice V k cv)) R m cr (b.drop q) ∧ v = .slice V k cv ∧ Ow homR 3 wr w2.heap.size w2.heap.size 44 (.slice V k cv) k (homsOf d k b) ∧ Below w2.heap.size w2 wr) (fun _ _ i _ => z - (RowKit.intOf i).toNat)
  case atStart => exact ⟨0, n, 0, A, c, none, 0, Nat.zero_le _, rfl, by omega, hide (by omega), rfl, hr0, rfl, Ow.nil_ _ _ _ _, Below.refl _ _⟩
  case round =>
    obtain ⟨k, m, q, R, cr, V, cv, hk, rfl, hqm, hq, rfl, hr, rfl, ho, hbr⟩ := hrel
    by_cases hlt : k < z
    · have hrB : Bs wr R m cr (b.drop q) := hr.move byteR_fine (fun _ _ => rfl) (fun x hx => hx.2.1)
      have hun := unrow_new hrB (hsz2.on intR_fine hbr) (by omega) (by omega) (homS_sized d)
      unfold UnrowNew at hun
      rw [homS_sum, homS_len, HD3.out] at hun
      have hml : (b.drop q).length = m := hr.len
      rw [hml] at hun
      have HUN := hide hun
      have HML := hide hml
      clear hun hml
      obtain ⟨gb, gp0, gp1, gp2, gp3, gp4⟩ := HG0.out.on (hb02.trans (hbr.mono hb02.size))
      go_wp2_with fail
      refine HUN.out.mono ?_
      rintro e w3 ⟨hb3, ⟨hle, V3, c3, R3, cr3, rfl, hi3, hr3⟩ | ⟨hsh, rfl⟩⟩
      · rw [homS_unrow (show d + 6 ≤ (b.drop q).length by rw [HML.out]; exact hle)] at hi3
        obtain ⟨hpl, hin1, hin2⟩ := homOf_in (show d + 6 ≤ (b.drop q).length by rw [HML.out]; exact hle)
        have hsn := homsOf_snoc d k b
        rw [← hq.out] at hsn
        have hdd : (b.drop q).drop (d + 6) = b.drop (q + (d + 6)) := List.drop_drop
        rw [hdd] at hr3
        obtain ⟨H, hH⟩ : ∃ H, H = homOf d (b.drop q) := ⟨_, rfl⟩
        rw [← hH] at hi3 hpl hin1 hin2 hsn
        obtain ⟨D1, hD1⟩ : ∃ D1 : Nat, D1 = d + 1 := ⟨_, rfl⟩
        obtain ⟨D2, hD2⟩ : ∃ D2 : Nat, D2 = d + 2 := ⟨_, rfl⟩
        have hD3 := HD3.out
        obtain ⟨vd, x1, hvd, hvl, hx1, _, hc1⟩ := at_int hi3 (show D1 < D3 by omega)
        subst hvd
        obtain ⟨vd', x2, hvd', _, hx2, _, hc2⟩ := at_int hi3 (show D2 < D3 by omega)
        injection hvd' with hvd'
        subst hvd'
        rw [List.getElem?_append_right (by omega), hpl, show D1 - (d + 1) = 0 by omega] at hx1
        rw [List.getElem?_append_right (by omega), hpl, show D2 - (d + 1) = 1 by omega] at hx2
        simp at hx1 hx2
        subst hx1
        subst hx2
        have hpls : Sl intR 1 w3 (New wr.heap.size w3) (some vd) D1 D1 H.places := by
          have h1 := (hi3.init_ (show D1 ≤ D3 by omega)).cap_ (Nat.le_refl D1)
          have e : (H.places ++ [H.next, H.root]).take D1 = H.places := List.take_left' (by omega)
          rwa [e] at h1
        have hcap0 : D3 ≤ c3 := hi3.cap
        have hcap3 : (D1 : Int) ≤ (c3 : Int) := by omega
        have hw1 : IntKind.i64.wrap ((d : Int) + 1) = (D1 : Int) := (IntWalk.i64_in _ (by omega)).trans (by omega)
        have hw2 : IntKind.i64.wrap ((d : Int) + 2) = (D2 : Int) := (IntWalk.i64_in _ (by omega)).trans (by omega)
        have hD1a : (0 : Int) ≤ (D1 : Int) := by omega
        have hD1b : (D1 : Int) < (D3 : Int) := by omega
        have hD2a : (0 : Int) ≤ (D2 : Int) := by omega
        have hD1c : D1 < D3 := by omega
        have hD2c : D2 < D3 := by omega
        have hD1d : D1 ≤ c3 := by omega
        have hD2b : (D2 : Int) < (D3 : Int) := by omega
        have hown : ∀ x, (Value.slice V k cv).ownBlock = some x → w2.heap.size ≤ x ∧ x < wr.heap.size := ho.lt
        have hmv : ∀ W : World, (∀ x, x < w3.heap.size → some x ≠ (Value.slice V k cv).ownBlock → W.heap[x]? = w3.heap[x]?) → W.cell? ⟨w.heap.size, 1, none⟩ = some (.int .i64 d) ∧ W.cell? (vd.add D1) = some (.int .i64 H.next) ∧ W.cell? (vd.add D2) = some (.int .i64 H.root) := fun W hW => by
          have hg3 := (HG0.out.on (hb02.trans (hbr.mono hb02.size))).on hb3
          have hvl' : wr.heap.size ≤ vd.block ∧ vd.block < w3.heap.size := hvl
          have q1 : some w.heap.size ≠ (Value.slice V k cv).ownBlock := fun e => by have h1 := (hown _ e.symm).1; have h2 := hb02.size; omega
          have q2 : some vd.block ≠ (Value.slice V k cv).ownBlock := fun e => by have h1 := (hown _ e.symm).2; omega
          have r1 := hW vd.block hvl'.2 q2
          exact ⟨(World.cell?_of_block (a := ⟨w.heap.size, 1, none⟩) (hW _ hg3.1 q1)).trans hg3.2.2.1, (World.cell?_of_block (a := vd.add D1) (by rw [block_of_add]; exact r1)).trans hc1, (World.cell?_of_block (a := vd.add D2) (by rw [block_of_add]; exact r1)).trans hc2⟩
        have HMV := hide hmv
        have hk0 : ∀ x, x < w3.heap.size → some x ≠ (Value.slice V k cv).ownBlock → w3.drew.heap[x]? = w3.heap[x]? := fun _ _ _ => rfl
        have hk1 : ∀ x, x < w3.heap.size → some x ≠ (Value.slice V k cv).ownBlock → (w3.alloc (.cells #[.slice (some vd) D1 D1, .int .i64 H.next, .int .i64 H.root] 44)).drew.heap[x]? = w3.heap[x]? := fun x h1 _ => Below.heap_alloc _ _ _ h1
        have HK0 := hide hk0
        have HK1 := hide hk1
        have hEd : Below w3.heap.size w3 (w3.alloc (.cells #[.slice (some vd) D1 D1, .int .i64 H.next, .int .i64 H.root] 44)).drew := (alloc_below w3 _).drew
        have hbut : ∀ x, wr.heap.size ≤ x → x < (w3.alloc (.cells #[.slice (some vd) D1 D1, .int .i64 H.next, .int .i64 H.root] 44)).heap.size → But (w3.alloc (.cells #[.slice (some vd) D1 D1, .int .i64 H.next, .int .i64 H.root] 44)) w2.heap.size (.slice V k cv) x := fun x h1 h2 => ⟨Nat.le_trans hbr.size h1, h2, fun e => by have := (hown _ e.symm).2; omega⟩
        have hlit : Sl homR 3 (w3.alloc (.cells #[.slice (some vd) D1 D1, .int .i64 H.next, .int .i64 H.root] 44)).drew (But (w3.alloc (.cells #[.slice (some vd) D1 D1, .int .i64 H.next, .int .i64 H.root] 44)) w2.heap.size (.slice V k cv)) (some ⟨w3.heap.size, 0, none⟩) 1 1 [H] :=
          Sl.drew homR_fine (lit_hom (x := H) (hpls.move intR_fine (fun x hx => Below.heap_alloc _ _ _ hx.2) (fun x hx => hbut x hx.1 (by have := hx.2; simp; omega))) hin1 hin2 (hbut _ hb3.size (by simp)))
        have ho3 := (ho.below homR_fine hb3).below homR_fine hEd
        have hs3 : w2.heap.size ≤ (w3.alloc (.cells #[.slice (some vd) D1 D1, .int .i64 H.next, .int .i64 H.root] 44)).drew.heap.size := Nat.le_trans hbr.size (Nat.le_trans hb3.size hEd.size)
        have hrB3 : Sl byteR 1 w3 (But w3 0 (.slice V k cv)) R3 (m - (d + 6)) cr3 (b.drop (q + (d + 6))) := hr3.move byteR_fine (fun _ _ => rfl) (fun x hx => ⟨Nat.zero_le _, hx.2, fun e => by have h1 := (hown _ e.symm).2; have h2 := hx.1; omega⟩)
        have HRB := hide (but_below byteR_fine hrB3 hEd)
        have hb2d := hbr.trans ((th hb3 hEd).mono hbr.size)
        have HSN := hide hsn
        have HLE := hide hle
        clear hi3 hr3 hsn hdd hH hpl hown hmv hk0 hk1 hbut hpls hc1 hc2 hvl hrB3 hD1 hD2 hD3 hle
        go_upto_region 8 with fail
        go_cut [6] (fun v wx => ∃ A8 c8, v = .slice A8 (k + 1) c8 ∧ Ow homR 3 wx w2.heap.size w2.heap.size 44 (.slice A8 (k + 1) c8) (k + 1) (homsOf d (k + 1) b) ∧ Sl byteR 1 wx (But wx 0 (.slice A8 (k + 1) c8)) R3 (m - (d + 6)) cr3 (b.drop (q + (d + 6))) ∧ Below w2.heap.size w2 wx)
        case first =>
          go_region_held3 (fun w' => w'.cell? ⟨w.heap.size, 1, none⟩ = some (.int .i64 d) ∧ w'.cell? (vd.add D1) = some (.int .i64 H.next) ∧ w'.cell? (vd.add D2) = some (.int .i64 H.root)) (first | exact HMV.out _ HK0.out | exact HMV.out _ HK1.out | exact HMV.out _ HK2.out) ((refine step_append_ow _ (by rfl) _ _ _ (by rfl) homR_fine w2.heap.size w2.heap.size 44 e0 _ 40 Tryd.underlying24 he0 ee0 ee1 ee2 rfl (by omega) (.slice V k cv) k _ (by rfl) ho3 _ _ 1 1 _ (by rfl) hlit (fun _ _ _ h => h) (by simp only [maxLen]; omega) (by omega) hs3 ?_; intro V8 w8 ho8 hg8 hat8; obtain ⟨A8, c8, rfl⟩ := ho8.form; have hb8 := below_grown (base := w2.heap.size) hg8 ho3.lt hs3; have HK2 := hide (fun (x : Nat) (h1 : x < w3.heap.size) (h2 : some x ≠ (Value.slice V k cv).ownBlock) => (hg8.block x (Nat.lt_of_lt_of_le h1 hEd.size) h2).trans (HK1.out x h1 h2))))
          all_goals (go_wp2_with fail; go_meet; exact ⟨A8, c8, rfl, by rw [HSN.out]; exact ho8, but_grow byteR_fine HRB.out hg8 hat8, hb2d.trans hb8⟩)
        case rest =>
          obtain ⟨A8, c8, rfl, ho8, hr8, hb8⟩ := hcut
          go_wp2_with fail
          have hq2 : Hid (q + (d + 6) = (k + 1) * (d + 6)) := hide (by rw [Nat.add_mul, Nat.one_mul, hq.out])
          have hqm2 : q + (d + 6) + (m - (d + 6)) = n := by have := HLE.out; omega
          go_roundw
          case rel => exact ⟨k + 1, m - (d + 6), q + (d + 6), R3, cr3, A8, c8, by omega, by go_num, hqm2, hq2, rfl, hr8, rfl, ho8, hb8⟩
          case measure => (first | omega | (simp [RowKit.intOf]; omega) | (unfold RowKit.intOf; simp; omega) | go_num)
      · have hbad : AHomes z d b [] 4 := by
          refine .inr ⟨?_, rfl, rfl⟩
          have h1 := hq.out
          have h2 : (k + 1) * (d + 6) ≤ z * (d + 6) := Nat.mul_le_mul_right _ hlt
          rw [Nat.add_mul, Nat.one_mul] at h2
          rw [HLEN.out]
          omega
        have HBAD := hide hbad
        clear hbad hsh
        go_wp2_with fail
        go_ret2
        exact ⟨th hb0 ((hb02.trans (hbr.mono hb02.size)).trans (hb3.mono (Nat.le_trans hb02.size hbr.size))), none, 0, 0, [], 4, rfl, Sl.nil_ _, HBAD.out⟩
    · obtain rfl : k = z := by omega
      have hgood : AHomes k d b (homsOf d k b) 0 := .inl ⟨by have := hq.out; rw [HLEN.out]; omega, rfl, rfl⟩
      have HGOOD := hide hgood
      clear hgood
      go_wp2_with fail
      go_ret2
      exact ⟨th hb0 (hb02.trans (hbr.mono hb02.size)), V, k, cv, _, 0, rfl, ho.new_ homR_fine (by have := hb02.size; omega) (by have := hb02.size; omega), HGOOD.out⟩

end Go.Proofs.YtamgpbkakmffiaaDoor
