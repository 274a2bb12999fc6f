/-
  Contract: casemateref08.ReadTable.
-/
import Derived.Test.YtamgpbkakmffiaaTabF
import Derived.Test.YtamgpbkakmffiaaZRef2
import Derived.Test.YtamgpbkakmffiaaLit
import Derived.Deep.RegionLaw
import Derived.Deep.DeepCutAuto
namespace Go.Proofs.Ytamgpbkakmffiaa
open Go.RowKit
set_option linter.unusedVariables false
set_option maxRecDepth 100000

theorem lostOk_iff (k : Nat) (l : List UInt8) : LostOk k l ↔ ∀ i, i < k → num ((l.drop (9 * i + 8)).take 1) ≤ 1 := by
  induction k generalizing l with
  | zero => exact ⟨fun _ i h => absurd h (by omega), fun _ => trivial⟩
  | succ k ih =>
    unfold LostOk
    rw [ih (l.drop 9)]
    constructor
    · rintro ⟨h1, h2⟩ i hi
      cases i with
      | zero => exact h1
      | succ i =>
        have := h2 i (by omega)
        rw [List.drop_drop] at this
        rw [show 9 * (i + 1) + 8 = 9 + (9 * i + 8) by omega]
        exact this
    · intro h
      refine ⟨h 0 (by omega), fun i hi => ?_⟩
      rw [List.drop_drop, show 9 + (9 * i + 8) = 9 * (i + 1) + 8 by omega]
      exact h (i + 1) (by omega)

theorem num_one {l : List UInt8} {i : Nat} {b : UInt8} (h : l[i]? = some b) : num ((l.drop i).take 1) = b.toNat := by
  obtain ⟨h1, h2⟩ := List.getElem?_eq_some_iff.1 h
  rw [List.drop_eq_getElem_cons h1, h2]
  simp [num]

/-- What the page's ReadTable tells. -/
def RTabQ (d : Nat) (l : List UInt8) (T : List Ent) (b : Bool) : Prop := (ReadOk (d : Int) l ∧ b = true ∧ T = tabOf (d + 1) l) ∨ (¬ ReadOk (d : Int) l ∧ b = false ∧ T = [])
def RTabPost (w : World) (d : Nat) (l : List UInt8) (e : Ending) (w' : World) : Prop := Below w.heap.size w w' ∧ ∃ A n c T b, e = .returned (.tuple #[.agg #[.slice A n c], .bool b]) ∧ Sl entR 3 w' (New w.heap.size w') A n c T ∧ RTabQ d l T b

set_option maxHeartbeats 8000000 in
theorem rreadt_any (A : Option Addr) (n c d : Nat) (l : List UInt8) (g : Geo) (hG : GeoOk g) (hd : g.data = (d : Int)) (w : World) (hl : Bs w A n c l) (hn : n ≤ 60000) :
    Calls Try.prog 20 #[g.v, .slice A n c] w (RTabPost w d l) := by
  obtain ⟨e0, he0, ee0, ee1, ee2⟩ := info_parts ent_info2
  have hd4 : d ≤ 4 := by have := hG.2.1; omega
  have hS0 : (w.alloc (.cells #[.int .i64 g.zones, .int .i64 d, .int .i64 g.spares, .int .i64 g.slots, .int .i64 g.anchors] 23)).heap.size = w.heap.size + 1 := by simp
  have hS1 : ((w.alloc (.cells #[.int .i64 g.zones, .int .i64 d, .int .i64 g.spares, .int .i64 g.slots, .int .i64 g.anchors] 23)).alloc (.cells #[.slice none 0 0] 26)).heap.size = w.heap.size + 1 + 1 := by simp
  have hb0 : Below w.heap.size w ((w.alloc (.cells #[.int .i64 g.zones, .int .i64 d, .int .i64 g.spares, .int .i64 g.slots, .int .i64 g.anchors] 23)).alloc (.cells #[.slice none 0 0] 26)) := (alloc_below w _).alloc (by simp) _
  have bx : ∀ W, Below (w.heap.size + 1 + 1) ((w.alloc (.cells #[.int .i64 g.zones, .int .i64 d, .int .i64 g.spares, .int .i64 g.slots, .int .i64 g.anchors] 23)).alloc (.cells #[.slice none 0 0] 26)) W →
      W.cell? ⟨w.heap.size, 0, none⟩ = some (.int .i64 g.zones) ∧ W.cell? ⟨w.heap.size, 1, none⟩ = some (.int .i64 d) ∧ W.cell? ⟨w.heap.size, 2, none⟩ = some (.int .i64 g.spares) ∧ W.cell? ⟨w.heap.size, 3, none⟩ = some (.int .i64 g.slots) ∧ W.cell? ⟨w.heap.size, 4, none⟩ = some (.int .i64 g.anchors) ∧ W.cell? ⟨w.heap.size + 1, 0, none⟩ = some (.slice none 0 0) ∧ W.frozen? ⟨w.heap.size + 1, 0, none⟩ = false ∧ Below w.heap.size w W := fun W hW0 =>
    have hW : Below ((w.alloc (.cells #[.int .i64 g.zones, .int .i64 d, .int .i64 g.spares, .int .i64 g.slots, .int .i64 g.anchors] 23)).alloc (.cells #[.slice none 0 0] 26)).heap.size ((w.alloc (.cells #[.int .i64 g.zones, .int .i64 d, .int .i64 g.spares, .int .i64 g.slots, .int .i64 g.anchors] 23)).alloc (.cells #[.slice none 0 0] 26)) W := by rw [hS1]; exact hW0
    have h := th (alloc_below _ _) hW
    ⟨box_cell h 0 _ rfl, box_cell h 1 _ rfl, box_cell h 2 _ rfl, box_cell h 3 _ rfl, box_cell h 4 _ rfl, bx_at2 hS0 hW 0 _ rfl, bx_free2 hS0 hW 0, th (alloc_below _ _) h⟩
  have BX := hide bx
  have HS1 := hide hS1
  have hl0 := hl.on byteR_fine hb0
  have HLEN := hide hl.len
  have hcap := hl.cap
  unfold RTabPost
  unfold Geo.v
  rw [hd]
  have HD := hide hd
  have HG := hide hG
  have HGP : Hid (∀ (W : World) (A' : Option Addr) (n' c' : Nat) (l' : List UInt8), Bs W A' n' c' l' → 4 ≤ n' → Calls Try.prog 37 #[.slice A' n' c', .int .i64 4] W fun e w' => e = .returned (.int .i64 (num (l'.take 4))) ∧ W = w') := fun W A' n' c' l' h1 h2 => rget_any h1 4 (by omega) h2
  clear bx hS0 hS1 hd hG
  by_cases hnd : n = 9 * (d + 1)
  · subst hnd
    have e1 : (((9 * (d + 1) : Nat) : Int) != 9 * ((d : Int) + 1)) = false := by simp
    have hb3' := alloc_below ((w.alloc (.cells #[.int .i64 g.zones, .int .i64 d, .int .i64 g.spares, .int .i64 g.slots, .int .i64 g.anchors] 23)).alloc (.cells #[.slice none 0 0] 26)) (.cells #[.slice none 0 0] 26)
    have hct := bx_at2 HS1.out (Below.refl _ (((w.alloc (.cells #[.int .i64 g.zones, .int .i64 d, .int .i64 g.spares, .int .i64 g.slots, .int .i64 g.anchors] 23)).alloc (.cells #[.slice none 0 0] 26)).alloc (.cells #[.slice none 0 0] 26))) 0 (.slice none 0 0) rfl
    have hft := bx_free2 HS1.out (Below.refl _ (((w.alloc (.cells #[.int .i64 g.zones, .int .i64 d, .int .i64 g.spares, .int .i64 g.slots, .int .i64 g.anchors] 23)).alloc (.cells #[.slice none 0 0] 26)).alloc (.cells #[.slice none 0 0] 26))) 0
    rw [HS1.out] at hb3'
    have hsz3 : w.heap.size + 1 + 1 + 1 ≤ (((w.alloc (.cells #[.int .i64 g.zones, .int .i64 d, .int .i64 g.spares, .int .i64 g.slots, .int .i64 g.anchors] 23)).alloc (.cells #[.slice none 0 0] 26)).alloc (.cells #[.slice none 0 0] 26)).heap.size := by simp
    obtain ⟨WB, hWB⟩ : ∃ WB, WB = (w.alloc (.cells #[.int .i64 g.zones, .int .i64 d, .int .i64 g.spares, .int .i64 g.slots, .int .i64 g.anchors] 23)).alloc (.cells #[.slice none 0 0] 26) := ⟨_, rfl⟩
    rw [← hWB] at BX hb3' hct hft hsz3
    have HWB := hide hWB
    have HCT := hide hct
    have HFT := hide hft
    clear hWB hct hft
    go_enter Try.func20, Try.ntmps20
    go_wp2_with fail
    go_loopw [7] (fun i wr => ∃ k : Nat, ∃ A1 c1, k ≤ d + 1 ∧ i = .int .i64 k ∧ Ow entR 3 wr (w.heap.size + 1 + 1 + 1) 0 43 (.slice A1 k c1) k (tabOf k l) ∧ Hid (∀ i, i < k → num ((l.drop (9 * i + 8)).take 1) ≤ 1) ∧ wr.cell? ⟨w.heap.size + 1 + 1, 0, none⟩ = some (.slice A1 k c1) ∧ wr.frozen? ⟨w.heap.size + 1 + 1, 0, none⟩ = false ∧ Below (w.heap.size + 1 + 1) WB wr ∧ w.heap.size + 1 + 1 + 1 ≤ wr.heap.size) (fun i _ => d + 1 - (intOf i).toNat)
    case atStart =>
      rw [← HWB.out]
      exact ⟨0, none, 0, Nat.zero_le _, rfl, Ow.nil_ _ _ _ _, hide (fun i h => absurd h (by omega)), HCT.out, HFT.out, hb3', hsz3⟩
    case round =>
      obtain ⟨k, A1, c1, hk, rfl, ho, hlo, ct, ft, hb, hsz⟩ := hrel
      obtain ⟨q0, q1, q2, q3, q4, qr, qf, hbw⟩ := BX.out wr hb
      have hlr := hl.on byteR_fine hbw
      by_cases hlt : k < d + 1
      · obtain ⟨q, hq⟩ : ∃ q : Nat, q = 9 * k := ⟨_, rfl⟩
        have eq1 : 9 * (k : Int) = (q : Int) := by omega
        have hqn : q + 9 ≤ 9 * (d + 1) := by omega
        obtain ⟨ad, y8, hA, hadl, hy8, hc8⟩ := at_byte hlr (show q + 8 < 9 * (d + 1) by omega)
        subst hA
        have hx := rest1 hlr (i := q) (by omega) (by omega)
        have hx4 := rest1 hx (i := 4) (by omega) (by omega)
        simp only [Option.map_some] at hx hx4
        obtain ⟨yd, y8', hyd, _, hy8', hc8'⟩ := at_byte hx (show 8 < 9 * (d + 1) - q by omega)
        injection hyd with hyd
        subst hyd
        have hcc : wr.cell? ⟨(ad.add q).block, (ad.add q).off + 8, none⟩ = some (.int .u8 (y8'.toNat : Int)) := hc8'
        rw [List.getElem?_drop] at hy8'
        have hn1 := num_one hy8'
        rw [hq] at hn1
        have hyl := y8'.toNat_lt
        obtain ⟨v, hv⟩ : ∃ v : Nat, v = y8'.toNat := ⟨_, rfl⟩
        rw [← hv] at hcc hn1 hyl
        have HN1 := hide hn1
        by_cases hv1 : 1 < v
        · have hno : ¬ ReadOk (d : Int) l := fun h => by
            have h2 := h.2.1
            rw [show ((d : Int) + 1).toNat = d + 1 by omega, lostOk_iff] at h2
            have h3 := h2 k hlt
            rw [HN1.out] at h3
            omega
          have HNO := hide hno
          clear hno hn1 hv hc8 hc8' hy8 hy8' hq
          go_wp2_with fail
          exact bodyPost_ret (v := .tuple #[.agg #[.slice none 0 0], .bool false]) (by simp [results, Try.results20, go_sem, put_same qr]) rfl ⟨hbw.setCell (by simp) _, none, 0, 0, [], false, rfl, Sl.nil_ _, by unfold RTabQ; exact .inr ⟨HNO.out, rfl, rfl⟩⟩
        · have hsn := tabOf_snoc k l
          rw [← hq] at hsn
          obtain ⟨X, hX⟩ : ∃ X, X = l.drop q := ⟨_, rfl⟩
          rw [← hX] at hx hx4 hsn
          have hXl : X.length = 9 * (d + 1) - q := hx.len
          have hv8 : num ((X.drop 8).take 1) = v := by rw [hX, List.drop_drop, hq]; exact HN1.out
          obtain ⟨lo, hlo2⟩ : ∃ lo, lo = decide (v = 1) := ⟨_, rfl⟩
          have hent : entOf X = ⟨(num (X.take 4) : Int), (num ((X.drop 4).take 4) : Int), lo⟩ := by rw [entOf, hv8, hlo2]
          have hb1' : num (X.take 4) < 4294967296 := num_take_lt X 4 (by omega)
          have hb2' : num ((X.drop 4).take 4) < 4294967296 := num_take_lt (X.drop 4) 4 (by simp; omega)
          have hlo3 : ((v : Int) == 1) = lo := by
            rw [hlo2]
            by_cases h : v = 1
            · subst h; rfl
            · rw [decide_eq_false h]; simp; omega
          rw [hent] at hsn
          have HSN := hide hsn
          have hlo4 : Hid (∀ i, i < k + 1 → num ((l.drop (9 * i + 8)).take 1) ≤ 1) := fun i hi => by
            by_cases h : i = k
            · subst h; rw [HN1.out]; omega
            · exact hlo.out i (by omega)
          have hxd : Bs wr.drew (some (ad.add q)) (9 * (d + 1) - q) (c - q) X := hx.move byteR_fine (fun _ _ => rfl) (fun _ h => h)
          have hx4d : Bs wr.drew (some ⟨(ad.add q).block, (ad.add q).off + 4, none⟩) (9 * (d + 1) - q - 4) (c - q - 4) (X.drop 4) := hx4.move byteR_fine (fun _ _ => rfl) (fun _ h => h)
          have hE5 : Below wr.heap.size wr (wr.alloc (.cells #[.int .i64 (num (X.take 4)), .int .i64 (num ((X.drop 4).take 4)), .bool lo] 43)).drew := (alloc_below wr (.cells #[.int .i64 (num (X.take 4)), .int .i64 (num ((X.drop 4).take 4)), .bool lo] 43)).drew
          have ho5 := ho.below entR_fine hE5
          have hlit : Sl entR 3 (wr.alloc (.cells #[.int .i64 (num (X.take 4)), .int .i64 (num ((X.drop 4).take 4)), .bool lo] 43)).drew (fun _ => True) (some ⟨wr.heap.size, 0, none⟩) 1 1 [⟨(num (X.take 4) : Int), (num ((X.drop 4).take 4) : Int), lo⟩] := Sl.drew entR_fine (lit_entry rfl (show InI (num (X.take 4) : Int) from ⟨by omega, by omega⟩) (show InI (num ((X.drop 4).take 4) : Int) from ⟨by omega, by omega⟩))
          have ct5 : (wr.alloc (.cells #[.int .i64 (num (X.take 4)), .int .i64 (num ((X.drop 4).take 4)), .bool lo] 43)).cell? ⟨w.heap.size + 1 + 1, 0, none⟩ = some (.slice A1 k c1) := ((alloc_below wr _).cell (by exact hsz)).trans ct
          have hs5 : w.heap.size + 1 + 1 + 1 ≤ (wr.alloc (.cells #[.int .i64 (num (X.take 4)), .int .i64 (num ((X.drop 4).take 4)), .bool lo] 43)).drew.heap.size := Nat.le_trans hsz hE5.size
          have hb15 := hb.trans (hE5.mono (by omega))
          have HFT2 := hide ft
          have B1 : (4 : Int) ≤ ((9 * (d + 1) - q : Nat) : Int) := by omega
          have B2 : ¬ c - q = 4 := by omega
          have B3 : (8 : Int) < ((9 * (d + 1) - q : Nat) : Int) := by omega
          clear hsn hX hXl hlo2 hent hn1 hv hc8 hc8' hy8 hy8' hq hv8 hx hx4 hlr
          go_upto_region 10 with fail
          go_region_law (first
              | (refine step_append_ow _ (by rfl) _ _ _ (by rfl) entR_fine (w.heap.size + 1 + 1 + 1) 0 43 e0 _ 24 Try.underlying24 he0 ee0 ee1 ee2 rfl (by omega) (.slice A1 k c1) k _ (by rfl) ho5 _ _ 1 1 _ (by rfl) hlit (fun _ _ _ h => h) (by simp only [maxLen]; omega) (by omega) hs5 ?_; intro V6 w6 ho6 hg6 hat6; obtain ⟨A6, c6, rfl⟩ := ho6.form; have hb56 := below_grown (base := w.heap.size + 1 + 1 + 1) hg6 ho5.lt hs5; have ct6 : w6.cell? ⟨w.heap.size + 1 + 1, 0, none⟩ = some (.slice A1 k c1) := (hb56.cell (by simp)).trans ct5; have ft6 : w6.frozen? ⟨w.heap.size + 1 + 1, 0, none⟩ = false := (hb56.frozen (by simp)).trans ((hE5.frozen (by exact hsz)).trans HFT2.out))
              | (go_simp; go_at_call 37; refine Calls.mono (HGP.out _ _ _ _ _ (by first | exact hxd | exact hx4d) (by omega)) ?_; rintro e w9 ⟨rfl, rfl⟩))
          all_goals
              go_wp2_with fail
              go_roundw
              case rel => exact ⟨k + 1, A6, c6, by omega, by go_num, by rw [HSN.out]; exact entPut ho6 _ _ (by simp), hlo4, put_same ct6, (put_free _ _ _ _).trans ft6, (hb15.trans (hb56.mono (by omega))).setCell (by simp) _, by rw [set_size]; exact Nat.le_trans hs5 hg6.size⟩
              case measure => simp [intOf]; omega
      · obtain rfl : k = d + 1 := by omega
        have hae := ho.read entR_fine
        have hta := rtab_any A1 (d + 1) c1 (tabOf (d + 1) l) ⟨g.zones, d, g.spares, g.slots, g.anchors⟩ (by have h := HG.out; have h2 := HD.out; obtain ⟨z1, z2, z3, z4, z5⟩ := g; dsimp only at h h2 ⊢; rw [h2] at h; exact h) wr hae (by omega)
        unfold Geo.v at hta
        dsimp only at hta
        have HTA := hide hta
        have HRO : Hid (TabOk (d : Int) (tabOf (d + 1) l) ↔ ReadOk (d : Int) l) := by
          unfold ReadOk
          rw [show ((d : Int) + 1).toNat = d + 1 by omega]
          exact ⟨fun h => ⟨by have := HLEN.out; omega, (lostOk_iff _ _).2 hlo.out, h⟩, fun h => h.2.2⟩
        clear hta
        go_wp2_with fail
        refine HTA.out.mono ?_
        rintro e w7 ⟨rfl, hb7⟩
        obtain ⟨r0, r1, r2, r3, r4, rr, rf, hbr⟩ := BX.out w7 (hb.trans (hb7.mono (by omega)))
        have ct7 : w7.cell? ⟨w.heap.size + 1 + 1, 0, none⟩ = some (.slice A1 (d + 1) c1) := (hb7.cell (by exact hsz)).trans ct
        have h7 := ho.below entR_fine hb7
        by_cases hT : TabOk (d : Int) (tabOf (d + 1) l)
        · rw [decide_eq_true hT]
          have HOK := hide (HRO.out.1 hT)
          clear hT
          go_wp2_with fail
          exact bodyPost_ret (v := .tuple #[.agg #[.slice A1 (d + 1) c1], .bool true]) (by simp [results, Try.results20, go_sem, put_same rr]) rfl ⟨hbr.setCell (by simp) _, A1, d + 1, c1, _, true, rfl, entNew (entPut h7 _ _ (by show w.heap.size + 1 < w.heap.size + 1 + 1 + 1; omega)) (by omega), by unfold RTabQ; exact .inl ⟨HOK.out, rfl, rfl⟩⟩
        · rw [decide_eq_false hT]
          have HNO := hide (fun h => hT (HRO.out.2 h))
          clear hT
          go_wp2_with fail
          exact bodyPost_ret (v := .tuple #[.agg #[.slice none 0 0], .bool false]) (by simp [results, Try.results20, go_sem, put_same rr]) rfl ⟨hbr.setCell (by simp) _, none, 0, 0, [], false, rfl, Sl.nil_ _, by unfold RTabQ; exact .inr ⟨HNO.out, rfl, rfl⟩⟩
  · have e1 : ((n : Int) != 9 * ((d : Int) + 1)) = true := by simp; omega
    have hno : ¬ ReadOk (d : Int) l := fun h => by have h1 := h.1; have h2 := HLEN.out; omega
    have HNO := hide hno
    clear hnd hno
    go_enter Try.func20, Try.ntmps20
    go_wp2_with fail
    exact bodyPost_ret (v := .tuple #[.agg #[.slice none 0 0], .bool false]) (by simp [results, Try.results20, go_sem]) rfl ⟨hb0, none, 0, 0, [], false, rfl, Sl.nil_ _, by unfold RTabQ; exact .inr ⟨HNO.out, rfl, rfl⟩⟩

end Go.Proofs.Ytamgpbkakmffiaa
