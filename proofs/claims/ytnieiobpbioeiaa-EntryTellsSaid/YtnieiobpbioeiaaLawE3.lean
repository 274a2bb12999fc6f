/-
  The walk of the law EntryTells.
-/
import Derived.Test.YtnieiobpbioeiaaLawE1
import Derived.Test.YtnieiobpbioeiaaSpot
import Derived.Deep.CutBlock
import Derived.Deep.DeepCutAuto
namespace Go.Proofs.Ytnieiobpbioeiaa
open Go.RowKit
set_option linter.unusedVariables false
set_option maxRecDepth 100000

theorem u6_cases (x : Int) : (IntKind.u64.wrap x).tmod 6 = 0 ∨ (IntKind.u64.wrap x).tmod 6 = 1 ∨ (IntKind.u64.wrap x).tmod 6 = 2 ∨ (IntKind.u64.wrap x).tmod 6 = 3 ∨ (IntKind.u64.wrap x).tmod 6 = 4 ∨ (IntKind.u64.wrap x).tmod 6 = 5 := by
  have h0 : 0 ≤ IntKind.u64.wrap x := by rw [IntKind.wrap_u64]; exact Int.emod_nonneg _ (by omega)
  have h1 : (IntKind.u64.wrap x).tmod 6 = IntKind.u64.wrap x % 6 := Int.tmod_eq_emod_of_nonneg h0
  rw [h1]
  omega

theorem seal_bent {a s : Nat} {l : List UInt8} (hl : l.length ≤ 96) (bit bits : Int) : openS (flipL (sealL a s l) bit bits) = (noSec, 5) := by
  have hlen := seal_len a s l
  exact open_bent hl (oddN_lt _) (oddN_odd _) (flipAt_lt (by omega) bit)

theorem blk_no {err : Int} {b : List UInt8} {a : Int} {e : Ent} (h : err ≠ 0 ∨ (openS b).2 ≠ 0) : blkL err b a e = ([], false) := by
  have hp : payL err b a e.stamp = ([], false) := by
    unfold payL
    rw [if_neg]
    rintro ⟨h1, h2, _⟩
    rcases h with h | h
    · exact h h1
    · exact h h2
  unfold blkL
  rw [hp, if_neg (fun h => by cases h.1)]

/-- A reading in memory, spoilt: it tells nothing. -/
def Spoilt (w3 wx : World) (a s Q : Nat) : Prop := ∃ er D nd cd l, wx.cell? ⟨w3.heap.size, 0, none⟩ = some (.int .i64 er) ∧ wx.cell? ⟨w3.heap.size, 1, none⟩ = some (.slice D nd cd) ∧ Bs wx D nd cd l ∧ nd ≤ 65536 ∧ Hid (blkL er l a ⟨s, Q, false⟩ = ([], false)) ∧ Below w3.heap.size w3 wx
theorem spoil_bytes {w3 w7 : World} {a s Q : Nat} {A' D : Option Addr} {n' c' nd cd : Nat} {l : List UInt8} (hb : Below w3.heap.size w3 w7) (f0 : w7.cell? ⟨w3.heap.size, 0, none⟩ = some (.int .i64 0)) (f1 : w7.cell? ⟨w3.heap.size, 1, none⟩ = some (.slice A' n' c')) (hs : Sl byteR 1 w7 (New (w3.heap.size + 1) w7) D nd cd l) (hn : nd ≤ 65536) (hbk : blkL 0 l a ⟨s, Q, false⟩ = ([], false)) : Spoilt w3 (w7.setCell ⟨w3.heap.size, 1, none⟩ (.slice D nd cd)) a s Q :=
  ⟨0, D, nd, cd, l, put_apart f0 f1 (by simp), put_same f1, hs.move byteR_fine (fun b hb' => put_blk _ _ _ _ (by have := hb'.1; show b ≠ w3.heap.size; omega)) (fun b hb' => by show b < (w7.setCell _ _).heap.size; rw [set_size]; exact hb'.2), hn, hbk, hb.setCell (Nat.le_refl _) _⟩

set_option maxHeartbeats 8000000 in
theorem law_entryTells {w : World} {A B : Option Addr} {n c m cb : Nat} {b d : List UInt8} (addr : Int) (haddr : InI addr) (stamp : Int) (hstamp : InI stamp) (hl : Bs w A n c b) (hd : Bs w B m cb d) (how : Int) (hhow : InI how) (nn : Int) (hnn : InI nn) :
    Calls Try.prog 18 #[.int .i64 addr, .int .i64 stamp, .slice A n c, .slice B m cb, .int .i64 how, .int .i64 nn] w fun e w' => e = .returned (.bool true) ∧ Below w.heap.size w w' := by
  by_cases h8 : n = 8
  · by_cases m8 : m = 8
    · subst h8
      subst m8
      obtain ⟨a, hae, ha⟩ := um_is addr 60000 (by omega) (by omega)
      obtain ⟨s', hse, hs⟩ := um_is stamp 1000000 (by omega) (by omega)
      obtain ⟨q', hqe, hq⟩ := um_is nn 1000 (by omega) (by omega)
      obtain ⟨s, hss⟩ : ∃ s, s = s' + 1 := ⟨_, rfl⟩
      obtain ⟨q, hqq⟩ : ∃ q, q = q' + 1 := ⟨_, rfl⟩
      have hae' : wrap64 ((IntKind.u64.wrap addr).tmod 60000) = (a : Int) := hae
      have hse' : 1 + wrap64 ((IntKind.u64.wrap stamp).tmod 1000000) = (s : Int) := by
        have h : wrap64 ((IntKind.u64.wrap stamp).tmod 1000000) = (s' : Int) := hse
        rw [h]; omega
      have hqe' : 1 + wrap64 ((IntKind.u64.wrap nn).tmod 1000) = (q : Int) := by
        have h : wrap64 ((IntKind.u64.wrap nn).tmod 1000) = (q' : Int) := hqe
        rw [h]; omega
      have hs1 : 1 ≤ s := by omega
      have hs2 : s ≤ 1000000 := by omega
      have hq1 : 1 ≤ q := by omega
      have hq2 : q ≤ 1000 := by omega
      have hb8 : b.length = 8 := hl.len
      have hd8 : d.length = 8 := hd.len
      obtain ⟨Q, hQ⟩ : ∃ Q, Q = crc b := ⟨_, rfl⟩
      have y1 : blkL 0 (sealL a s b) a ⟨s, Q, false⟩ = (b, true) := by rw [blk_seal (by omega) (by omega) (by omega), if_pos ⟨rfl, rfl, hb8, by rw [hQ]⟩]
      have hmk := emake_ok s (by omega) hl rfl
      rw [← hQ] at hmk
      have HMK := hide hmk
      have Y1 := hide y1
      have HB8 := hide hb8
      have HD8 := hide hd8
      obtain ⟨h, hh⟩ : ∃ h, (IntKind.u64.wrap how).tmod 6 = h := ⟨_, rfl⟩
      have h6 := u6_cases how
      rw [hh] at h6
      have H6 := hide h6
      have HSS := hide hss
      clear hae hse hqe hss hqq hQ y1 hmk hb8 hd8 hs hq h6
      go_enter Try.func18, Try.ntmps18
      go_wp2_with fail
      refine HMK.out.mono ?_
      rintro e w1 ⟨rfl, hb1⟩
      have hb2 := alloc_below w1 (.cells #[.int .i64 s, .int .i64 Q, .bool false] 54)
      have hl2 := hl.on byteR_fine (th hb1 hb2)
      have hd2 := hd.on byteR_fine (th hb1 hb2)
      go_wp2_with fail
      refine (make_ok hl2 a s (by omega) (by omega) (by omega)).mono ?_
      rintro e w3 ⟨V3, c3, rfl, ho3, hb3⟩
      have hb23 := th hb1 (th hb2 hb3)
      have bt : ∀ W, Below w3.heap.size w3 W → W.cell? ⟨w1.heap.size, 0, none⟩ = some (.int .i64 s) ∧ W.cell? ⟨w1.heap.size, 1, none⟩ = some (.int .i64 Q) ∧ W.cell? ⟨w1.heap.size, 2, none⟩ = some (.bool false) := fun W hW => ⟨box_cell (th hb3 hW) 0 _ rfl, box_cell (th hb3 hW) 1 _ rfl, box_cell (th hb3 hW) 2 _ rfl⟩
      have BT := hide bt
      have hb4 := alloc_below w3 (.cells #[.int .i64 0, .slice V3 (8 + 11) c3] 85)
      have hr4 := (ho3.read byteR_fine).on byteR_fine hb4
      have hl4 := hl2.on byteR_fine (th hb3 hb4)
      have hd4 := hd2.on byteR_fine (th hb3 hb4)
      obtain ⟨k0, k1, k2⟩ := BT.out _ hb4
      clear bt
      go_wp2_with fail
      refine (eblock_is b true hr4 (by omega) Y1.out).mono ?_
      rintro e w5 ⟨V5, n5, c5, rfl, hs5, hb5⟩
      have hl5 := hl4.on byteR_fine hb5
      have HBY := hide (bytes_same b hs5 hl5 (by have := hs5.len; have := HB8.out; omega))
      go_wp2_with fail
      refine HBY.out.mono ?_
      rintro e w6 ⟨rfl, hb6⟩
      have hb46 := th hb5 hb6
      have hb36 := th hb4 hb46
      have hl6 := hl5.on byteR_fine hb6
      have hd6 := hd4.on byteR_fine hb46
      have hr6 := hr4.on byteR_fine hb46
      have g0 := box_cell hb46 0 _ rfl
      have g1 := box_cell hb46 1 _ rfl
      have gf := box_free hb46 0
      have gf1 := box_free hb46 1
      clear HBY
      go_upto_block 0 with fail
      clear hh
      have hb34 : Below w3.heap.size w3 w6 := hb36
      have hw34 : w3.heap.size + 1 ≤ w6.heap.size := Nat.le_trans (by simp) hb46.size
      go_cut [16] (fun v wx => v = .int .i64 0 ∧ Spoilt w3 wx a s Q)
      case first =>
        rcases H6.out with rfl | rfl | rfl | rfl | rfl | rfl
        · obtain ⟨s1, hse1⟩ : ∃ s1 : Nat, s = s1 + 1 := ⟨s - 1, by omega⟩
          have e1 : (s : Int) - 1 = (s1 : Int) := by omega
          have HM := hide (make_ok hd6 a s1 (by omega) (by omega) (by omega))
          have hk : blkL 0 (sealL a s1 d) a ⟨s, Q, false⟩ = ([], false) := by rw [blk_seal (by have := HD8.out; omega) (by omega) (by omega), if_neg (fun h => by have h2 : (s1 : Int) = (s : Int) := h.2.1; omega)]
          have HK := hide hk
          clear hse1 hk
          go_wp2_with fail
          refine HM.out.mono ?_
          rintro e w7 ⟨V7, c7, rfl, ho7, hb7⟩
          have f0 := box_cell (th hb46 hb7) 0 _ rfl
          have f1 := box_cell (th hb46 hb7) 1 _ rfl
          have ff := box_free (th hb46 hb7) 1
          go_wp2_with fail
          go_meet
          exact ⟨rfl, spoil_bytes (hb34.trans (hb7.mono hb34.size)) f0 f1 (ho7.new_ byteR_fine hw34 hw34) (by omega) HK.out⟩
        · obtain ⟨a1, hae1⟩ : ∃ a1 : Nat, a1 = a + q := ⟨_, rfl⟩
          have e1 : (a : Int) + (q : Int) = (a1 : Int) := by omega
          have HM := hide (make_ok hl6 a1 s (by omega) (by omega) (by omega))
          have hk : blkL 0 (sealL a1 s b) a ⟨s, Q, false⟩ = ([], false) := by rw [blk_seal (by have := HB8.out; omega) (by omega) (by omega), if_neg (fun h => by have h2 : (a1 : Int) = (a : Int) := h.1; omega)]
          have HK := hide hk
          clear hae1 hk
          go_wp2_with fail
          refine HM.out.mono ?_
          rintro e w7 ⟨V7, c7, rfl, ho7, hb7⟩
          have f0 := box_cell (th hb46 hb7) 0 _ rfl
          have f1 := box_cell (th hb46 hb7) 1 _ rfl
          have ff := box_free (th hb46 hb7) 1
          go_wp2_with fail
          go_meet
          exact ⟨rfl, spoil_bytes (hb34.trans (hb7.mono hb34.size)) f0 f1 (ho7.new_ byteR_fine hw34 hw34) (by omega) HK.out⟩
        · have HM := hide (flip_any hr6 (by omega) (q : Int) (q : Int) (show InI (q : Int) from ⟨by omega, by omega⟩) (show InI (q : Int) from ⟨by omega, by omega⟩))
          have hk : blkL 0 (flipL (sealL a s b) q q) a ⟨s, Q, false⟩ = ([], false) := blk_no (.inr (by rw [seal_bent (by have := HB8.out; omega)]; decide))
          have HK := hide hk
          clear hk
          go_wp2_with fail
          refine HM.out.mono ?_
          rintro e w7 ⟨V7, c7, rfl, ho7, hb7⟩
          have f0 := box_cell (th hb46 hb7) 0 _ rfl
          have f1 := box_cell (th hb46 hb7) 1 _ rfl
          have ff := box_free (th hb46 hb7) 1
          go_wp2_with fail
          go_meet
          exact ⟨rfl, spoil_bytes (hb34.trans (hb7.mono hb34.size)) f0 f1 (ho7.new_ byteR_fine hw34 hw34) (by omega) HK.out⟩
        · have hk : blkL 6 (sealL a s b) a ⟨s, Q, false⟩ = ([], false) := blk_no (.inl (by omega))
          have HK := hide hk
          clear hk
          go_wp2_with fail
          go_meet
          exact ⟨rfl, 6, V3, 8 + 11, c3, _, put_same g0, put_apart g1 g0 (by simp), (ho3.read byteR_fine).on byteR_fine (hb34.setCell (Nat.le_refl _) _), by omega, HK.out, hb34.setCell (Nat.le_refl _) _⟩
        · have hd7 := hd6.init_ (show 7 ≤ 8 by omega)
          have HM := hide (make_ok hd7 a s (by omega) (by omega) (by omega))
          have hk : blkL 0 (sealL a s (d.take 7)) a ⟨s, Q, false⟩ = ([], false) := by
            have h7 : (d.take 7).length = 7 := by rw [List.length_take, HD8.out]; rfl
            rw [blk_seal (by omega) (by omega) (by omega), if_neg (fun h => by have := h.2.2.1; omega)]
          have HK := hide hk
          have hcap := hd6.cap
          clear hk
          go_wp2_with fail
          refine HM.out.mono ?_
          rintro e w7 ⟨V7, c7, rfl, ho7, hb7⟩
          have f0 := box_cell (th hb46 hb7) 0 _ rfl
          have f1 := box_cell (th hb46 hb7) 1 _ rfl
          have ff := box_free (th hb46 hb7) 1
          go_wp2_with fail
          go_meet
          exact ⟨rfl, spoil_bytes (hb34.trans (hb7.mono hb34.size)) f0 f1 (ho7.new_ byteR_fine hw34 hw34) (by omega) HK.out⟩
        · have hk : blkL 0 ([] : List UInt8) a ⟨s, Q, false⟩ = ([], false) := blk_no (.inr (by decide))
          have HK := hide hk
          clear hk
          go_wp2_with fail
          go_meet
          exact ⟨rfl, spoil_bytes hb34 g0 g1 (Sl.nil_ _) (by omega) HK.out⟩
      case rest =>
        obtain ⟨rfl, er, D, nd, cd, l, g0', g1', hsD, hnd, hbk, hb37⟩ := hcut
        obtain ⟨j0, j1, j2⟩ := BT.out _ hb37
        have HE := hide (eblock_is [] false hsD hnd hbk.out)
        go_wp2_with fail
        refine HE.out.mono ?_
        rintro e w8 ⟨V8, n8, c8, rfl, hs8, hb8⟩
        have hn8 := hs8.len
        obtain rfl : n8 = 0 := by simpa using hn8.symm
        clear hn8
        go_wp2_with fail
        refine (wakes12 _).mono ?_
        rintro e w9 ⟨rfl, hb9⟩
        go_wp2_with fail
        go_ret
        exact ⟨rfl, (th hb23 (hb37.trans ((th hb8 hb9).mono hb37.size)))⟩
    · have e8 : ((m : Int) != 8) = true := by simp; omega
      subst h8
      clear m8
      go_enter Try.func18, Try.ntmps18
      go_wp2_with fail
      go_ret
      exact ⟨rfl, Below.refl _ _⟩
  · have e8 : ((n : Int) != 8) = true := by simp; omega
    clear h8
    go_enter Try.func18, Try.ntmps18
    go_wp2_with fail
    go_ret
    exact ⟨rfl, Below.refl _ _⟩

end Go.Proofs.Ytnieiobpbioeiaa
