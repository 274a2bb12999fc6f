/-
  The walk of the law EntryTables.
-/
import Derived.Test.YtnieiobpbioeiaaEntT
import Derived.Test.YtnieiobpbioeiaaLawE1
import Derived.Test.YtnieiobpbioeiaaTabR
import Derived.Test.YtnieiobpbioeiaaZRef2
import Derived.Test.YtnieiobpbioeiaaZKeep
import Derived.Deep.CutBlock
import Derived.Deep.RegionLaw
namespace Go.Proofs.Ytnieiobpbioeiaa
open Go.RowKit
set_option linter.unusedVariables false
set_option maxRecDepth 100000

theorem u4x_cases (x : Int) : (IntKind.u64.wrap x).tmod 4 = 0 ∨ (IntKind.u64.wrap x).tmod 4 = 1 ∨ (IntKind.u64.wrap x).tmod 4 = 2 ∨ (IntKind.u64.wrap x).tmod 4 = 3 := by
  have h0 : 0 ≤ IntKind.u64.wrap x := by rw [IntKind.wrap_u64]; exact Int.emod_nonneg _ (by omega)
  rw [Int.tmod_eq_emod_of_nonneg h0]
  omega

theorem et_no {A : Option Addr} {n c : Nat} {l : List UInt8} {w : World} (g : Geo) {err a s : Int} (hl : Bs w A n c l) (hn : n ≤ 65536) (h : payL err l a s = ([], false)) :
    Calls Try.prog 70 #[g.v, .agg #[.int .i64 err, .slice A n c], .int .i64 a, .int .i64 s] w fun e w' => ∃ A' n' c', e = .returned (.tuple #[.agg #[.slice A' n' c'], .bool false]) ∧ Below w.heap.size w w' := by
  have h2 := etable_any g err a s hl hn
  rw [h] at h2
  refine h2.mono ?_
  rintro e w' ⟨hb, A', n', c', T, b, rfl, hs, hq⟩
  unfold EtQ at hq
  rcases hq with ⟨h1, _⟩ | ⟨_, rfl, _⟩
  · cases h1
  · exact ⟨A', n', c', rfl, hb⟩
theorem read_tabL {d : Nat} {L : List Ent} (hT : TabOk (d : Int) L) : ReadOk (d : Int) (tabL L) ∧ tabOf (d + 1) (tabL L) = L := by
  have hl : L.length = d + 1 := by have := hT.1; omega
  have h1 : tabOf (d + 1) (tabL L) = L := by
    have := tabOf_L hT.2.1 []
    rwa [List.append_nil, hl] at this
  exact ⟨(read_tab (by rw [tabL_len, hl]; exact Nat.le_refl _)).2 ⟨by rw [h1]; exact hT, by rw [h1]⟩, h1⟩
theorem et_yes {A : Option Addr} {n c d : Nat} {l : List UInt8} {L : List Ent} {w : World} {g : Geo} {err a s : Int} (hl : Bs w A n c l) (hn : n ≤ 65536) (h : payL err l a s = (tabL L, true)) (hG : GeoOk g) (hd : g.data = (d : Int)) (hT : TabOk (d : Int) L) :
    Calls Try.prog 70 #[g.v, .agg #[.int .i64 err, .slice A n c], .int .i64 a, .int .i64 s] w fun e w' => ∃ A' n' c', e = .returned (.tuple #[.agg #[.slice A' n' c'], .bool true]) ∧ Sl entR 3 w' (Old w') A' n' c' L ∧ Below w.heap.size w w' := by
  have h2 := etable_any g err a s hl hn
  rw [h] at h2
  refine h2.mono ?_
  rintro e w' ⟨hb, A', n', c', T, b, rfl, hs, hq⟩
  obtain ⟨r1, r2⟩ := read_tabL hT
  unfold EtQ at hq
  dsimp only at hq
  rw [hd, show ((d : Int) + 1).toNat = d + 1 by omega] at hq
  rcases hq with ⟨_, _, _, rfl, rfl⟩ | ⟨hno, _⟩
  · rw [r2] at hs
    exact ⟨A', n', c', rfl, hs, hb⟩
  · exact absurd ⟨rfl, hG, r1⟩ hno
theorem pay_no {err : Int} {b : List UInt8} {a s : Int} (h : err ≠ 0 ∨ (openS b).2 ≠ 0) : payL err b a s = ([], false) := by
  unfold payL
  rw [if_neg]
  rintro ⟨h1, h2, _⟩
  rcases h with h | h
  · exact h h1
  · exact h h2

set_option maxHeartbeats 8000000 in
theorem entryTables_core {w : World} {A : Option Addr} {n c : Nat} {L : List Ent} (zones : Int) (hzones : InI zones) (data : Int) (hdata : InI data) (ha : Sl entR 3 w (Old w) A n c L) (addr : Int) (haddr : InI addr) (root : Int) (hroot : InI root) (how : Int) (hhow : InI how) (nn : Int) (hnn : InI nn) :
    Calls Try.prog 24 #[.int .i64 zones, .int .i64 data, .agg #[.slice A n c], .int .i64 addr, .int .i64 root, .int .i64 how, .int .i64 nn] w fun e w' => e = .returned (.bool true) ∧ Below w.heap.size w w' := by
  have hb0 := alloc_below w (.cells #[.slice A n c] 26)
  have ha0 := ha.on entR_fine hb0
  have hsome := some_any zones data 1 0 0 hzones hdata ⟨by omega, by omega⟩ ⟨by omega, by omega⟩ ⟨by omega, by omega⟩ (w.alloc (.cells #[.slice A n c] 26))
  obtain ⟨G, hGe⟩ : ∃ G, G = someG zones data 1 0 0 := ⟨_, rfl⟩
  have hG : GeoOk G := by rw [hGe]; exact someG_ok _ _ _ _ _
  rw [← hGe] at hsome
  clear hGe
  obtain ⟨gz, gd, gs, gl, ga⟩ := G
  obtain ⟨d, rfl⟩ : ∃ d : Nat, gd = (d : Int) := ⟨gd.toNat, by have := hG.2.1; dsimp only at this; omega⟩
  have hd4 : d ≤ 4 := by have := hG.2.1; dsimp only at this; omega
  obtain ⟨a, hae, ha6⟩ := um_is addr 60000 (by omega) (by omega)
  obtain ⟨s, hse, hs6⟩ := um_is root 1000000 (by omega) (by omega)
  obtain ⟨q', hqe, hq6⟩ := um_is nn 1000 (by omega) (by omega)
  obtain ⟨q, hqq⟩ : ∃ q, q = q' + 1 := ⟨_, rfl⟩
  have hae' : wrap64 ((IntKind.u64.wrap addr).tmod 60000) = (a : Int) := hae
  have hse' : wrap64 ((IntKind.u64.wrap root).tmod 1000000) = (s : Int) := hse
  have hqe' : 1 + wrap64 ((IntKind.u64.wrap nn).tmod 1000) = (q : Int) := by
    have h : wrap64 ((IntKind.u64.wrap nn).tmod 1000) = (q' : Int) := hqe
    rw [h]; omega
  have hq1 : 1 ≤ q := by omega
  have hq2 : q ≤ 1000 := by omega
  obtain ⟨h, hh⟩ : ∃ h, (IntKind.u64.wrap how).tmod 4 = h := ⟨_, rfl⟩
  have h4 := u4x_cases how
  rw [hh] at h4
  have H4 := hide h4
  unfold Geo.v at hsome
  dsimp only at hsome
  have HSM := hide hsome
  have HG := hide hG
  clear hsome hG hae hse hqe hqq hq6 h4
  go_enter Try.func24, Try.ntmps24
  go_wp2_with fail
  refine HSM.out.mono ?_
  rintro e w1 ⟨rfl, hb1⟩
  have hb2 := alloc_below w1 (.cells #[.int .i64 gz, .int .i64 d, .int .i64 gs, .int .i64 gl, .int .i64 ga] 23)
  have bx : ∀ W, Below (w1.alloc (.cells #[.int .i64 gz, .int .i64 d, .int .i64 gs, .int .i64 gl, .int .i64 ga] 23)).heap.size (w1.alloc (.cells #[.int .i64 gz, .int .i64 d, .int .i64 gs, .int .i64 gl, .int .i64 ga] 23)) W →
      W.cell? ⟨w1.heap.size, 0, none⟩ = some (.int .i64 gz) ∧ W.cell? ⟨w1.heap.size, 1, none⟩ = some (.int .i64 d) ∧ W.cell? ⟨w1.heap.size, 2, none⟩ = some (.int .i64 gs) ∧ W.cell? ⟨w1.heap.size, 3, none⟩ = some (.int .i64 gl) ∧ W.cell? ⟨w1.heap.size, 4, none⟩ = some (.int .i64 ga) ∧ W.cell? ⟨w.heap.size, 0, none⟩ = some (.slice A n c) ∧ Below w.heap.size w W := fun W hW =>
    ⟨box_cell hW 0 _ rfl, box_cell hW 1 _ rfl, box_cell hW 2 _ rfl, box_cell hW 3 _ rfl, box_cell hW 4 _ rfl, box_cell (th hb1 (th hb2 hW)) 0 _ rfl, th hb0 (th hb1 (th hb2 hW))⟩
  have BX := hide bx
  have ha2 := ha0.on entR_fine (th hb1 hb2)
  obtain ⟨p0, p1, p2, p3, p4, pt, hbp⟩ := BX.out _ (Below.refl _ _)
  clear bx
  by_cases hn : n ≤ 20
  · have hta := rtab_any A n c L ⟨gz, d, gs, gl, ga⟩ HG.out _ ha2 (by omega)
    unfold Geo.v at hta
    dsimp only at hta
    have HTA := hide hta
    clear hta
    go_wp2_with fail
    refine HTA.out.mono ?_
    rintro e w3 ⟨rfl, hb3⟩
    by_cases hT : TabOk (d : Int) L
    · rw [decide_eq_true hT]
      have ha3 := ha2.on entR_fine hb3
      obtain ⟨x0, x1, x2, x3, x4, xt, _⟩ := BX.out w3 hb3
      have HT := hide hT
      have HTB := hide (rtbytes_any A n c L w3 ha3 (by omega) hT.2.1)
      clear hT
      go_wp2_with fail
      refine HTB.out.mono ?_
      rintro e w4 ⟨V4, q4, c4, rfl, hs4, hb4⟩
      have hq45 : q4 ≤ 45 := by have h1 := hs4.len; rw [tabL_len] at h1; have h2 := HT.out.1; omega
      have hlen96 : (tabL L).length ≤ 96 := by rw [hs4.len]; omega
      have HL96 := hide hlen96
      clear hlen96
      go_wp2_with fail
      refine (make_ok hs4 a s (by omega) (by omega) (by omega)).mono ?_
      rintro e w5 ⟨V5, c5, rfl, ho5, hb5⟩
      have hb25 := th hb3 (th hb4 hb5)
      have hr5 := ho5.read byteR_fine
      obtain ⟨y0, y1, y2, y3, y4, yt, _⟩ := BX.out w5 hb25
      have hey := et_yes (g := ⟨gz, d, gs, gl, ga⟩) (a := (a : Int)) (s := (s : Int)) hr5 (by omega) (by rw [pay_seal HL96.out (by omega) (by omega), if_pos ⟨rfl, rfl⟩]) HG.out rfl HT.out
      unfold Geo.v at hey
      dsimp only at hey
      have HEY := hide hey
      clear hey
      go_wp2_with fail
      refine HEY.out.mono ?_
      rintro e w6 ⟨U6, n6, c6, rfl, hu6, hb6⟩
      have hE7 := alloc_below w6 (.cells #[.slice U6 n6 c6] 26)
      have hb27 := th hb25 (th hb6 hE7)
      have hu7 := hu6.on entR_fine hE7
      have ha7 := ha3.on entR_fine (th hb4 (th hb5 (th hb6 hE7)))
      obtain ⟨z0, z1, z2, z3, z4, zt, _⟩ := BX.out _ hb27
      have htt := table_any U6 A n6 c6 n c L L _ hu7 ha7 (by have h1 := hu6.len; have h2 := ha.len; omega)
      rw [decide_eq_true rfl] at htt
      have HTT := hide htt
      clear htt
      go_wp2_with fail
      refine HTT.out.mono ?_
      rintro e w8 ⟨rfl, hb8⟩
      have hb28 := th hb27 hb8
      have hr8 := hr5.on byteR_fine (th hb6 (th hE7 hb8))
      obtain ⟨k0, k1, k2, k3, k4, kt, _⟩ := BX.out w8 hb28
      have hno : ∀ (W : World) (D : Option Addr) (nd cd : Nat) (l : List UInt8) (err a' s' : Int), Bs W D nd cd l → nd ≤ 65536 → payL err l a' s' = ([], false) → Calls Try.prog 70 #[Geo.v ⟨gz, d, gs, gl, ga⟩, .agg #[.int .i64 err, .slice D nd cd], .int .i64 a', .int .i64 s'] W fun e w' => ∃ A' n' c', e = .returned (.tuple #[.agg #[.slice A' n' c'], .bool false]) ∧ Below W.heap.size W w' := fun W D nd cd l err a' s' h1 h2 h3 => et_no _ h1 h2 h3
      unfold Geo.v at hno
      dsimp only at hno
      have HNO := hide hno
      clear hno HTT HEY
      go_upto_block 0 with fail
      clear hh
      go_cut [19] (fun v wx => v = .bool false ∧ Below w8.heap.size w8 wx)
      case first =>
        rcases H4.out with rfl | rfl | rfl | rfl
        · obtain ⟨s1, hs1⟩ : ∃ s1 : Nat, s1 = s + q := ⟨_, rfl⟩
          have e1 : (s : Int) + (q : Int) = (s1 : Int) := by omega
          have HC := hide (HNO.out w8 _ _ _ _ 0 (a : Int) (s1 : Int) hr8 (by omega) (by rw [pay_seal HL96.out (by omega) (by omega), if_neg (fun h => by have h2 := h.2; omega)]))
          clear hs1
          go_wp2_with fail
          refine HC.out.mono ?_
          rintro e w9 ⟨A9, n9, c9, rfl, hb9⟩
          go_wp2_with fail
          go_meet
          exact ⟨rfl, hb9⟩
        · obtain ⟨a1, ha1⟩ : ∃ a1 : Nat, a1 = a + q := ⟨_, rfl⟩
          have e1 : (a : Int) + (q : Int) = (a1 : Int) := by omega
          have HC := hide (HNO.out w8 _ _ _ _ 0 (a1 : Int) (s : Int) hr8 (by omega) (by rw [pay_seal HL96.out (by omega) (by omega), if_neg (fun h => by have h2 := h.1; omega)]))
          clear ha1
          go_wp2_with fail
          refine HC.out.mono ?_
          rintro e w9 ⟨A9, n9, c9, rfl, hb9⟩
          go_wp2_with fail
          go_meet
          exact ⟨rfl, hb9⟩
        · have hr8d : Bs w8.drew V5 (q4 + 11) c5 (sealL a s (tabL L)) := hr8.move byteR_fine (fun _ _ => rfl) (fun _ h => h)
          have HF := hide (flip_any hr8d (by omega) (q : Int) (q : Int) (show InI (q : Int) from ⟨by omega, by omega⟩) (show InI (q : Int) from ⟨by omega, by omega⟩))
          have hk : payL 0 (flipL (sealL a s (tabL L)) q q) a s = ([], false) := by
            refine pay_no (.inr ?_)
            have hlen := seal_len a s (tabL L)
            rw [show openS (flipL (sealL a s (tabL L)) q q) = (noSec, 5) from open_bent HL96.out (oddN_lt _) (oddN_odd _) (flipAt_lt (by omega) _)]
            decide
          have HK := hide hk
          clear hk
          go_upto_region 16 with fail
          go_region_law (first
            | (go_simp; go_at_call 48; refine Calls.mono HF.out ?_; rintro e w9 ⟨V9, c9, rfl, ho9, hb9'⟩; have hb9 := undrew hb9'; obtain ⟨j0, j1, j2, j3, j4, jt, _⟩ := BX.out w9 (th hb28 hb9))
            | (go_simp; go_at_call 70; refine Calls.mono (HNO.out w9 _ _ _ _ 0 _ _ (ho9.read byteR_fine) (by omega) HK.out) ?_; rintro e w10 ⟨A10, n10, c10, rfl, hb10⟩))
          all_goals (go_wp2_with fail; go_meet; exact ⟨rfl, th hb9 hb10⟩)
        · have HC := hide (HNO.out w8 _ _ _ _ 6 (a : Int) (s : Int) hr8 (by omega) (pay_no (.inl (by omega))))
          go_wp2_with fail
          refine HC.out.mono ?_
          rintro e w9 ⟨A9, n9, c9, rfl, hb9⟩
          go_wp2_with fail
          go_meet
          exact ⟨rfl, hb9⟩
      case rest =>
        obtain ⟨rfl, hb9⟩ := hcut
        go_wp2_with fail
        refine (wakes12 _).mono ?_
        rintro e w10 ⟨rfl, hb10⟩
        go_wp2_with fail
        go_ret
        exact ⟨rfl, (BX.out _ (th hb28 (th hb9 hb10))).2.2.2.2.2.2⟩
    · rw [decide_eq_false hT]
      clear hT
      go_wp2_with fail
      go_ret
      exact ⟨rfl, (BX.out _ hb3).2.2.2.2.2.2⟩
  · go_wp2_with fail
    go_ret
    exact ⟨rfl, hbp⟩

theorem law_entryTables {w : World} {V2 : Value} {L : List Ent} (zones : Int) (hzones : InI zones) (data : Int) (hdata : InI data) (ht : ArgR tabR w V2 L) (addr : Int) (haddr : InI addr) (root : Int) (hroot : InI root) (how : Int) (hhow : InI how) (nn : Int) (hnn : InI nn) :
    Calls Try.prog 24 #[.int .i64 zones, .int .i64 data, V2, .int .i64 addr, .int .i64 root, .int .i64 how, .int .i64 nn] w fun e w' => e = .returned (.bool true) ∧ Below w.heap.size w w' := by
  obtain ⟨A, n, c, rfl, ha⟩ := tab_form ht
  exact entryTables_core zones hzones data hdata ha addr haddr root hroot how hhow nn hnn

end Go.Proofs.Ytnieiobpbioeiaa
