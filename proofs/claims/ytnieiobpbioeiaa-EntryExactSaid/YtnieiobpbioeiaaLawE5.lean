/-
  The walk of the law EntryExact.
-/
import Derived.Test.YtnieiobpbioeiaaEntU
import Derived.Test.YtnieiobpbioeiaaLawE1
import Derived.Test.YtnieiobpbioeiaaZKeep
import Derived.Deep.DeepCutAuto
import Derived.Deep.RegionLaw
namespace Go.Proofs.Ytnieiobpbioeiaa
open Go.RowKit
set_option linter.unusedVariables false
set_option maxRecDepth 100000

/-- Entries stay while a cell that holds a slice is stored into. -/
theorem ent_put {w : World} {A A' : Option Addr} {n c N k n' c' : Nat} {L : List Ent} {v : Value} (h : Sl entR 3 w (Old w) A n c L) (hc : w.cell? ⟨N, k, none⟩ = some (.slice A' n' c')) : Sl entR 3 (w.setCell ⟨N, k, none⟩ v) (Old (w.setCell ⟨N, k, none⟩ v)) A n c L := by
  refine ⟨h.len, h.cap, fun hn => ?_⟩
  obtain ⟨ad, e, hb, hx⟩ := h.at0 hn
  refine ⟨ad, e, by show ad.block < (w.setCell _ _).heap.size; rw [set_size]; exact hb, fun i x hi => ?_⟩
  obtain ⟨cs, ⟨rfl, h1, h2⟩, hat⟩ := hx i x hi
  refine ⟨_, ⟨rfl, h1, h2⟩, fun j y hy => put_apart (hat j y hy) hc ?_⟩
  rintro rfl
  have hm := List.mem_of_getElem? hy
  simp at hm
theorem blkL_len {err : Int} {b : List UInt8} {a : Int} {e : Ent} : (blkL err b a e).1.length ≤ 96 := by
  unfold blkL
  split
  · exact payL_len
  · simp
theorem etq_fun {g : Geo} {P : List UInt8 × Bool} {T T' : List Ent} {b b' : Bool} (h : EtQ g P T b) (h' : EtQ g P T' b') : T = T' ∧ b = b' := by
  unfold EtQ at h h'
  rcases h with ⟨h1, h2, h3, rfl, rfl⟩ | ⟨h0, rfl, rfl⟩
  · rcases h' with ⟨_, _, _, rfl, rfl⟩ | ⟨h0, _⟩
    · exact ⟨rfl, rfl⟩
    · exact absurd ⟨h1, h2, h3⟩ h0
  · rcases h' with ⟨h1, h2, h3, _⟩ | ⟨_, rfl, rfl⟩
    · exact absurd ⟨h1, h2, h3⟩ h0
    · exact ⟨rfl, rfl⟩

set_option maxHeartbeats 8000000 in
theorem entryExact_core {w : World} {A B : Option Addr} {n c m cb : Nat} {l b : List UInt8} (g : Geo) (err : Int) (hl : Bs w A n c l) (addr : Int) (x : Ent) (root : Int) (hb : Bs w B m cb b) :
    Calls Try.prog 23 #[g.v, .agg #[.int .i64 err, .slice A n c], .int .i64 addr, x.v, .int .i64 root, .slice B m cb] w fun e w' => e = .returned (.bool true) ∧ Below w.heap.size w w' := by
  obtain ⟨xs, xc, xl⟩ := x
  obtain ⟨W0, hW0⟩ : ∃ W0, W0 = ((w.alloc (.cells #[.int .i64 g.zones, .int .i64 g.data, .int .i64 g.spares, .int .i64 g.slots, .int .i64 g.anchors] 23)).alloc (.cells #[.int .i64 err, .slice A n c] 85)).alloc (.cells #[.int .i64 xs, .int .i64 xc, .bool xl] 54) := ⟨_, rfl⟩
  have hS : W0.heap.size = w.heap.size + 1 + 1 + 1 := by rw [hW0]; simp
  have hb0 : Below w.heap.size w W0 := by rw [hW0]; exact ((alloc_below w _).alloc (by simp) _).alloc (by simp; omega) _
  have bx : ∀ W, Below W0.heap.size W0 W →
      (W.cell? ⟨w.heap.size, 0, none⟩ = some (.int .i64 g.zones) ∧ W.cell? ⟨w.heap.size, 1, none⟩ = some (.int .i64 g.data) ∧ W.cell? ⟨w.heap.size, 2, none⟩ = some (.int .i64 g.spares) ∧ W.cell? ⟨w.heap.size, 3, none⟩ = some (.int .i64 g.slots) ∧ W.cell? ⟨w.heap.size, 4, none⟩ = some (.int .i64 g.anchors)) ∧ (W.cell? ⟨w.heap.size + 1, 0, none⟩ = some (.int .i64 err) ∧ W.cell? ⟨w.heap.size + 1, 1, none⟩ = some (.slice A n c)) ∧ (W.cell? ⟨w.heap.size + 1 + 1, 0, none⟩ = some (.int .i64 xs) ∧ W.cell? ⟨w.heap.size + 1 + 1, 1, none⟩ = some (.int .i64 xc) ∧ W.cell? ⟨w.heap.size + 1 + 1, 2, none⟩ = some (.bool xl)) ∧ Below w.heap.size w W := fun W hW => by
    subst hW0
    have h1 := th (alloc_below _ _) hW
    have h := th (alloc_below _ _) h1
    exact ⟨⟨box_cell h 0 _ rfl, box_cell h 1 _ rfl, box_cell h 2 _ rfl, box_cell h 3 _ rfl, box_cell h 4 _ rfl⟩, ⟨bx_at2 (by simp) h1 0 _ rfl, bx_at2 (by simp) h1 1 _ rfl⟩, ⟨bx_at2 (by simp) hW 0 _ rfl, bx_at2 (by simp) hW 1 _ rfl, bx_at2 (by simp) hW 2 _ rfl⟩, th (alloc_below _ _) h⟩
  have BX := hide bx
  have HS := hide hS
  have HW0 := hide hW0
  have hl0 := hl.on byteR_fine hb0
  have hbb0 := hb.on byteR_fine hb0
  have hE1 := alloc_below W0 (.cells #[.int .i64 err, .slice A n c] 85)
  have hcg : (W0.alloc (.cells #[.int .i64 err, .slice A n c] 85)).cell? ⟨w.heap.size + 1 + 1 + 1, 1, none⟩ = some (.slice A n c) := bx_at2 hS (Below.refl _ _) 1 _ rfl
  have HHV := hide (heavy9_one hcg)
  have hgc := fun w => rgeo_any g w
  unfold Geo.v at hgc
  have HGC := hide hgc
  have hl1 := hl0.on byteR_fine hE1
  have hbb1 := hbb0.on byteR_fine hE1
  have hmlen := hb.len
  have HML := hide hmlen
  rw [hW0] at HHV
  unfold Geo.v Ent.v
  dsimp only
  clear bx hS hW0 hcg hgc hmlen
  by_cases h300 : n ≤ 300
  · rw [decide_eq_false (show ¬ 300 < n by omega)] at HHV
    by_cases h100 : m ≤ 100
    · go_enter Try.func23, Try.ntmps23
      go_wp2_with fail
      refine HHV.out.mono ?_
      rintro e w1 ⟨rfl, rfl⟩
      rw [← HW0.out]
      obtain ⟨⟨p0, p1, p2, p3, p4⟩, ⟨q0, q1⟩, ⟨r0, r1, r2⟩, _⟩ := BX.out _ hE1
      have HEB := hide (eblock_any err addr ⟨xs, xc, xl⟩ hl1 (by omega))
      unfold Ent.v PayPost at HEB
      obtain ⟨⟨yl, yb⟩, hP⟩ : ∃ P, P = blkL err l addr ⟨xs, xc, xl⟩ := ⟨_, rfl⟩
      rw [← hP] at HEB
      dsimp only at HEB
      have HP := hide hP
      clear hP
      go_wp2_with fail
      refine HEB.out.mono ?_
      rintro e w2 ⟨hb2, V2, n2, c2, rfl, hs2⟩
      have hb12 := th hE1 hb2
      obtain ⟨⟨p0', p1', p2', p3', p4'⟩, ⟨q0', q1'⟩, ⟨r0', r1', r2'⟩, _⟩ := BX.out _ hb12
      have hl2 := hl1.on byteR_fine hb2
      have HRB := hide (rblock_any err addr ⟨xs, xc, xl⟩ hl2 (by omega))
      unfold Ent.v PayPost at HRB
      rw [← HP.out] at HRB
      dsimp only at HRB
      go_wp2_with fail
      refine HRB.out.mono ?_
      rintro e w3 ⟨hb3, V3, n3, c3, rfl, hs3⟩
      have hb13 := th hb12 hb3
      obtain ⟨⟨s0, s1, s2, s3, s4⟩, ⟨t0, t1⟩, ⟨v0, v1, v2⟩, _⟩ := BX.out _ hb13
      have hl3 := hl2.on byteR_fine hb3
      have het := etable_any g err addr root hl3 (by omega)
      unfold Geo.v EtPost at het
      have HET := hide het
      clear het
      go_wp2_with fail
      refine HET.out.mono ?_
      rintro e w4 ⟨hb4, U4, n4, c4, T, tb, rfl, hu4, hq4⟩
      have hE5 := alloc_below w4 (.cells #[.slice U4 n4 c4] 26)
      have hb15 := th hb13 (th hb4 hE5)
      have hb35 := th hb4 hE5
      have hbb5 := hbb1.on byteR_fine (th hb2 (th hb3 hb35))
      have HQ4 := hide hq4
      have HEM := hide (emake_any root hbb5 (by omega))
      obtain ⟨⟨⟨es, ec, el⟩, ee⟩, hEm⟩ : ∃ P, P = emkE root b := ⟨_, rfl⟩
      rw [← hEm] at HEM
      unfold Ent.v at HEM
      dsimp only at HEM
      have HEMK := hide hEm
      clear hq4 hEm
      go_wp2_with fail
      refine HEM.out.mono ?_
      rintro e w6 ⟨rfl, hb6⟩
      have hE7 := alloc_below w6 (.cells #[.int .i64 es, .int .i64 ec, .bool el] 54)
      have hb57 := th hb6 hE7
      have hy7 := hs2.on byteR_fine (th hb3 (th hb35 hb57))
      have hz7 := hs3.on byteR_fine (th hb35 hb57)
      have hn2 := hs2.len
      have hy96 := blkL_len (err := err) (b := l) (a := addr) (e := ⟨xs, xc, xl⟩)
      rw [← HP.out] at hy96
      dsimp only at hy96
      have HBY := hide (bytes_same yl hy7 hz7 (by omega))
      clear hn2 hy96
      go_wp2_with fail
      refine HBY.out.mono ?_
      rintro e w8 ⟨rfl, hb8⟩
      have hE9 := alloc_below w8 (.cells #[.slice none 0 0] 26)
      have hb59 := th hb57 (th hb8 hE9)
      have hb19 := th hb15 hb59
      have ku : ∀ W, Below (w4.alloc (.cells #[.slice U4 n4 c4] 26)).heap.size (w4.alloc (.cells #[.slice U4 n4 c4] 26)) W → W.cell? ⟨w4.heap.size, 0, none⟩ = some (.slice U4 n4 c4) := fun W hW => box_cell hW 0 _ rfl
      have ke : ∀ W, Below (w6.alloc (.cells #[.int .i64 es, .int .i64 ec, .bool el] 54)).heap.size (w6.alloc (.cells #[.int .i64 es, .int .i64 ec, .bool el] 54)) W → W.cell? ⟨w6.heap.size, 0, none⟩ = some (.int .i64 es) ∧ W.cell? ⟨w6.heap.size, 1, none⟩ = some (.int .i64 ec) ∧ W.cell? ⟨w6.heap.size, 2, none⟩ = some (.bool el) := fun W hW => ⟨box_cell hW 0 _ rfl, box_cell hW 1 _ rfl, box_cell hW 2 _ rfl⟩
      have KU := hide ku
      have KE := hide ke
      have hvc : ∀ W, Below (w8.alloc (.cells #[.slice none 0 0] 26)).heap.size (w8.alloc (.cells #[.slice none 0 0] 26)) W → W.cell? ⟨w8.heap.size, 0, none⟩ = some (.slice none 0 0) ∧ W.frozen? ⟨w8.heap.size, 0, none⟩ = false := fun W hW => ⟨box_cell hW 0 _ rfl, box_free hW 0⟩
      have KV := hide hvc
      obtain ⟨⟨d0, d1, d2, d3, d4⟩, ⟨d5, d6⟩, ⟨d7, d8, d9⟩, _⟩ := BX.out _ hb19
      have hu9 := (hu4.on entR_fine hE5).on entR_fine hb59
      clear ku ke hvc
      go_wp2_with fail
      refine (HGC.out _).mono ?_
      rintro e w10 ⟨rfl, hb10⟩
      have hb110 := th hb19 hb10
      obtain ⟨⟨f0, f1, f2, f3, f4⟩, ⟨f5, f6⟩, ⟨f7, f8, f9⟩, _⟩ := BX.out _ hb110
      obtain ⟨g0, g1⟩ := KV.out _ hb10
      have hu10 := hu9.on entR_fine hb10
      have hw810 : w8.heap.size + 1 ≤ w10.heap.size := by have := hb10.size; simp at this; omega
      go_upto_if 70 with fail
      go_cut [22] (fun v wx => v = .bool tb ∧ ∃ V nv cv, wx.cell? ⟨w8.heap.size, 0, none⟩ = some (.slice V nv cv) ∧ Sl entR 3 wx (Old wx) V nv cv T ∧ Below w8.heap.size w8 wx)
      case first =>
        by_cases hG : GeoOk g
        · rw [decide_eq_true hG]
          obtain ⟨d, hd⟩ : ∃ d : Nat, g.data = (d : Int) := ⟨g.data.toNat, by have := hG.2.1; omega⟩
          have hl10 := hl3.on byteR_fine (th hb35 (th hb59 hb10))
          have hto := rtableof_any g hG hd err addr root hl10 (by omega)
          unfold Geo.v EtPost at hto
          have HTO := hide hto
          clear hto hG hd
          go_wp2_with fail
          refine HTO.out.mono ?_
          rintro e w11 ⟨hb11, V, nv, cv, T', tb', rfl, hv, hq⟩
          obtain ⟨rfl, rfl⟩ := etq_fun HQ4.out hq
          obtain ⟨h0, h1⟩ := KV.out _ (th hb10 hb11)
          have HV := hide hv
          clear hq hv
          go_wp2_with fail
          go_meet
          exact ⟨rfl, V, nv, cv, put_same h0, ent_put HV.out h0, (hE9.trans ((th hb10 hb11).mono hE9.size)).setCell (Nat.le_refl _) _⟩
        · rw [decide_eq_false hG]
          have q := HQ4.out
          unfold EtQ at q
          rcases q with ⟨_, h, _⟩ | ⟨_, rfl, rfl⟩
          · exact absurd h hG
          · clear hG
            go_wp2_with fail
            go_meet
            exact ⟨rfl, none, 0, 0, g0, Sl.nil_ _, (hE9.trans (hb10.mono hE9.size))⟩
      case rest =>
        obtain ⟨rfl, V, nv, cv, kv, hv, hb11⟩ := hcut
        have hb18 := th hb15 (th hb57 hb8)
        have hbc := hb18.trans (hb11.mono hb18.size)
        obtain ⟨_, _, _, hbw⟩ := BX.out _ hbc
        have kuc := KU.out _ ((th hb57 hb8).trans (hb11.mono (th hb57 hb8).size))
        obtain ⟨ke0, ke1, ke2⟩ := KE.out _ (hb8.trans (hb11.mono hb8.size))
        have huc := ((hu4.on entR_fine hE5).on entR_fine (th hb57 hb8)).on entR_fine hb11
        have hbbc := (hbb5.on byteR_fine (th hb57 hb8)).on byteR_fine hb11
        have hn4 : n4 ≤ 65536 := by
          have q := HQ4.out
          unfold EtQ at q
          have hlt := huc.len
          rcases q with ⟨_, hg, _, _, rfl⟩ | ⟨_, _, rfl⟩
          · rw [tabOf_len] at hlt
            have := hg.2.1
            omega
          · simp at hlt; omega
        have htt := table_any U4 V n4 c4 nv cv T T _ huc hv hn4
        rw [decide_eq_true rfl] at htt
        have HTT := hide htt
        have ett : (tb != tb) = false := by simp
        have hem := HEMK.out
        unfold emkE at hem
        clear htt ke0 ke1 ke2
        by_cases hr1 : root < 0
        · rw [if_pos (by omega)] at hem
          injection hem with hem1 hem2
          injection hem1 with hm1 hm2 hm3
          subst hm1 hm2 hm3 hem2
          go_wp2_with fail
          refine HTT.out.mono ?_
          rintro e w12 ⟨rfl, hb12'⟩
          obtain ⟨ke0, ke1, ke2⟩ := KE.out _ (hb8.trans ((hb11.trans (hb12'.mono hb11.size)).mono hb8.size))
          go_wp2_with fail
          refine (wakes12 _).mono ?_
          rintro e w13 ⟨rfl, hb13'⟩
          go_wp2_with fail
          go_ret
          exact ⟨rfl, hbw.trans ((th hb12' hb13').mono hbw.size)⟩
        · by_cases hr2 : 4294967295 < root
          · rw [if_pos (by omega)] at hem
            injection hem with hem1 hem2
            injection hem1 with hm1 hm2 hm3
            subst hm1 hm2 hm3 hem2
            go_wp2_with fail
            refine HTT.out.mono ?_
            rintro e w12 ⟨rfl, hb12'⟩
            obtain ⟨ke0, ke1, ke2⟩ := KE.out _ (hb8.trans ((hb11.trans (hb12'.mono hb11.size)).mono hb8.size))
            go_wp2_with fail
            refine (wakes12 _).mono ?_
            rintro e w13 ⟨rfl, hb13'⟩
            go_wp2_with fail
            go_ret
            exact ⟨rfl, hbw.trans ((th hb12' hb13').mono hbw.size)⟩
          · by_cases h8 : m = 8
            · subst h8
              rw [if_neg (by omega), if_neg (by have := HML.out; omega)] at hem
              injection hem with hem1 hem2
              injection hem1 with hm1 hm2 hm3
              obtain ⟨Q, hQ⟩ : ∃ Q, Q = crc b := ⟨_, rfl⟩
              rw [← hQ] at hm2
              subst hm1 hm2 hm3 hem2
              have e1 : (es == es) = true := by simp
              have e2 : ((Q : Int) == (Q : Int)) = true := by simp
              have HQ := hide hQ
              clear hQ
              go_wp2_with fail
              refine HTT.out.mono ?_
              rintro e w12 ⟨rfl, hb12'⟩
              have hbe : Below w6.heap.size w6 w12 := (hE7.trans ((hb8.trans ((hb11.trans (hb12'.mono hb11.size)).mono hb8.size)).mono hE7.size))
              obtain ⟨ke0, ke1, ke2⟩ := KE.out _ (hb8.trans ((hb11.trans (hb12'.mono hb11.size)).mono hb8.size))
              have hb12b := (hbbc.on byteR_fine hb12').move byteR_fine (w' := w12.drew) (S' := Old _) (fun _ _ => rfl) (fun _ h => h)
              have h8e := entry8_any es hb12b (by omega)
              rw [← HQ.out] at h8e
              unfold Ent.v at h8e
              dsimp only at h8e
              have HE8 := hide h8e
              clear h8e
              go_wp2_with fail
              go_region_law (first
                | (go_simp; go_at_call 72; refine Calls.mono HE8.out ?_; rintro e w13 ⟨rfl, hb13'⟩; have hb13 := undrew hb13'; obtain ⟨ka0, ka1, ka2⟩ := KE.out _ (hb8.trans ((hb11.trans ((th hb12' hb13).mono hb11.size)).mono hb8.size)))
                | (go_simp; go_at_call 56; refine Calls.mono (wakes12 _) ?_; rintro e w14 ⟨rfl, hb14'⟩))
              all_goals
                go_wp2_with fail
                go_ret
                exact ⟨rfl, hbw.trans ((th hb12' (th hb13 hb14')).mono hbw.size)⟩
            · have e8 : ((m : Int) != 8) = true := by simp; omega
              rw [if_neg (by omega), if_pos (by have := HML.out; omega)] at hem
              injection hem with hem1 hem2
              injection hem1 with hm1 hm2 hm3
              subst hm1 hm2 hm3 hem2
              go_wp2_with fail
              refine HTT.out.mono ?_
              rintro e w12 ⟨rfl, hb12'⟩
              obtain ⟨ke0, ke1, ke2⟩ := KE.out _ (hb8.trans ((hb11.trans (hb12'.mono hb11.size)).mono hb8.size))
              go_wp2_with fail
              refine (wakes12 _).mono ?_
              rintro e w13 ⟨rfl, hb13'⟩
              go_wp2_with fail
              go_ret
              exact ⟨rfl, hbw.trans ((th hb12' hb13').mono hbw.size)⟩
    · have e100 : decide (100 < (m : Int)) = true := by simp; omega
      clear h100
      go_enter Try.func23, Try.ntmps23
      go_wp2_with fail
      refine HHV.out.mono ?_
      rintro e w1 ⟨rfl, rfl⟩
      go_wp2_with fail
      go_ret
      exact ⟨rfl, by rw [← HW0.out]; exact th hb0 hE1⟩
  · rw [decide_eq_true (show 300 < n by omega)] at HHV
    go_enter Try.func23, Try.ntmps23
    go_wp2_with fail
    refine HHV.out.mono ?_
    rintro e w1 ⟨rfl, rfl⟩
    go_wp2_with fail
    go_ret
    exact ⟨rfl, by rw [← HW0.out]; exact th hb0 hE1⟩

theorem law_entryExact {w : World} {V0 V1 V3 : Value} {B : Option Addr} {m cb : Nat} {b : List UInt8} {g : Geo} {y : Gt} {x : Ent} (hg : ArgR geoR w V0 g) (hy : ArgR gotR w V1 y) (addr : Int) (haddr : InI addr) (hx : ArgR entR w V3 x) (root : Int) (hroot : InI root) (hb : Bs w B m cb b) :
    Calls Try.prog 23 #[V0, V1, .int .i64 addr, V3, .int .i64 root, .slice B m cb] w fun e w' => e = .returned (.bool true) ∧ Below w.heap.size w w' := by
  obtain ⟨rfl, _⟩ := geo_form hg
  obtain ⟨A, n, c, rfl, _, hl⟩ := got_form hy
  obtain ⟨rfl, _⟩ := ent_form hx
  exact entryExact_core g y.err hl addr x root hb

end Go.Proofs.Ytnieiobpbioeiaa
