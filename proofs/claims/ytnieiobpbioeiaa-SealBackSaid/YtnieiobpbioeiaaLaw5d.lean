/-
  The walk of the law casematelaw05.SealBack.
-/
import Derived.Test.YtnieiobpbioeiaaLaw5c
import Derived.Deep.RegionHeld3
namespace Go.Proofs.Ytnieiobpbioeiaa
open Go.RowKit
set_option linter.unusedVariables false
set_option maxRecDepth 100000

theorem box_at {w w' : World} {cs : Array Value} {e : TypeId} {N : Nat} (hN : w.heap.size = N) (hb : Below (w.alloc (.cells cs e)).heap.size (w.alloc (.cells cs e)) w') (k : Nat) (u : Value) (h : cs[k]? = some u) : w'.cell? ⟨N, k, none⟩ = some u := by
  subst hN
  exact box_cell hb k u h

/-- What is opened is made to the same bytes. -/
theorem open_make {b : List UInt8} {O : Sec × Int} (h : openS b = O) (h0 : O.2 = 0) : SecOk O.1 ∧ O.1.load.length ≤ 96 ∧ b = sealL O.1.addr.toNat O.1.stamp.toNat O.1.load := by
  subst h
  obtain ⟨a, s, p, ho, ha, hs, hp, _, hb⟩ := seal_open h0
  rw [ho]
  exact ⟨⟨⟨by simp, by simp; omega⟩, by simp, by simp; omega⟩, hp, hb⟩
theorem make_open {x : Sec} (hok : SecOk x) (h : x.load.length ≤ 96) : openS (sealL x.addr.toNat x.stamp.toNat x.load) = (x, 0) := by
  obtain ⟨a, s, ea, es, ha, hs⟩ := secOk_nat hok
  rw [ea, es]
  have := open_seal h ha hs
  rw [show ((a : Int)).toNat = a from rfl, show ((s : Int)).toNat = s from rfl, this, ← ea, ← es]
theorem made_same {x y : Sec} (hx : SecOk x) (hxl : x.load.length ≤ 96) (hy : SecOk y) (hyl : y.load.length ≤ 96) :
    decide (sealL x.addr.toNat x.stamp.toNat x.load = sealL y.addr.toNat y.stamp.toNat y.load) = decide (x.addr = y.addr ∧ x.stamp = y.stamp ∧ x.load = y.load) := by
  by_cases h : x.addr = y.addr ∧ x.stamp = y.stamp ∧ x.load = y.load
  · rw [h.1, h.2.1, h.2.2]
    simp
  · rw [decide_eq_false h, decide_eq_false]
    intro e
    have h1 := make_open hx hxl
    rw [e, make_open hy hyl] at h1
    injection h1 with h1
    subst h1
    exact h ⟨rfl, rfl, rfl⟩

set_option maxHeartbeats 2000000 in
theorem law_sealBack {V V' : Value} {x y : Sec} {w : World} (h : ArgR secR w V x) (h' : ArgR secR w V' y) {B : Option Addr} {m d : Nat} {b : List UInt8} (hb : Bs w B m d b) :
    Calls Try.prog 10 #[V, V', .slice B m d] w fun e w' => e = .returned (.bool true) ∧ Below w.heap.size w w' := by
  obtain ⟨A, n, c, rfl, _, _, hl⟩ := sec_form h
  obtain ⟨A', n', c', rfl, _, _, hl'⟩ := sec_form h'
  have hlen := hl.len
  have hlen' := hl'.len
  have hbl := hb.len
  have hb0 : Below w.heap.size w ((w.alloc (.cells #[.int .i64 x.addr, .int .i64 x.stamp, .slice A n c] 62)).alloc (.cells #[.int .i64 y.addr, .int .i64 y.stamp, .slice A' n' c'] 62)) := (alloc_below w _).alloc (by simp) _
  by_cases hn : 300 < n
  · clear hlen hbl hlen'
    go_enter Try.func10, Try.ntmps10
    go_wp2_with fail
    go_ret
    exact ⟨rfl, hb0⟩
  by_cases hn' : 300 < n'
  · clear hlen hbl hlen'
    go_enter Try.func10, Try.ntmps10
    go_wp2_with fail
    go_ret
    exact ⟨rfl, hb0⟩
  by_cases hm : 300 < m
  · clear hlen hbl hlen'
    go_enter Try.func10, Try.ntmps10
    go_wp2_with fail
    go_ret
    exact ⟨rfl, hb0⟩
  have HBL := hide hbl
  have HLEN := hide hlen
  have HLEN' := hide hlen'
  clear hbl hlen hlen'
  have bx : ∀ W, Below ((w.alloc (.cells #[.int .i64 x.addr, .int .i64 x.stamp, .slice A n c] 62)).alloc (.cells #[.int .i64 y.addr, .int .i64 y.stamp, .slice A' n' c'] 62)).heap.size ((w.alloc (.cells #[.int .i64 x.addr, .int .i64 x.stamp, .slice A n c] 62)).alloc (.cells #[.int .i64 y.addr, .int .i64 y.stamp, .slice A' n' c'] 62)) W → (W.cell? ⟨w.heap.size, 0, none⟩ = some (.int .i64 x.addr) ∧ W.cell? ⟨w.heap.size, 1, none⟩ = some (.int .i64 x.stamp) ∧ W.cell? ⟨w.heap.size, 2, none⟩ = some (.slice A n c) ∧ W.cell? ⟨w.heap.size + 1, 0, none⟩ = some (.int .i64 y.addr) ∧ W.cell? ⟨w.heap.size + 1, 1, none⟩ = some (.int .i64 y.stamp) ∧ W.cell? ⟨w.heap.size + 1, 2, none⟩ = some (.slice A' n' c')) := fun W hW =>
    ⟨box_at rfl (th ((alloc_below _ _)) hW) 0 _ rfl, box_at rfl (th ((alloc_below _ _)) hW) 1 _ rfl, box_at rfl (th ((alloc_below _ _)) hW) 2 _ rfl, box_at (by simp) hW 0 _ rfl, box_at (by simp) hW 1 _ rfl, box_at (by simp) hW 2 _ rfl⟩
  have BX := hide bx
  clear bx
  have hl0 := hl.on byteR_fine hb0
  have hl0' := hl'.on byteR_fine hb0
  have hbb0 := hb.on byteR_fine hb0
  have hsec : ∀ W, Below ((w.alloc (.cells #[.int .i64 x.addr, .int .i64 x.stamp, .slice A n c] 62)).alloc (.cells #[.int .i64 y.addr, .int .i64 y.stamp, .slice A' n' c'] 62)).heap.size ((w.alloc (.cells #[.int .i64 x.addr, .int .i64 x.stamp, .slice A n c] 62)).alloc (.cells #[.int .i64 y.addr, .int .i64 y.stamp, .slice A' n' c'] 62)) W → Calls Try.prog 50 #[.agg #[.int .i64 x.addr, .int .i64 x.stamp, .slice A n c], .agg #[.int .i64 y.addr, .int .i64 y.stamp, .slice A' n' c']] W fun e w' => e = .returned (.bool (decide (x.addr = y.addr ∧ x.stamp = y.stamp ∧ x.load = y.load))) ∧ Below W.heap.size W w' := fun W hW =>
    secs_any (hl0.on byteR_fine hW) (hl0'.on byteR_fine hW) (by omega)
  have HSEC := hide hsec
  have hopen : ∀ W, Below ((w.alloc (.cells #[.int .i64 x.addr, .int .i64 x.stamp, .slice A n c] 62)).alloc (.cells #[.int .i64 y.addr, .int .i64 y.stamp, .slice A' n' c'] 62)).heap.size ((w.alloc (.cells #[.int .i64 x.addr, .int .i64 x.stamp, .slice A n c] 62)).alloc (.cells #[.int .i64 y.addr, .int .i64 y.stamp, .slice A' n' c'] 62)) W → Calls Try.prog 46 #[.slice B m d] W (OpenPost W b) := fun W hW => open_any (hbb0.on byteR_fine hW) (by omega)
  unfold OpenPost at hopen
  have hno := fun h => open_no (l := b) h
  have hol := open_load b
  obtain ⟨O, hO⟩ : ∃ O, openS b = O := ⟨_, rfl⟩
  rw [hO] at hopen hno hol
  have hom := open_make hO
  obtain ⟨O1, O2⟩ := O
  dsimp only at hopen hno hom hol
  have hol2 : O1.load.length ≤ 300 := by have := HBL.out; omega
  have HOP := hide hopen
  have HOM := hide hom
  have HNO := hide hno
  clear hsec hopen hom hno hO hol
  go_enter Try.func10, Try.ntmps10
  go_wp2_with fail
  refine (make_res hl0).mono ?_
  rintro e w1 ⟨V1, m1, c1, l1, er1, rfl, hr1, hQ1, hb1⟩
  have HQ1 := hide hQ1
  clear hQ1
  obtain ⟨k0, k1, k2, k3, k4, k5⟩ := BX.out w1 hb1
  go_wp2_with fail
  refine (make_res (hl0'.on byteR_fine hb1)).mono ?_
  rintro e w2 ⟨V2, m2, c2, l2, er2, rfl, hr2, hQ2, hb2⟩
  have HQ2 := hide hQ2
  clear hQ2
  have hbW := th hb1 hb2
  have hr1' := hr1.on byteR_fine hb2
  clear k0 k1 k2 k3 k4 k5
  by_cases he1 : er1 = 0
  · subst he1
    obtain ⟨hok, h96, hl1⟩ : SecOk x ∧ x.load.length ≤ 96 ∧ l1 = sealL x.addr.toNat x.stamp.toNat x.load := by
      rcases HQ1.out with ⟨a1, a2, _, a3⟩ | ⟨_, _, a, _⟩ | ⟨_, a, _⟩
      · exact ⟨a1, a2, a3⟩
      · cases a
      · cases a
    have hmo := make_open hok h96
    have hop := open_any hr1' (by have := hr1'.len; rw [hl1, seal_len] at this; omega)
    unfold OpenPost at hop
    rw [hl1, hmo] at hop
    dsimp only at hop
    have HOK := hide hok
    have H96 := hide h96
    have HL1 := hide hl1
    have HP := hide hop
    clear hmo hop hok h96 hl1
    go_wp2_with fail
    refine HP.out.mono ?_
    rintro e w3 ⟨A3, n3, c3, rfl, hs3, hb3⟩
    have hn3 := hs3.len
    rw [HLEN.out] at hn3
    subst hn3
    have hb4 := alloc_below w3 (.cells #[.int .i64 x.addr, .int .i64 x.stamp, .slice A3 n c3] 62)
    have hbW4 := th hbW (th hb3 hb4)
    obtain ⟨k0, k1, k2, k3, k4, k5⟩ := BX.out _ hbW4
    go_wp2_with fail
    refine (secs_any (x := x) (y := x) (hs3.on byteR_fine hb4) (hl0.on byteR_fine hbW4) (by omega)).mono ?_
    rintro e w5 ⟨rfl, hb5⟩
    rw [show decide (x.addr = x.addr ∧ x.stamp = x.stamp ∧ x.load = x.load) = true by simp]
    clear k0 k1 k2 k3 k4 k5
    have hbW5 := th hbW4 hb5
    have hx1 := hr1'.on byteR_fine (th hb3 (th hb4 hb5))
    have hx2 := hr2.on byteR_fine (th hb3 (th hb4 hb5))
    by_cases he2 : er2 = 0
    · subst he2
      obtain ⟨hok2, h962, hl2⟩ : SecOk y ∧ y.load.length ≤ 96 ∧ l2 = sealL y.addr.toNat y.stamp.toNat y.load := by
        rcases HQ2.out with ⟨a1, a2, _, a3⟩ | ⟨_, _, a, _⟩ | ⟨_, a, _⟩
        · exact ⟨a1, a2, a3⟩
        · cases a
        · cases a
      have hsame := made_same HOK.out H96.out hok2 h962
      rw [← HL1.out, ← hl2] at hsame
      obtain ⟨D, hD⟩ : ∃ D, D = decide (x.addr = y.addr ∧ x.stamp = y.stamp ∧ x.load = y.load) := ⟨_, rfl⟩
      have hsec2 := HSEC.out
      rw [← hD] at hsame hsec2
      have hm1 : m1 ≤ 65536 := by have := hx1.len; rw [HL1.out, seal_len] at this; have := H96.out; omega
      have hby : ∀ W, Below w5.heap.size w5 W → Calls Try.prog 37 #[.slice V1 m1 c1, .slice V2 m2 c2] W fun e w' => e = .returned (.bool D) ∧ Below W.heap.size W w' := fun W hW =>
        (bytes_any _ _ _ _ _ _ l1 l2 W (hx1.on byteR_fine hW) (hx2.on byteR_fine hW) hm1).mono fun e w' ⟨he, q, hq⟩ => ⟨by rw [he, hsame], by rw [hq]; exact drewN_below _ _⟩
      have hDD : (D != D) = false := by simp
      have HSE := hide hsec2
      have HBY := hide hby
      clear hsame hsec2 hby hD hok2 h962 hl2 hm1
      have hd0 : Below w5.heap.size w5 w5.drew := (Below.refl _ _).drew
      go_wp2_with fail
      go_region_held3 (fun w' => w'.cell? ⟨w.heap.size, 0, none⟩ = some (.int .i64 x.addr) ∧ w'.cell? ⟨w.heap.size, 1, none⟩ = some (.int .i64 x.stamp) ∧ w'.cell? ⟨w.heap.size, 2, none⟩ = some (.slice A n c) ∧ w'.cell? ⟨w.heap.size + 1, 0, none⟩ = some (.int .i64 y.addr) ∧ w'.cell? ⟨w.heap.size + 1, 1, none⟩ = some (.int .i64 y.stamp) ∧ w'.cell? ⟨w.heap.size + 1, 2, none⟩ = some (.slice A' n' c')) (first | exact BX.out _ (th hbW5 hd0) | exact BX.out _ (th hbW5 hB1) | exact BX.out _ (th hbW5 hS1)) (first
        | (go_at_call 37; refine (HBY.out _ ?_).mono ?_; (first | exact hS1 | exact hd0); rintro e wA ⟨rfl, hA⟩; have hB1 : Below w5.heap.size w5 wA := (by first | exact th hS1 hA | exact th hd0 hA))
        | (go_at_call 50; refine (HSE.out _ ?_).mono ?_; (first | exact th hbW5 hB1 | exact th hbW5 hd0); rintro e wA ⟨rfl, hA⟩; have hS1 : Below w5.heap.size w5 wA := (by first | exact th hB1 hA | exact th hd0 hA)))
      all_goals
        rename World => W
        have hbZ : Below ((w.alloc (.cells #[.int .i64 x.addr, .int .i64 x.stamp, .slice A n c] 62)).alloc (.cells #[.int .i64 y.addr, .int .i64 y.stamp, .slice A' n' c'] 62)).heap.size ((w.alloc (.cells #[.int .i64 x.addr, .int .i64 x.stamp, .slice A n c] 62)).alloc (.cells #[.int .i64 y.addr, .int .i64 y.stamp, .slice A' n' c'] 62)) W := by first | exact th hbW5 hS1 | exact th hbW5 hB1
        go_wp2_with fail
        refine (HOP.out _ hbZ).mono ?_
        rintro e w7 ⟨A7, n7, c7, rfl, hs7, hb7⟩
        have hn7 := hs7.len
        subst hn7
        have hb8 := alloc_below w7 (.cells #[.int .i64 O1.addr, .int .i64 O1.stamp, .slice A7 O1.load.length c7] 62)
        by_cases hO2 : O2 = 0
        · subst hO2
          obtain ⟨hokO, h96O, hblO⟩ := HOM.out rfl
          have HOKO := hide hokO
          have H96O := hide h96O
          have HBLO := hide hblO
          clear hokO h96O hblO
          go_wp2_with fail
          refine (make_res (hs7.on byteR_fine hb8)).mono ?_
          rintro e w9 ⟨V9, m9, c9, l9, er9, rfl, hr9, hQ9, hb9⟩
          obtain ⟨rfl, hl9⟩ : er9 = 0 ∧ l9 = b := by
            rcases hQ9 with ⟨_, _, a1, a2⟩ | ⟨_, a, _⟩ | ⟨a, _⟩
            · exact ⟨a1, by rw [a2]; exact HBLO.out.symm⟩
            · have := H96O.out; omega
            · exact absurd HOKO.out a
          subst hl9
          have hbZ9 := th hbZ (th hb7 (th hb8 hb9))
          have hm9 : m9 ≤ 65536 := by have := hr9.len; have := HBL.out; omega
          clear hQ9
          go_wp2_with fail
          refine (bytes_same _ hr9 (hbb0.on byteR_fine hbZ9) hm9).mono ?_
          rintro e w10 ⟨rfl, hb10⟩
          go_wp2_with fail
          refine (wakes5 _).mono ?_
          rintro e w11 ⟨rfl, hb11⟩
          go_wp2_with fail
          go_ret
          exact ⟨rfl, th hb0 (th hbZ9 (th hb10 hb11))⟩
        · have hz := HNO.out hO2
          subst hz
          have hz2 : (O2 != 0) = true := by simpa using hO2
          go_wp2_with fail
          refine (secs_any (x := noSec) (y := noSec) (hs7.on byteR_fine hb8) (Sl.nil_ _) (by simp [noSec])).mono ?_
          rintro e w9 ⟨rfl, hb9⟩
          rw [show decide (noSec.addr = noSec.addr ∧ noSec.stamp = noSec.stamp ∧ noSec.load = noSec.load) = true from rfl]
          go_wp2_with fail
          refine (wakes5 _).mono ?_
          rintro e w11 ⟨rfl, hb11⟩
          go_wp2_with fail
          go_ret
          exact ⟨rfl, th hb0 (th hbZ (th hb7 (th hb8 (th hb9 hb11))))⟩
    · have he2' : (er2 == 0) = false := by simpa using he2
      go_wp2_with fail
      go_quiet (fail)
      have hbZ := th hbW5 (drewN_below w5 nq)
      go_wp2_with fail
      refine (HOP.out _ hbZ).mono ?_
      rintro e w7 ⟨A7, n7, c7, rfl, hs7, hb7⟩
      have hn7 := hs7.len
      subst hn7
      have hb8 := alloc_below w7 (.cells #[.int .i64 O1.addr, .int .i64 O1.stamp, .slice A7 O1.load.length c7] 62)
      by_cases hO2 : O2 = 0
      · subst hO2
        obtain ⟨hokO, h96O, hblO⟩ := HOM.out rfl
        have HOKO := hide hokO
        have H96O := hide h96O
        have HBLO := hide hblO
        clear hokO h96O hblO
        go_wp2_with fail
        refine (make_res (hs7.on byteR_fine hb8)).mono ?_
        rintro e w9 ⟨V9, m9, c9, l9, er9, rfl, hr9, hQ9, hb9⟩
        obtain ⟨rfl, hl9⟩ : er9 = 0 ∧ l9 = b := by
          rcases hQ9 with ⟨_, _, a1, a2⟩ | ⟨_, a, _⟩ | ⟨a, _⟩
          · exact ⟨a1, by rw [a2]; exact HBLO.out.symm⟩
          · have := H96O.out; omega
          · exact absurd HOKO.out a
        subst hl9
        have hbZ9 := th hbZ (th hb7 (th hb8 hb9))
        have hm9 : m9 ≤ 65536 := by have := hr9.len; have := HBL.out; omega
        clear hQ9
        go_wp2_with fail
        refine (bytes_same _ hr9 (hbb0.on byteR_fine hbZ9) hm9).mono ?_
        rintro e w10 ⟨rfl, hb10⟩
        go_wp2_with fail
        refine (wakes5 _).mono ?_
        rintro e w11 ⟨rfl, hb11⟩
        go_wp2_with fail
        go_ret
        exact ⟨rfl, th hb0 (th hbZ9 (th hb10 hb11))⟩
      · have hz := HNO.out hO2
        subst hz
        have hz2 : (O2 != 0) = true := by simpa using hO2
        go_wp2_with fail
        refine (secs_any (x := noSec) (y := noSec) (hs7.on byteR_fine hb8) (Sl.nil_ _) (by simp [noSec])).mono ?_
        rintro e w9 ⟨rfl, hb9⟩
        rw [show decide (noSec.addr = noSec.addr ∧ noSec.stamp = noSec.stamp ∧ noSec.load = noSec.load) = true from rfl]
        go_wp2_with fail
        refine (wakes5 _).mono ?_
        rintro e w11 ⟨rfl, hb11⟩
        go_wp2_with fail
        go_ret
        exact ⟨rfl, th hb0 (th hbZ (th hb7 (th hb8 (th hb9 hb11))))⟩
  · have he1' : (er1 == 0) = false := by simpa using he1
    go_wp2_with fail
    go_quiet (fail)
    have hbZ := th hbW (drewN_below w2 nq)
    go_wp2_with fail
    refine (HOP.out _ hbZ).mono ?_
    rintro e w7 ⟨A7, n7, c7, rfl, hs7, hb7⟩
    have hn7 := hs7.len
    subst hn7
    have hb8 := alloc_below w7 (.cells #[.int .i64 O1.addr, .int .i64 O1.stamp, .slice A7 O1.load.length c7] 62)
    by_cases hO2 : O2 = 0
    · subst hO2
      obtain ⟨hokO, h96O, hblO⟩ := HOM.out rfl
      have HOKO := hide hokO
      have H96O := hide h96O
      have HBLO := hide hblO
      clear hokO h96O hblO
      go_wp2_with fail
      refine (make_res (hs7.on byteR_fine hb8)).mono ?_
      rintro e w9 ⟨V9, m9, c9, l9, er9, rfl, hr9, hQ9, hb9⟩
      obtain ⟨rfl, hl9⟩ : er9 = 0 ∧ l9 = b := by
        rcases hQ9 with ⟨_, _, a1, a2⟩ | ⟨_, a, _⟩ | ⟨a, _⟩
        · exact ⟨a1, by rw [a2]; exact HBLO.out.symm⟩
        · have := H96O.out; omega
        · exact absurd HOKO.out a
      subst hl9
      have hbZ9 := th hbZ (th hb7 (th hb8 hb9))
      have hm9 : m9 ≤ 65536 := by have := hr9.len; have := HBL.out; omega
      clear hQ9
      go_wp2_with fail
      refine (bytes_same _ hr9 (hbb0.on byteR_fine hbZ9) hm9).mono ?_
      rintro e w10 ⟨rfl, hb10⟩
      go_wp2_with fail
      refine (wakes5 _).mono ?_
      rintro e w11 ⟨rfl, hb11⟩
      go_wp2_with fail
      go_ret
      exact ⟨rfl, th hb0 (th hbZ9 (th hb10 hb11))⟩
    · have hz := HNO.out hO2
      subst hz
      have hz2 : (O2 != 0) = true := by simpa using hO2
      go_wp2_with fail
      refine (secs_any (x := noSec) (y := noSec) (hs7.on byteR_fine hb8) (Sl.nil_ _) (by simp [noSec])).mono ?_
      rintro e w9 ⟨rfl, hb9⟩
      rw [show decide (noSec.addr = noSec.addr ∧ noSec.stamp = noSec.stamp ∧ noSec.load = noSec.load) = true from rfl]
      go_wp2_with fail
      refine (wakes5 _).mono ?_
      rintro e w11 ⟨rfl, hb11⟩
      go_wp2_with fail
      go_ret
      exact ⟨rfl, th hb0 (th hbZ (th hb7 (th hb8 (th hb9 hb11))))⟩

end Go.Proofs.Ytnieiobpbioeiaa
