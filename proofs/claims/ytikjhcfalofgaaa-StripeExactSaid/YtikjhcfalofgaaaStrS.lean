/-
  Contracts: casemateref08.TableBytes (in new memory), Images; casematekeep.Image, Images.
-/
import Derived.Test.YtikjhcfalofgaaaStrI
import Derived.Test.YtikjhcfalofgaaaTabR
import Derived.Test.YtikjhcfalofgaaaLawS1
import Derived.Deep.RegionHeld3
import Derived.Deep.RegionLaw
namespace Go.Proofs.Ytikjhcfalofgaaa
open Go.RowKit Go.Lib
set_option linter.unusedVariables false
set_option maxRecDepth 100000

set_option maxHeartbeats 8000000 in
theorem rtbytes_new (A : Option Addr) (n c : Nat) (L : List Ent) (w : World) (ha : Sl entR 3 w (Old w) A n c L) (hn : n ≤ 6000) (hok : ∀ e ∈ L, EntOk e) :
    Calls Try.prog 42 #[.agg #[.slice A n c]] w fun e w' => ∃ V q cv, e = .returned (.slice V q cv) ∧ Sl byteR 1 w' (New w.heap.size w') V q cv (tabL L) ∧ Below w.heap.size w w' := by
  have hb0 := alloc_below w (.cells #[.slice A n c] 26)
  have bx : ∀ W, Below (w.alloc (.cells #[.slice A n c] 26)).heap.size (w.alloc (.cells #[.slice A n c] 26)) W → W.cell? ⟨w.heap.size, 0, none⟩ = some (.slice A n c) := fun W hW => box_cell hW 0 _ rfl
  have BX := hide bx
  have ha0 := ha.on entR_fine hb0
  have HOK := hide hok
  have HLEN := hide ha.len
  clear bx hok
  go_enter Try.func42, Try.ntmps42
  go_wp2_with fail
  go_loopw [3, 4] (fun v i wr => ∃ k q : Nat, ∃ V cv, k ≤ n ∧ q ≤ 9 * k ∧ i = .int .i64 k ∧ v = .slice V q cv ∧ Sl byteR 1 wr (New w.heap.size wr) V q cv (tabL (L.take k)) ∧ Below (w.alloc (.cells #[.slice A n c] 26)).heap.size (w.alloc (.cells #[.slice A n c] 26)) wr) (fun _ i _ => n - (RowKit.intOf i).toNat)
  case atStart => exact ⟨0, 0, none, 0, Nat.zero_le _, by omega, rfl, rfl, Sl.nil_ _, Below.refl _ _⟩
  case round =>
    obtain ⟨k, q, V, cv, hk, hqk, rfl, rfl, hoN, hb⟩ := hrel
    have ho := hoN.old_ byteR_fine
    have k1 := BX.out wr hb
    by_cases hlt : k < n
    · have har := ha0.on entR_fine hb
      obtain ⟨ad, x, rfl, hadl, hx, i1, i2, d0, d1, d2⟩ := at_ent har hlt
      obtain ⟨⟨e1, e2⟩, e3, e4⟩ := HOK.out x (List.mem_of_getElem? hx)
      obtain ⟨s, hs⟩ : ∃ s : Nat, x.stamp = (s : Int) := ⟨x.stamp.toNat, by omega⟩
      obtain ⟨u, hu⟩ : ∃ u : Nat, x.sum = (u : Int) := ⟨x.sum.toNat, by omega⟩
      have hent : entL x = le 4 s ++ le 4 u ++ le 1 (lostN x.lost) := by simp [entL, hs, hu]
      have hnx := tabL_take hx
      rw [hent] at hnx
      rw [hs] at d0 e2
      rw [hu] at d1 e4
      have HNX := hide hnx
      obtain ⟨lo, hlo⟩ : ∃ lo, lo = x.lost := ⟨_, rfl⟩
      rw [← hlo] at d2 HNX
      clear hent hnx hs hu hx i1 i2 e1 e3 hlo
      obtain ⟨W1, hW1⟩ : ∃ W1, W1 = wr.alloc (.cells #[.int .i64 s, .int .i64 u, .bool lo] 61) := ⟨_, rfl⟩
      have hE : Below wr.heap.size wr W1 := by rw [hW1]; exact alloc_below _ _
      have hk2 : ∀ W, Below W1.heap.size W1 W → W.cell? ⟨wr.heap.size, 0, none⟩ = some (.int .i64 s) ∧ W.cell? ⟨wr.heap.size, 1, none⟩ = some (.int .i64 u) ∧ W.cell? ⟨wr.heap.size, 2, none⟩ = some (.bool lo) := fun W hW => by
        subst hW1
        exact ⟨box_cell hW 0 _ rfl, box_cell hW 1 _ rfl, box_cell hW 2 _ rfl⟩
      have HK2 := hide hk2
      have hd0 : Below W1.heap.size W1 W1.drew := (Below.refl _ _).drew
      obtain ⟨T, hT⟩ : ∃ T, T = tabL (L.take k) := ⟨_, rfl⟩
      rw [← hT] at ho HNX
      have ho1 := ho.on byteR_fine (th hE hd0)
      have HP : Hid (∀ (W : World) (V' : Option Addr) (q' c' N : Nat) (T' : List UInt8), Bs W V' q' c' T' → q' ≤ 60000 → N < 9223372036854775807 → Calls Try.prog 60 #[.slice V' q' c', .int .i64 N, .int .i64 4] W fun e w' => ∃ V cv, e = .returned (.slice V (q' + 4) cv) ∧ Ow byteR 1 w' W.heap.size W.heap.size 5 (.slice V (q' + 4) cv) (q' + 4) (T' ++ le 4 N) ∧ Below W.heap.size W w') := fun W V' q' c' N T' h1 h2 h3 => rput_any h1 h2 N 4 (by omega) h3
      have HW1 := hide hW1
      clear hk2 hT hW1
      go_upto_region 6 with fail
      rw [← HW1.out]
      go_cut [3] (fun v wx => ∃ V3 c3, v = .slice V3 (q + 4 + 4) c3 ∧ Bs wx V3 (q + 4 + 4) c3 (T ++ le 4 s ++ le 4 u) ∧ Below W1.heap.size W1 wx)
      case first =>
        obtain ⟨g0, g1, _⟩ := HK2.out _ hd0
        go_region_law ((go_simp; go_at_call 60; go_loud (refine Calls.mono (HP.out _ _ _ _ _ _ (by first | exact hr2 | exact ho1) (by omega) (by omega)) ?_); rintro e w2 ⟨V2, c2, rfl, ho2, hb2⟩; have hz2 := th (by first | exact hz2 | exact hd0) hb2; obtain ⟨j0, j1, _⟩ := HK2.out _ hz2; have hr2 := ho2.read byteR_fine))
        all_goals (go_wp2_with fail; go_meet; exact ⟨V2, c2, rfl, hr2, hz2⟩)
      case rest =>
        obtain ⟨V3, c3, rfl, ho3, hz3⟩ := hcut
        have kk := BX.out _ (hb.trans ((th hE hz3).mono hb.size))
        obtain ⟨_, _, k3⟩ := HK2.out _ hz3
        cases lo with
        | false =>
          go_wp2_with fail
          refine (rput_any ho3 (by omega) 0 1 (by omega) (by omega)).mono ?_
          rintro e w4 ⟨V4, c4, rfl, ho4, hb4⟩
          go_wp2_with fail
          go_roundw
          case rel => exact ⟨k + 1, q + 4 + 4 + 1, V4, c4, by omega, by omega, by go_num, rfl, by rw [HNX.out]; simpa [List.append_assoc, lostN] using ho4.new_ byteR_fine (B := w.heap.size) (by have h1 := hb0.size; have h2 := hb.size; have h3 := hE.size; have h4 := hz3.size; omega) (by have h1 := hb0.size; have h2 := hb.size; have h3 := hE.size; have h4 := hz3.size; omega), hb.trans ((th hE (th hz3 hb4)).mono hb.size)⟩
          case measure => simp [RowKit.intOf]; omega
        | true =>
          go_wp2_with fail
          refine (rput_any ho3 (by omega) 1 1 (by omega) (by omega)).mono ?_
          rintro e w4 ⟨V4, c4, rfl, ho4, hb4⟩
          go_wp2_with fail
          go_roundw
          case rel => exact ⟨k + 1, q + 4 + 4 + 1, V4, c4, by omega, by omega, by go_num, rfl, by rw [HNX.out]; simpa [List.append_assoc, lostN] using ho4.new_ byteR_fine (B := w.heap.size) (by have h1 := hb0.size; have h2 := hb.size; have h3 := hE.size; have h4 := hz3.size; omega) (by have h1 := hb0.size; have h2 := hb.size; have h3 := hE.size; have h4 := hz3.size; omega), hb.trans ((th hE (th hz3 hb4)).mono hb.size)⟩
          case measure => simp [RowKit.intOf]; omega
    · obtain rfl : k = n := by omega
      have hfin : L.take k = L := List.take_of_length_le (by rw [HLEN.out]; exact Nat.le_refl _)
      rw [hfin] at hoN
      clear hfin
      go_wp2_with fail
      go_ret
      exact ⟨V, q, cv, rfl, hoN, th hb0 hb⟩


set_option maxHeartbeats 1000000 in
theorem kimage_any {A B : Option Addr} {n c m d : Nat} {w : World} {x y : Sec} (ha : Bs w A n c x.load) (hb : Bs w B m d y.load) (hn : n ≤ 65536) :
    Calls Try.prog 41 #[.agg #[.int .i64 x.addr, .int .i64 x.stamp, .slice A n c], .agg #[.int .i64 y.addr, .int .i64 y.stamp, .slice B m d]] w fun e w' => e = .returned (.bool (decide (x.addr = y.addr ∧ x.stamp = y.stamp ∧ x.load = y.load))) ∧ Below w.heap.size w w' := by
  obtain ⟨a, s, l⟩ := x
  obtain ⟨a', s', l'⟩ := y
  dsimp only at *
  have hb0 : Below w.heap.size w ((w.alloc (.cells #[.int .i64 a, .int .i64 s, .slice A n c] 67)).alloc (.cells #[.int .i64 a', .int .i64 s', .slice B m d] 67)) := (alloc_below w _).alloc (by simp) _
  have ha0 := ha.on byteR_fine hb0
  have hb1 := hb.on byteR_fine hb0
  have hB := bytes_any A B n c m d l l' _ ha0 hb1 hn
  by_cases h1 : a = a'
  · by_cases h2 : s = s'
    · subst h1; subst h2
      have hd : decide (a = a ∧ s = s ∧ l = l') = decide (l = l') := by simp
      rw [hd]
      obtain ⟨D, hD⟩ : ∃ D, D = decide (l = l') := ⟨_, rfl⟩
      rw [← hD] at hB ⊢
      have HB := hide hB
      clear hB hd hD
      go_enter Try.func41, Try.ntmps41
      go_wp2_with fail
      refine (HB.out).mono ?_
      rintro e w1 ⟨rfl, q, rfl⟩
      go_wp2_with fail
      go_ret
      exact ⟨rfl, th hb0 (drewN_below _ q)⟩
    · have h3 : (s == s') = false := by simpa using h2
      have hd : decide (a = a' ∧ s = s' ∧ l = l') = false := by simp [h2]
      rw [hd]
      subst h1
      clear hB
      go_enter Try.func41, Try.ntmps41
      go_wp2_with fail
      go_ret
      exact ⟨rfl, hb0⟩
  · have h3 : (a == a') = false := by simpa using h1
    have hd : decide (a = a' ∧ s = s' ∧ l = l') = false := by simp [h1]
    rw [hd]
    clear hB
    go_enter Try.func41, Try.ntmps41
    go_wp2_with fail
    go_ret
    exact ⟨rfl, hb0⟩


theorem balR {w W : World} (h : Below w.heap.size w W) (o : Obj) : Below w.heap.size w (W.alloc o) := h.alloc h.size o

set_option maxHeartbeats 4000000 in
theorem kimages_true (A B : Option Addr) (n c d : Nat) (L : List Sec) (w : World) (ha : Sl secR 3 w (Old w) A n c L) (hb : Sl secR 3 w (Old w) B n d L) (hn : n ≤ 65536) (hl : ∀ x ∈ L, x.load.length ≤ 65536) :
    Calls Try.prog 20 #[.slice A n c, .slice B n d] w fun e w' => e = .returned (.bool true) ∧ Below w.heap.size w w' := by
  have HL := hide hl
  clear hl
  go_enter Try.func20, Try.ntmps20
  go_wp2_with fail
  go_loopw [5] (fun i wr => ∃ k : Nat, k ≤ n ∧ i = .int .i64 k ∧ Below w.heap.size w wr) (fun i _ => n - (RowKit.intOf i).toNat)
  case atStart => exact ⟨0, Nat.zero_le _, rfl, Below.refl _ _⟩
  case round =>
    obtain ⟨k, hk, rfl, hbr⟩ := hrel
    by_cases hlt : k < n
    · obtain ⟨ad, x, A1, n1, c1, rfl, had, hx, hx1, hx2, hs, a0, a1, a2⟩ := at_sec (ha.on secR_fine hbr) hlt
      obtain ⟨bd, x', B1, m1, d1, rfl, hbd, hx', _, _, hs', b0, b1, b2⟩ := at_sec (hb.on secR_fine hbr) hlt
      rw [hx] at hx'
      injection hx' with hx'
      subst hx'
      have hn1 : n1 ≤ 65536 := by rw [← hs.len]; exact HL.out x (List.mem_of_getElem? hx)
      have hki : (k : Int) < (n : Int) := by omega
      have hk00 : (0 : Int) ≤ (k : Int) := by omega
      have hbk1 : (ad.add (k * 3)).block < wr.heap.size := by rw [block_of_add]; exact had
      have hbk2 : (bd.add (k * 3)).block < wr.heap.size := by rw [block_of_add]; exact hbd
      have HS : Hid (∀ W, Below wr.heap.size wr W → (W.cell? (ad.add (k * 3)) = some (.int .i64 x.addr) ∧ W.cell? ⟨(ad.add (k * 3)).block, (ad.add (k * 3)).off + 1, none⟩ = some (.int .i64 x.stamp) ∧ W.cell? ⟨(ad.add (k * 3)).block, (ad.add (k * 3)).off + 2, none⟩ = some (.slice A1 n1 c1)) ∧ W.cell? (bd.add (k * 3)) = some (.int .i64 x.addr) ∧ W.cell? ⟨(bd.add (k * 3)).block, (bd.add (k * 3)).off + 1, none⟩ = some (.int .i64 x.stamp) ∧ W.cell? ⟨(bd.add (k * 3)).block, (bd.add (k * 3)).off + 2, none⟩ = some (.slice B1 m1 d1)) := hide fun W hW =>
        ⟨⟨(hW.cell hbk1).trans a0, (hW.cell (by exact hbk1)).trans a1, (hW.cell (by exact hbk1)).trans a2⟩, (hW.cell hbk2).trans b0, (hW.cell (by exact hbk2)).trans b1, (hW.cell (by exact hbk2)).trans b2⟩
      have HK := hide fun W (hW : Below wr.heap.size wr W) => (kimage_any (x := x) (y := x) (hs.on byteR_fine hW) (hs'.on byteR_fine hW) hn1).mono fun e w' (h : e = .returned (.bool (decide (x.addr = x.addr ∧ x.stamp = x.stamp ∧ x.load = x.load))) ∧ Below W.heap.size W w') => (⟨by simpa using h.1, h.2⟩ : e = .returned (.bool true) ∧ Below W.heap.size W w')
      have hcur := Below.refl wr.heap.size wr
      clear hx
      go_wp2_with fail
      go_region_held3 (fun W => (W.cell? (ad.add (k * 3)) = some (.int .i64 x.addr) ∧ W.cell? ⟨(ad.add (k * 3)).block, (ad.add (k * 3)).off + 1, none⟩ = some (.int .i64 x.stamp) ∧ W.cell? ⟨(ad.add (k * 3)).block, (ad.add (k * 3)).off + 2, none⟩ = some (.slice A1 n1 c1)) ∧ W.cell? (bd.add (k * 3)) = some (.int .i64 x.addr) ∧ W.cell? ⟨(bd.add (k * 3)).block, (bd.add (k * 3)).off + 1, none⟩ = some (.int .i64 x.stamp) ∧ W.cell? ⟨(bd.add (k * 3)).block, (bd.add (k * 3)).off + 2, none⟩ = some (.slice B1 m1 d1)) (first | exact HS.out _ hcur | exact HS.out _ hcur.drew) ((go_at_call 41; (with_reducible refine (HK.out _ (by first | exact hcur | exact hcur.drew)).mono ?_); rintro e w7 ⟨rfl, hz7⟩; have hcur := th (by first | exact hcur | exact hcur.drew) hz7))
      all_goals
        go_wp2_with fail
        go_roundw
        case rel => exact ⟨k + 1, by omega, by go_num, th hbr (by first | exact hcur | exact hcur.drew)⟩
        case measure => (first | omega | (simp [RowKit.intOf]; omega) | (unfold RowKit.intOf; simp; omega) | go_num)
    · obtain rfl : k = n := by omega
      have hkk : ¬ (k : Int) < (k : Int) := by omega
      go_wp2_with fail
      go_ret
      exact ⟨rfl, hbr⟩

set_option maxHeartbeats 4000000 in
theorem rimages_any {A C E P : Option Addr} {n c q cq p cp cP : Nat} {L : List Ent} {ats : List Int} {bl : List (List UInt8)} {par : List UInt8} (z : Int) (hz : InI z) {w : World}
    (ha : Sl entR 3 w (Old w) A n c L) (hP : Bs w P 8 cP par) (hc : Is w C q cq ats) (hb : Rs w E p cp bl) (hok : ∀ e ∈ L, EntOk e) (hn : n ≤ 6000) (hq : q ≤ 100) (hl : bl.length = ats.length) (h8 : ∀ x ∈ bl, x.length = 8) :
    Calls Try.prog 21 #[.int .i64 z, .agg #[.slice A n c], .slice P 8 cP, .slice C q cq, .slice E p cp] w fun e w' => ∃ V cv, e = .returned (.slice V (q + 2) cv) ∧
      Sl secR 3 w' (Old w') V (q + 2) cv (imgL z L par ats bl) ∧ Below w.heap.size w w' := by
  obtain ⟨i0, hi0, hz0, hz1, hz2⟩ := info_parts image_info
  have hpq : p = q := by have h1 := hc.len; have h2 := hb.len; omega
  subst hpq
  have HLC := hide hc.len
  have HL := hide hl
  have HH8 := hide h8
  have htb := fun w ha => rtbytes_new A n c L w ha hn hok
  have htw := fun w hP => twin_any P 8 cP par w hP (by omega)
  have hb0 := alloc_below w (.cells #[.slice A n c] 26)
  have hx : ∀ W, Below (w.alloc (.cells #[.slice A n c] 26)).heap.size (w.alloc (.cells #[.slice A n c] 26)) W → W.cell? ⟨w.heap.size, 0, none⟩ = some (.slice A n c) := fun W hW => box_cell hW 0 _ rfl
  obtain ⟨W0, hW0⟩ : ∃ W0, W0 = w.alloc (.cells #[.slice A n c] 26) := ⟨_, rfl⟩
  rw [← hW0] at hb0 hx
  have HX := hide hx
  have HTB := hide htb
  have HTW := hide htw
  clear hx htb htw hok hl h8
  go_enter Try.func21, Try.ntmps21
  go_wp2_with fail
  rw [← hW0]
  clear hW0
  go_loopw [11, 12] (fun v i wr => ∃ k : Nat, ∃ Vs cs, k ≤ p ∧ i = .int .i64 k ∧ v = .slice Vs k cs ∧ Ow secR 3 wr W0.heap.size 0 67 (.slice Vs k cs) k ((imgsL z ats bl).take k) ∧ Below W0.heap.size W0 wr) (fun _ i _ => p - (RowKit.intOf i).toNat)
  case atStart => exact ⟨0, none, 0, Nat.zero_le _, rfl, rfl, Ow.nil_ _ _ _ _, Below.refl _ _⟩
  case round =>
    obtain ⟨k, Vs, cs, hk, rfl, rfl, ho, hbr⟩ := hrel
    have hb0r := th hb0 hbr
    have hltV : ∀ j, (Value.slice Vs k cs).ownBlock = some j → W0.heap.size ≤ j ∧ j < wr.heap.size := fun j e => ho.lt j e
    have HLV := hide hltV
    by_cases hlt : k < p
    · have hlI : (k : Int) < (p : Int) := by omega
      have k0 : (0 : Int) ≤ (k : Int) := by omega
      obtain ⟨ad, x, rfl, hadl, hxk, hxi, hxc⟩ := at_int hc hlt
      obtain ⟨ed, b, A', n', c', rfl, hedl, hbk, hbs, hbc⟩ := at_row hb hlt
      have himg := imgs_at (z := z) hxk hbk
      have HIM := hide (take_snoc' himg)
      obtain rfl : n' = 8 := by have h1 := hbs.len; have h2 := HH8.out b (List.mem_of_getElem? hbk); omega
      have HS : Hid (∀ W, Below W0.heap.size W0 W → W.cell? (ad.add k) = some (.int .i64 x) ∧ W.cell? (ed.add k) = some (.slice A' 8 c')) := hide fun W hW => ⟨below_cell (th hb0 hW) hadl hxc, below_cell (th hb0 hW) hedl hbc⟩
      have HTB2 : Hid (∀ W, Below wr.heap.size wr W → Calls Try.prog 30 #[.slice A' 8 c'] W fun e w' => ∃ A'' c'', e = .returned (.slice A'' 8 c'') ∧ Sl byteR 1 w' (New wr.heap.size w') A'' 8 c'' b ∧ Below W.heap.size W w') := hide fun W hW => (twin_any A' 8 c' b W (hbs.on byteR_fine (th hb0r hW)) (by omega)).mono fun e w' ⟨A'', c'', h1, h2, h3⟩ => ⟨A'', c'', h1, h2.new_ byteR_fine hW.size hW.size, h3⟩
      have HO := hide fun W (hW : Below wr.heap.size wr W) => ho.below secR_fine hW
      have HLIT : Hid (∀ W A7 c7, Below wr.heap.size wr W → Sl byteR 1 W (New wr.heap.size W) A7 8 c7 b → Sl secR 3 (W.alloc (.cells #[.int .i64 z, .int .i64 x, .slice A7 8 c7] 67)) (But (W.alloc (.cells #[.int .i64 z, .int .i64 x, .slice A7 8 c7] 67)) 0 (.slice Vs k cs)) (some ⟨W.heap.size, 0, none⟩) 1 1 [⟨z, x, b⟩]) := hide fun W A7 c7 hW h7 =>
        Sl.one_ secR_fine ⟨A7, 8, c7, rfl, hz, hxi, h7.move byteR_fine (fun _ _ => rfl) (fun y hy => ⟨Nat.zero_le _, hy.2, fun e => by have h1 := (HLV.out y e.symm).2; have h2 := hy.1; omega⟩)⟩ (fun j e => by have h1 := (HLV.out j e).2; have h2 := hW.size; omega) (Nat.zero_le _)
      have hcur := Below.refl wr.heap.size wr
      have hsz0 : W0.heap.size ≤ wr.heap.size := hbr.size
      clear hxk hbk himg hltV hbs
      go_wp2_with fail
      go_region_held3 (fun W => W.cell? (ad.add k) = some (.int .i64 x) ∧ W.cell? (ed.add k) = some (.slice A' 8 c')) (first | exact HS.out _ (th hbr hcur) | exact HS.out _ (th hbr hcur.drew) | exact HS.out _ (th hbr (balR hcur _)) | exact HS.out _ (th hbr (balR hcur.drew _)) | exact HS.out _ (th hbr (balR hcur _).drew) | exact HS.out _ (th hbr (balR hcur.drew _).drew) | exact HS.out _ hb8 | exact HS.out _ hb8.drew) (first
        | (go_at_call 30; (with_reducible refine (HTB2.out _ (by first | exact hcur | exact hcur.drew)).mono ?_); rintro e w7 ⟨A7, c7, rfl, hr7, hz7⟩; have hcur := th (by first | exact hcur | exact hcur.drew) hz7; have hr7d := hr7.new_drew byteR_fine)
        | (refine step_append_ow _ (by rfl) _ _ _ (by rfl) secR_fine W0.heap.size 0 67 i0 _ 40 Try.underlying36 hi0 hz0 hz1 hz2 rfl (by omega) (.slice Vs k cs) k _ (by rfl) (by first | exact HO.out _ (balR hcur _) | exact HO.out _ (balR hcur.drew _) | exact HO.out _ (balR hcur _).drew | exact HO.out _ (balR hcur.drew _).drew) _ _ 1 1 _ (by rfl) (by first | exact HLIT.out _ _ _ hcur hr7 | exact HLIT.out _ _ _ hcur.drew hr7d | exact (HLIT.out _ _ _ hcur hr7).drew secR_fine | exact (HLIT.out _ _ _ hcur.drew hr7d).drew secR_fine) (fun _ _ _ h => h) (by simp only [maxLen]; omega) (by omega) (by first | exact Nat.le_trans hsz0 (balR hcur _).size | exact Nat.le_trans hsz0 (balR hcur.drew _).size | exact Nat.le_trans hsz0 (balR hcur _).drew.size | exact Nat.le_trans hsz0 (balR hcur.drew _).drew.size) ?_; intro V8 w8 ho8 hg8 hat8; obtain ⟨A8, c8, rfl⟩ := ho8.form; have hb8 : Below W0.heap.size W0 w8 := Below.trans (by first | exact th hbr (balR hcur _) | exact th hbr (balR hcur.drew _) | exact th hbr (balR hcur _).drew | exact th hbr (balR hcur.drew _).drew) (below_grown2 hg8 (fun j e => (HLV.out j e).1) (by first | exact Nat.le_trans hsz0 (balR hcur _).size | exact Nat.le_trans hsz0 (balR hcur.drew _).size | exact Nat.le_trans hsz0 (balR hcur _).drew.size | exact Nat.le_trans hsz0 (balR hcur.drew _).drew.size))))
      all_goals
        go_wp2_with fail
        rw [← HIM.out] at ho8
        go_roundw
        case rel => first | exact ⟨k + 1, A8, c8, by omega, by go_num, rfl, ho8, hb8⟩ | exact ⟨k + 1, A8, c8, by omega, by go_num, rfl, ho8.drew secR_fine, hb8.drew⟩
        case measure => (first | omega | (simp [RowKit.intOf]; omega) | (unfold RowKit.intOf; simp; omega) | go_num)
    · obtain rfl : k = p := by omega
      have hfl := imgs_len (z := z) HL.out
      rw [List.take_of_length_le (by rw [hfl, HLC.out]; omega)] at ho
      have HTC : Hid (∀ W, Below wr.heap.size wr W → Calls Try.prog 30 #[.slice P 8 cP] W fun e w' => ∃ A'' c'', e = .returned (.slice A'' 8 c'') ∧ Sl byteR 1 w' (New wr.heap.size w') A'' 8 c'' par ∧ Below W.heap.size W w') := hide fun W hW => (HTW.out W (hP.on byteR_fine (th hb0r hW))).mono fun e w' ⟨A'', c'', h1, h2, h3⟩ => ⟨A'', c'', h1, h2.new_ byteR_fine hW.size hW.size, h3⟩
      have HTL : Hid (∀ W, Below wr.heap.size wr W → Calls Try.prog 42 #[.agg #[.slice A n c]] W fun e w' => ∃ V q cv, e = .returned (.slice V q cv) ∧ Sl byteR 1 w' (New wr.heap.size w') V q cv (tabL L) ∧ Below W.heap.size W w') := hide fun W hW => (HTB.out W (ha.on entR_fine (th hb0r hW))).mono fun e w' ⟨V, q, cv, h1, h2, h3⟩ => ⟨V, q, cv, h1, h2.new_less byteR_fine hW.size, h3⟩
      have HO := hide fun W (hW : Below wr.heap.size wr W) => ho.below secR_fine hW
      have HLIT : Hid (∀ W A7 c7 V8 q8 c8, Below wr.heap.size wr W → Sl byteR 1 W (New wr.heap.size W) A7 8 c7 par → Sl byteR 1 W (New wr.heap.size W) V8 q8 c8 (tabL L) → Sl secR 3 (W.alloc (.cells #[.int .i64 z, .int .i64 (-1), .slice A7 8 c7, .int .i64 z, .int .i64 255, .slice V8 q8 c8] 67)) (But (W.alloc (.cells #[.int .i64 z, .int .i64 (-1), .slice A7 8 c7, .int .i64 z, .int .i64 255, .slice V8 q8 c8] 67)) 0 (.slice Vs k cs)) (some ⟨W.heap.size, 0, none⟩) 2 2 [⟨z, -1, par⟩, ⟨z, 255, tabL L⟩]) := hide fun W A7 c7 V8 q8 c8 hW h7 h8 => by
        have hE := alloc_below W (.cells #[.int .i64 z, .int .i64 (-1), .slice A7 8 c7, .int .i64 z, .int .i64 255, .slice V8 q8 c8] 67)
        refine lit_sec2 (x := ⟨z, -1, par⟩) (y := ⟨z, 255, tabL L⟩) (h7.move byteR_fine (fun y hy => hE.block y hy.2) (fun y hy => ⟨Nat.zero_le _, Nat.lt_of_lt_of_le hy.2 hE.size, fun e => by have h1 := (HLV.out y e.symm).2; have h2 := hy.1; omega⟩)) (h8.move byteR_fine (fun y hy => hE.block y hy.2) (fun y hy => ⟨Nat.zero_le _, Nat.lt_of_lt_of_le hy.2 hE.size, fun e => by have h1 := (HLV.out y e.symm).2; have h2 := hy.1; omega⟩)) hz ⟨by show -9223372036854775808 ≤ (-1 : Int); omega, by show (-1 : Int) ≤ _; omega⟩ hz ⟨by show -9223372036854775808 ≤ (255 : Int); omega, by show (255 : Int) ≤ _; omega⟩ ⟨Nat.zero_le _, by simp, fun e => by have h1 := (HLV.out _ e.symm).2; have h2 := hW.size; omega⟩
      have hcur := Below.refl wr.heap.size wr
      have hsz0 : W0.heap.size ≤ wr.heap.size := hbr.size
      clear hfl hltV
      go_upto_region 6 with fail
      go_region_held3 (fun W => W.cell? ⟨w.heap.size, 0, none⟩ = some (.slice A n c)) (first | exact HX.out _ (th hbr hcur) | exact HX.out _ (th hbr hcur.drew) | exact HX.out _ (th hbr (balR hcur _)) | exact HX.out _ (th hbr (balR hcur.drew _)) | exact HX.out _ (th hbr (balR hcur _).drew) | exact HX.out _ (th hbr (balR hcur.drew _).drew) | exact HX.out _ hb9 | exact HX.out _ hb9.drew) (first
        | (go_at_call 30; (with_reducible refine (HTC.out _ (by first | exact hcur | exact hcur.drew)).mono ?_); rintro e w7 ⟨A7, c7, rfl, hr7, hz7⟩; (first | (have hr8 := hr8.new_on byteR_fine (by first | exact hz7 | exact th (Below.refl _ _).drew hz7)) | skip); have hcur := th (by first | exact hcur | exact hcur.drew) hz7)
        | (go_at_call 42; (with_reducible refine (HTL.out _ (by first | exact hcur | exact hcur.drew)).mono ?_); rintro e w8 ⟨V8, q8, c8, rfl, hr8, hz8⟩; (first | (have hr7 := hr7.new_on byteR_fine (by first | exact hz8 | exact th (Below.refl _ _).drew hz8)) | skip); have hcur := th (by first | exact hcur | exact hcur.drew) hz8)
        | (refine step_append_ow _ (by rfl) _ _ _ (by rfl) secR_fine W0.heap.size 0 67 i0 _ 40 Try.underlying36 hi0 hz0 hz1 hz2 rfl (by omega) (.slice Vs k cs) k _ (by rfl) (by first | exact HO.out _ (balR hcur _) | exact HO.out _ (balR hcur.drew _) | exact HO.out _ (balR hcur _).drew | exact HO.out _ (balR hcur.drew _).drew) _ _ 2 2 _ (by rfl) (by first | exact HLIT.out _ _ _ _ _ _ hcur hr7 hr8 | exact HLIT.out _ _ _ _ _ _ hcur.drew (hr7.new_drew byteR_fine) (hr8.new_drew byteR_fine) | exact (HLIT.out _ _ _ _ _ _ hcur hr7 hr8).drew secR_fine | exact (HLIT.out _ _ _ _ _ _ hcur.drew (hr7.new_drew byteR_fine) (hr8.new_drew byteR_fine)).drew secR_fine) (fun _ _ _ h => h) (by simp only [maxLen]; omega) (by omega) (by first | exact Nat.le_trans hsz0 (balR hcur _).size | exact Nat.le_trans hsz0 (balR hcur.drew _).size | exact Nat.le_trans hsz0 (balR hcur _).drew.size | exact Nat.le_trans hsz0 (balR hcur.drew _).drew.size) ?_; intro V9 w9 ho9 hg9 hat9; obtain ⟨A9, c9, rfl⟩ := ho9.form; have hb9 : Below W0.heap.size W0 w9 := Below.trans (by first | exact th hbr (balR hcur _) | exact th hbr (balR hcur.drew _) | exact th hbr (balR hcur _).drew | exact th hbr (balR hcur.drew _).drew) (below_grown2 hg9 (fun j e => (HLV.out j e).1) (by first | exact Nat.le_trans hsz0 (balR hcur _).size | exact Nat.le_trans hsz0 (balR hcur.drew _).size | exact Nat.le_trans hsz0 (balR hcur _).drew.size | exact Nat.le_trans hsz0 (balR hcur.drew _).drew.size))))
      all_goals
        go_wp2_with fail
        go_ret
        first
          | exact ⟨A9, c9, rfl, ho9.read secR_fine, th hb0 hb9⟩
          | exact ⟨A9, c9, rfl, (ho9.read secR_fine).drew secR_fine, th hb0 hb9.drew⟩

end Go.Proofs.Ytikjhcfalofgaaa
