/-
  Contract: stripe.Images.
  Contract: stripe.Images of what may not be written.
-/
import Derived.Test.YtikjhcfalofgaaaStrW
import Derived.Test.YtikjhcfalofgaaaTabB
namespace Go.Proofs.Ytikjhcfalofgaaa
open Go.RowKit Go.Lib
set_option linter.unusedVariables false
set_option maxRecDepth 100000

theorem image_info : (Try.prog.info? 67).map (fun i => (i.zero, i.size, i.bytes)) = some (some (.agg #[.int .i64 0, .int .i64 0, .slice none 0 0]), 3, 40) := by kernel_rfl
theorem tb_ok {g : Geo} {A : Option Addr} {n c : Nat} {L : List Ent} (hG : GeoOk g) (hT : TabOk g.data L) (w : World) (ha : Sl entR 3 w (Old w) A n c L) (hn : n ≤ 6000) :
    Calls Try.prog 37 #[g.v, .agg #[.slice A n c]] w fun e w' => Below w.heap.size w w' ∧ ∃ V c, e = .returned (.tuple #[.slice V (9 * n) c, .int .i64 0]) ∧ Bs w' V (9 * n) c (tabL L) := by
  refine (tbytes_any A n c L g w ha hn).mono ?_
  rintro e w' ⟨hb, V, m, cv, y, er, rfl, hs, hq⟩
  unfold TBytes at hq
  rcases hq with ⟨h, _⟩ | ⟨_, rfl, rfl⟩
  · exact absurd ⟨hG, hT⟩ h
  · have h1 := hs.len
    rw [tabL_len, ha.len] at h1
    subst h1
    exact ⟨hb, V, cv, rfl, hs⟩
theorem tb_no {g : Geo} {A : Option Addr} {n c : Nat} {L : List Ent} (hT : ¬ (GeoOk g ∧ TabOk g.data L)) (w : World) (ha : Sl entR 3 w (Old w) A n c L) (hn : n ≤ 6000) :
    Calls Try.prog 37 #[g.v, .agg #[.slice A n c]] w fun e w' => Below w.heap.size w w' ∧ ∃ V c, e = .returned (.tuple #[.slice V 0 c, .int .i64 1]) := by
  refine (tbytes_any A n c L g w ha hn).mono ?_
  rintro e w' ⟨hb, V, m, cv, y, er, rfl, hs, hq⟩
  unfold TBytes at hq
  rcases hq with ⟨_, rfl, rfl⟩ | ⟨h, _⟩
  · have h1 := hs.len
    simp at h1
    subst h1
    exact ⟨hb, V, cv, rfl⟩
  · exact absurd h hT

/-- The images of blocks; all of a zone's that is written. An image reads as a sector does: two numbers, bytes. -/
def imgsL (z : Int) (ats : List Int) (bl : List (List UInt8)) : List Sec := (ats.zip bl).map fun p => ⟨z, p.1, p.2⟩
def imgL (z : Int) (L : List Ent) (par : List UInt8) (ats : List Int) (bl : List (List UInt8)) : List Sec := imgsL z ats bl ++ [⟨z, -1, par⟩, ⟨z, 255, tabL L⟩]
theorem imgs_at {z : Int} {ats : List Int} {bl : List (List UInt8)} {k : Nat} {x : Int} {b : List UInt8} (hx : ats[k]? = some x) (hb : bl[k]? = some b) : (imgsL z ats bl)[k]? = some ⟨z, x, b⟩ := by
  have h1 : (ats.zip bl)[k]? = some (x, b) := List.getElem?_zip_eq_some.2 ⟨hx, hb⟩
  unfold imgsL
  rw [List.getElem?_map, h1]
  rfl
theorem imgs_len {z : Int} {ats : List Int} {bl : List (List UInt8)} (h : bl.length = ats.length) : (imgsL z ats bl).length = ats.length := by simp [imgsL, h]
theorem take_snoc' {α : Type} {L : List α} {k : Nat} {x : α} (h : L[k]? = some x) : L.take (k + 1) = L.take k ++ [x] := by
  obtain ⟨h1, e1⟩ := List.getElem?_eq_some_iff.1 h
  rw [List.take_succ_eq_append_getElem h1, e1]

/-- A literal of two images. -/
theorem lit_sec2 {w : World} {S : Nat → Prop} {e : TypeId} {A A' : Option Addr} {n c n' c' : Nat} {x y : Sec}
    (hx : Sl byteR 1 (w.alloc (.cells #[.int .i64 x.addr, .int .i64 x.stamp, .slice A n c, .int .i64 y.addr, .int .i64 y.stamp, .slice A' n' c'] e)) S A n c x.load) (hy : Sl byteR 1 (w.alloc (.cells #[.int .i64 x.addr, .int .i64 x.stamp, .slice A n c, .int .i64 y.addr, .int .i64 y.stamp, .slice A' n' c'] e)) S A' n' c' y.load)
    (x1 : InI x.addr) (x2 : InI x.stamp) (y1 : InI y.addr) (y2 : InI y.stamp) (hS : S w.heap.size) :
    Sl secR 3 (w.alloc (.cells #[.int .i64 x.addr, .int .i64 x.stamp, .slice A n c, .int .i64 y.addr, .int .i64 y.stamp, .slice A' n' c'] e)) S (some ⟨w.heap.size, 0, none⟩) 2 2 [x, y] := by
  refine ⟨rfl, Nat.le_refl _, fun _ => ⟨_, rfl, hS, fun i v hi => ?_⟩⟩
  have h1 := (List.getElem?_eq_some_iff.1 hi).1
  simp at h1
  obtain rfl | rfl : i = 0 ∨ i = 1 := by omega
  · simp at hi
    subst hi
    refine ⟨[.int .i64 x.addr, .int .i64 x.stamp, .slice A n c], ⟨A, n, c, rfl, x1, x2, hx⟩, fun j u hu => ?_⟩
    rw [add_of_add, Nat.zero_mul, Nat.zero_add]
    have hj := (List.getElem?_eq_some_iff.1 hu).1
    simp at hj
    refine World.news_of_block (heap_alloc_new w _) j u ?_
    obtain rfl | rfl | rfl : j = 0 ∨ j = 1 ∨ j = 2 := by omega
    all_goals exact hu
  · simp at hi
    subst hi
    refine ⟨[.int .i64 y.addr, .int .i64 y.stamp, .slice A' n' c'], ⟨A', n', c', rfl, y1, y2, hy⟩, fun j u hu => ?_⟩
    rw [add_of_add]
    have hj := (List.getElem?_eq_some_iff.1 hu).1
    simp at hj
    refine World.news_of_block (heap_alloc_new w _) (1 * 3 + j) u ?_
    obtain rfl | rfl | rfl : j = 0 ∨ j = 1 ∨ j = 2 := by omega
    all_goals exact hu

set_option maxHeartbeats 4000000 in
theorem images_ok {g : Geo} {d : Nat} (hG : GeoOk g) (hd : g.data = (d : Int)) {A C E P : Option Addr} {n c q cq p cp cP : Nat} {L : List Ent} {ats : List Int} {bl : List (List UInt8)} {par : List UInt8} (z : Int) (hz : InI z) {w : World}
    (ha : Sl entR 3 w (Old w) A n c L) (hP : Bs w P 8 cP par) (hc : Is w C q cq ats) (hb : Rs w E p cp bl) (hT : TabOk g.data L) (hzz : 0 ≤ z ∧ z < g.zones) (hA : AtsOk g.data ats) (hl : bl.length = ats.length) (h8 : ∀ x ∈ bl, x.length = 8) :
    Calls Try.prog 12 #[g.v, .int .i64 z, .agg #[.slice A n c], .slice P 8 cP, .slice C q cq, .slice E p cp] w fun e w' => ∃ V cv, e = .returned (.tuple #[.slice V (q + 2) cv, .int .i64 0]) ∧
      Sl secR 3 w' (Old w') V (q + 2) cv (imgL z L par ats bl) ∧ Below w.heap.size w w' := by
  obtain ⟨i0, hi0, hz0, hz1, hz2⟩ := info_parts image_info
  obtain ⟨gz, gd, gs, gl, ga⟩ := g
  dsimp only at hd
  subst hd
  have hd4 := hG.2.1
  dsimp only at hd4 hT hA hzz
  obtain ⟨hzl, hzh⟩ := hzz
  have hn : n = d + 1 := by have h1 := ha.len; have h2 := hT.1; omega
  have hqd : q ≤ d := by have h1 := hc.len; have h2 := ats_len hA; omega
  have hpq : p = q := by have h1 := hc.len; have h2 := hb.len; omega
  subst hn
  subst hpq
  have hlb := hb.len
  have hlc := hc.len
  have htb := fun w ha => tb_ok (A := A) (n := d + 1) (c := c) hG hT w ha (by omega)
  have hri := fun w hc => rising_any ⟨gz, d, gs, gl, ga⟩ C p cq ats w hc (by omega)
  rw [decide_eq_true hA] at hri
  have hwh := fun w hb => whole_any E p cp bl w hb (by omega)
  rw [decide_eq_true (show ∀ x ∈ bl, Blk8 x from h8)] at hwh
  have hw1 := fun (A : Option Addr) (w : World) hb => whole_any A 1 1 [par] w hb (by omega)
  rw [decide_eq_true (show ∀ x ∈ [par], Blk8 x from fun x hx => by simp at hx; subst hx; exact hP.len)] at hw1
  obtain ⟨W0, hW0⟩ : ∃ W0, W0 = (w.alloc (.cells #[.int .i64 gz, .int .i64 d, .int .i64 gs, .int .i64 gl, .int .i64 ga] 23)).alloc (.cells #[.slice A (d + 1) c] 26) := ⟨_, rfl⟩
  have hb0 : Below w.heap.size w W0 := by rw [hW0]; exact (alloc_below w _).alloc (by simp) _
  have hx : ∀ W, Below W0.heap.size W0 W → (W.cell? ⟨w.heap.size, 0, none⟩ = some (.int .i64 gz) ∧ W.cell? ⟨w.heap.size, 1, none⟩ = some (.int .i64 d) ∧ W.cell? ⟨w.heap.size, 2, none⟩ = some (.int .i64 gs) ∧ W.cell? ⟨w.heap.size, 3, none⟩ = some (.int .i64 gl) ∧ W.cell? ⟨w.heap.size, 4, none⟩ = some (.int .i64 ga)) ∧ W.cell? ⟨w.heap.size + 1, 0, none⟩ = some (.slice A (d + 1) c) := fun W hW => by
    have h1 : Below (w.alloc (.cells #[.int .i64 gz, .int .i64 d, .int .i64 gs, .int .i64 gl, .int .i64 ga] 23)).heap.size (w.alloc (.cells #[.int .i64 gz, .int .i64 d, .int .i64 gs, .int .i64 gl, .int .i64 ga] 23)) W0 := by rw [hW0]; exact alloc_below _ _
    have h3 := th h1 hW
    refine ⟨⟨box_cell h3 0 _ rfl, box_cell h3 1 _ rfl, box_cell h3 2 _ rfl, box_cell h3 3 _ rfl, box_cell h3 4 _ rfl⟩, ?_⟩
    subst hW0
    have := box_cell hW 0 _ rfl
    simpa using this
  have HX := hide hx
  have HTB := hide htb
  have HRI := hide hri
  have HWH := hide hwh
  have HW1 := hide hw1
  have HLB := hide hlb
  have HLC := hide hlc
  have ha0 := ha.on entR_fine hb0
  have hc0 := hc.on intR_fine hb0
  have hbl0 := hb.on bytesR_fine hb0
  have hP0 := hP.on byteR_fine hb0
  obtain ⟨⟨p0, p1, p2, p3, p4⟩, pt⟩ := hx W0 (Below.refl _ _)
  rw [hW0] at p0 p1 p2 p3 p4 pt
  have k1 : ¬ z < 0 := by omega
  have k2 : ¬ gz ≤ z := by omega
  have HL := hide hl
  have HH8 := hide h8
  clear htb hri hwh hw1 hx hlb hlc h8 hA hl hT hG
  unfold Geo.v at *
  go_enter Try.func12, Try.ntmps12
  go_wp2_with fail
  rw [← hW0]
  clear p0 p1 p2 p3 p4 pt hW0
  refine (HTB.out _ ha0).mono ?_
  rintro e w1 ⟨hb1, V1, c1, rfl, hs1⟩
  obtain ⟨⟨p0, p1, p2, p3, p4⟩, pt⟩ := HX.out w1 hb1
  go_wp2_with fail
  refine (HRI.out _ (hc0.on intR_fine hb1)).mono ?_
  rintro e w2 ⟨rfl, hb2⟩
  have hb12 := th hb1 hb2
  obtain ⟨⟨p0, p1, p2, p3, p4⟩, pt⟩ := HX.out w2 hb12
  go_wp2_with fail
  refine (HWH.out _ (hbl0.on bytesR_fine hb12)).mono ?_
  rintro e w2' ⟨rfl, rfl⟩
  go_wp2_with fail
  refine (HW1.out _ _ (lit_one 29 (hP0.on byteR_fine hb12))).mono ?_
  rintro e w5 ⟨rfl, hw5⟩
  obtain ⟨W5, hW5⟩ : ∃ W5, W5 = w2.alloc (.cells #[.slice P 8 cP] 29) := ⟨_, rfl⟩
  have hb05 : Below w.heap.size w W5 := by rw [hW5]; exact th hb0 (th hb12 (alloc_below _ _))
  have hs5 : Bs W5 V1 (9 * (d + 1)) c1 (tabL L) := by rw [hW5]; exact hs1.on byteR_fine (th hb2 (alloc_below _ _))
  have hw5' : W5 = w5 := hW5.trans hw5
  subst hw5'
  clear hw5 hW5
  clear p0 p1 p2 p3 p4 pt
  go_wp2_with fail
  go_loopw [16, 63] (fun v i wr => ∃ k : Nat, ∃ Vs cs, k ≤ p ∧ i = .int .i64 k ∧ v = .slice Vs k cs ∧ Ow secR 3 wr W5.heap.size 0 67 (.slice Vs k cs) k ((imgsL z ats bl).take k) ∧ Below W5.heap.size W5 wr) (fun _ i _ => p - (RowKit.intOf i).toNat)
  case atStart => exact ⟨0, none, 0, Nat.zero_le _, rfl, rfl, Ow.nil_ _ _ _ _, Below.refl _ _⟩
  case round =>
    obtain ⟨k, Vs, cs, hk, rfl, rfl, ho, hbr⟩ := hrel
    have hb0r := th hb05 hbr
    by_cases hlt : k < p
    · have hlI : (k : Int) < (p : Int) := by omega
      have k0 : (0 : Int) ≤ (k : Int) := by omega
      obtain ⟨ad, x, rfl, hadl, hxk, hxi, hxc⟩ := at_int (hc.on intR_fine hb0r) hlt
      obtain ⟨ed, b, A', n', c', rfl, hedl, hbk, hbs, hbc⟩ := at_row (hb.on bytesR_fine hb0r) hlt
      have himg := imgs_at (z := z) hxk hbk
      have HIM := hide (take_snoc' himg)
      obtain rfl : n' = 8 := by have h1 := hbs.len; have h2 := HH8.out b (List.mem_of_getElem? hbk); omega
      have HCL := hide (clone_any A' 8 c' b wr hbs (by omega))
      clear hxk hbk himg
      go_wp2_with fail
      refine HCL.out.mono ?_
      rintro e w7 ⟨A7, c7, rfl, ho7, hb7⟩
      have hltV : ∀ j, (Value.slice Vs k cs).ownBlock = some j → j < wr.heap.size := fun j e => (ho.lt j e).2
      have hlit : Sl secR 3 (w7.alloc (.cells #[.int .i64 z, .int .i64 x, .slice A7 8 c7] 67)) (But (w7.alloc (.cells #[.int .i64 z, .int .i64 x, .slice A7 8 c7] 67)) 0 (.slice Vs k cs)) (some ⟨w7.heap.size, 0, none⟩) 1 1 [⟨z, x, b⟩] :=
        Sl.one_ secR_fine ⟨A7, 8, c7, rfl, hz, hxi, (ho7.new_ byteR_fine (Nat.le_refl _) (Nat.le_refl _)).move byteR_fine (fun _ _ => rfl) (fun y hy => ⟨Nat.zero_le _, hy.2, fun e => by have h1 := hltV y e.symm; have h2 := hy.1; omega⟩)⟩ (fun j e => by have h1 := hltV j e; have h2 := hb7.size; omega) (Nat.zero_le _)
      have hE8 := alloc_below w7 (.cells #[.int .i64 z, .int .i64 x, .slice A7 8 c7] 67)
      have hoE := (ho.below secR_fine hb7).below secR_fine hE8
      have hbE := th hbr (th hb7 hE8)
      have hsE : W5.heap.size ≤ (w7.alloc (.cells #[.int .i64 z, .int .i64 x, .slice A7 8 c7] 67)).heap.size := hbE.size
      clear hltV
      go_wp2_with (at_builtin; refine wpList_append_ow _ rfl (.tmp 68) (.tmp 77) _ rfl secR_fine W5.heap.size 0 67 i0 _ 40 Try.underlying36 hi0 hz0 hz1 hz2 rfl (by omega) (.slice Vs k cs) k _ rfl hoE _ _ 1 1 _ rfl hlit (fun _ _ _ h => h) (by simp only [maxLen]; omega) (by omega) hsE ?_; intro V8 w8 ho8 hg8 hat8; obtain ⟨A8, c8, rfl⟩ := ho8.form)
      rw [← HIM.out] at ho8
      have hb8 := hbE.trans (below_grown hg8 hoE.lt hsE)
      go_roundw
      case rel => exact ⟨k + 1, A8, c8, by omega, by go_num, rfl, ho8, hb8⟩
      case measure => (first | omega | (simp [RowKit.intOf]; omega) | (unfold RowKit.intOf; simp; omega) | go_num)
    · obtain rfl : k = p := by omega
      have hfl := imgs_len (z := z) HL.out
      rw [List.take_of_length_le (by rw [hfl, HLC.out]; omega)] at ho
      have HCP := hide (clone_any P 8 cP par wr (hP.on byteR_fine hb0r) (by omega))
      have hs5r := hs5.on byteR_fine hbr
      clear hfl
      go_wp2_with fail
      refine HCP.out.mono ?_
      rintro e w7 ⟨A7, c7, rfl, ho7, hb7⟩
      have hltV : ∀ j, (Value.slice Vs k cs).ownBlock = some j → W5.heap.size ≤ j ∧ j < wr.heap.size := fun j e => ho.lt j e
      have hE8 := alloc_below w7 (.cells #[.int .i64 z, .int .i64 (-1), .slice A7 8 c7, .int .i64 z, .int .i64 255, .slice V1 (9 * (d + 1)) c1] 67)
      have hb78 := th hb7 hE8
      have hb58 := th hbr hb78
      have hlit : Sl secR 3 (w7.alloc (.cells #[.int .i64 z, .int .i64 (-1), .slice A7 8 c7, .int .i64 z, .int .i64 255, .slice V1 (9 * (d + 1)) c1] 67)) (But (w7.alloc (.cells #[.int .i64 z, .int .i64 (-1), .slice A7 8 c7, .int .i64 z, .int .i64 255, .slice V1 (9 * (d + 1)) c1] 67)) 0 (.slice Vs k cs)) (some ⟨w7.heap.size, 0, none⟩) 2 2 [⟨z, -1, par⟩, ⟨z, 255, tabL L⟩] := by
        have h7 := hb7.size
        have h8 := hE8.size
        refine lit_sec2 (x := ⟨z, -1, par⟩) (y := ⟨z, 255, tabL L⟩) ((ho7.new_ byteR_fine (Nat.le_refl _) (Nat.le_refl _)).move byteR_fine (fun y hy => hE8.block y hy.2) (fun y hy => ⟨Nat.zero_le _, Nat.lt_of_lt_of_le hy.2 h8, fun e => by have h1 := (hltV y e.symm).2; have h2 := hy.1; omega⟩))
          (hs5.move byteR_fine (fun y hy => hb58.block y hy) (fun y hy => ⟨Nat.zero_le _, Nat.lt_of_lt_of_le hy hb58.size, fun e => by have h1 := (hltV y e.symm).1; have h2 : y < W5.heap.size := hy; omega⟩)) hz ⟨by show -9223372036854775808 ≤ (-1 : Int); omega, by show (-1 : Int) ≤ _; omega⟩ hz ⟨by show -9223372036854775808 ≤ (255 : Int); omega, by show (255 : Int) ≤ _; omega⟩ ⟨Nat.zero_le _, by simp, fun e => by have h1 := (hltV _ e.symm).2; omega⟩
      have hoE := (ho.below secR_fine hb7).below secR_fine hE8
      have hsE : W5.heap.size ≤ (w7.alloc (.cells #[.int .i64 z, .int .i64 (-1), .slice A7 8 c7, .int .i64 z, .int .i64 255, .slice V1 (9 * (d + 1)) c1] 67)).heap.size := hb58.size
      clear hltV
      go_wp2_with (at_builtin; refine wpList_append_ow _ rfl (.tmp 80) (.tmp 88) _ rfl secR_fine W5.heap.size 0 67 i0 _ 40 Try.underlying36 hi0 hz0 hz1 hz2 rfl (by omega) (.slice Vs k cs) k _ rfl hoE _ _ 2 2 _ rfl hlit (fun _ _ _ h => h) (by simp only [maxLen]; omega) (by omega) hsE ?_; intro V8 w8 ho8 hg8 hat8; obtain ⟨A8, c8, rfl⟩ := ho8.form)
      have hb8 := hb58.trans (below_grown hg8 hoE.lt hsE)
      go_ret2
      exact ⟨A8, c8, rfl, ho8.read secR_fine, th hb05 hb8⟩

end Go.Proofs.Ytikjhcfalofgaaa

namespace Go.Proofs.Ytikjhcfalofgaaa
open Go.RowKit Go.Lib
set_option linter.unusedVariables false
set_option maxRecDepth 100000

/-- Why there are no images; nought: there are. -/
def imErr (g : Geo) (z : Int) (L : List Ent) (par : List UInt8) (ats : List Int) (bl : List (List UInt8)) : Int :=
  if ¬ (GeoOk g ∧ TabOk g.data L) then 1 else if ¬ ((0 ≤ z ∧ z < g.zones) ∧ AtsOk g.data ats) then 1 else if ¬ ((bl.length = ats.length ∧ ∀ x ∈ bl, x.length = 8) ∧ par.length = 8) then 2 else 0

set_option maxHeartbeats 4000000 in
theorem images_bad {g : Geo} {A C E P : Option Addr} {n c q cq p cp m cP : Nat} {L : List Ent} {ats : List Int} {bl : List (List UInt8)} {par : List UInt8} (z : Int) {w : World}
    (ha : Sl entR 3 w (Old w) A n c L) (hP : Bs w P m cP par) (hc : Is w C q cq ats) (hb : Rs w E p cp bl) (hn : n ≤ 6000) (hq : q ≤ 65536) (hp : p ≤ 65536) (h0 : imErr g z L par ats bl ≠ 0) :
    Calls Try.prog 12 #[g.v, .int .i64 z, .agg #[.slice A n c], .slice P m cP, .slice C q cq, .slice E p cp] w fun e w' => e = .returned (.tuple #[.slice none 0 0, .int .i64 (imErr g z L par ats bl)]) ∧ Below w.heap.size w w' := by
  obtain ⟨R, hR⟩ : ∃ R, R = imErr g z L par ats bl := ⟨_, rfl⟩
  have htn := fun hT w ha => tb_no (g := g) (A := A) (n := n) (c := c) (L := L) hT w ha hn
  have hty := fun hG hT w ha => tb_ok (g := g) (A := A) (n := n) (c := c) (L := L) hG hT w ha hn
  have hri := fun w hc => rising_any g C q cq ats w hc hq
  have hwh := fun w hb => whole_any E p cp bl w hb hp
  have hw1 := fun (A : Option Addr) (w : World) hb => whole_any A 1 1 [par] w hb (by omega)
  have hlp := hb.len
  have hlq := hc.len
  have hlP := hP.len
  rw [← hR] at h0 ⊢
  unfold imErr at hR
  obtain ⟨gz, gd, gs, gl, ga⟩ := g
  dsimp only at hR htn hty hri
  obtain ⟨W0, hW0⟩ : ∃ W0, W0 = (w.alloc (.cells #[.int .i64 gz, .int .i64 gd, .int .i64 gs, .int .i64 gl, .int .i64 ga] 23)).alloc (.cells #[.slice A n c] 26) := ⟨_, rfl⟩
  have hb0 : Below w.heap.size w W0 := by rw [hW0]; exact (alloc_below w _).alloc (by simp) _
  have hx : ∀ W, Below W0.heap.size W0 W → (W.cell? ⟨w.heap.size, 0, none⟩ = some (.int .i64 gz) ∧ W.cell? ⟨w.heap.size, 1, none⟩ = some (.int .i64 gd) ∧ W.cell? ⟨w.heap.size, 2, none⟩ = some (.int .i64 gs) ∧ W.cell? ⟨w.heap.size, 3, none⟩ = some (.int .i64 gl) ∧ W.cell? ⟨w.heap.size, 4, none⟩ = some (.int .i64 ga)) ∧ W.cell? ⟨w.heap.size + 1, 0, none⟩ = some (.slice A n c) := fun W hW => by
    have h1 : Below (w.alloc (.cells #[.int .i64 gz, .int .i64 gd, .int .i64 gs, .int .i64 gl, .int .i64 ga] 23)).heap.size (w.alloc (.cells #[.int .i64 gz, .int .i64 gd, .int .i64 gs, .int .i64 gl, .int .i64 ga] 23)) W0 := by rw [hW0]; exact alloc_below _ _
    have h3 := th h1 hW
    refine ⟨⟨box_cell h3 0 _ rfl, box_cell h3 1 _ rfl, box_cell h3 2 _ rfl, box_cell h3 3 _ rfl, box_cell h3 4 _ rfl⟩, ?_⟩
    subst hW0
    have := box_cell hW 0 _ rfl
    simpa using this
  have HX := hide hx
  have HTN := hide htn
  have HTY := hide hty
  have HRI := hide hri
  have HWH := hide hwh
  have HW1 := hide hw1
  have HR := hide hR
  have HLP := hide hlp
  have HLQ := hide hlq
  have HLM := hide hlP
  have ha0 := ha.on entR_fine hb0
  have hc0 := hc.on intR_fine hb0
  have hbl0 := hb.on bytesR_fine hb0
  have hP0 := hP.on byteR_fine hb0
  obtain ⟨⟨p0, p1, p2, p3, p4⟩, pt⟩ := hx W0 (Below.refl _ _)
  rw [hW0] at p0 p1 p2 p3 p4 pt
  clear htn hty hri hwh hw1 hx hR hlp hlq hlP
  unfold Geo.v at *
  have H0 := hide h0
  clear h0
  go_enter Try.func12, Try.ntmps12
  go_wp2_with fail
  rw [← hW0]
  clear p0 p1 p2 p3 p4 pt hW0
  by_cases z1 : GeoOk ⟨gz, gd, gs, gl, ga⟩ ∧ TabOk gd L
  · have hr1 : R = if ¬ ((0 ≤ z ∧ z < gz) ∧ AtsOk gd ats) then 1 else if ¬ ((bl.length = ats.length ∧ ∀ x ∈ bl, x.length = 8) ∧ par.length = 8) then 2 else 0 := by have h := HR.out; rw [if_neg (not_not_intro z1)] at h; exact h
    have HR1 := hide hr1
    refine (HTY.out z1.1 z1.2 _ ha0).mono ?_
    rintro e w1 ⟨hb1, V1, c1, rfl, hs1⟩
    obtain ⟨⟨p0, p1, p2, p3, p4⟩, pt⟩ := HX.out w1 hb1
    clear hr1 z1 hs1
    by_cases k1 : z < 0
    · obtain rfl : R = 1 := by have h := HR1.out; rw [if_pos (fun h2 => by have := h2.1; omega)] at h; exact h
      go_wp2_with fail
      go_ret2
      exact ⟨rfl, th hb0 hb1⟩
    · by_cases k2 : gz ≤ z
      · obtain rfl : R = 1 := by have h := HR1.out; rw [if_pos (fun h2 => by have := h2.1; omega)] at h; exact h
        go_wp2_with fail
        go_ret2
        exact ⟨rfl, th hb0 hb1⟩
      · by_cases hA : AtsOk gd ats
        · have hr2 : R = if ¬ ((bl.length = ats.length ∧ ∀ x ∈ bl, x.length = 8) ∧ par.length = 8) then 2 else 0 := by have h := HR1.out; rw [if_neg (not_not_intro ⟨⟨by omega, by omega⟩, hA⟩)] at h; exact h
          obtain rfl : R = 2 := by
            by_cases hz : (bl.length = ats.length ∧ ∀ x ∈ bl, x.length = 8) ∧ par.length = 8
            · rw [if_neg (not_not_intro hz)] at hr2
              exact absurd hr2 H0.out
            · rw [if_pos hz] at hr2
              exact hr2
          have hno : ¬ ((bl.length = ats.length ∧ ∀ x ∈ bl, x.length = 8) ∧ par.length = 8) := fun h => by rw [if_neg (not_not_intro h)] at hr2; cases hr2
          have HNO := hide hno
          have HRI2 := hide (fun w hc => (HRI.out w hc).mono fun e w' (h : e = .returned (.bool (decide (AtsOk gd ats))) ∧ Below w.heap.size w w') => (⟨by rw [h.1, decide_eq_true hA], h.2⟩ : e = .returned (.bool true) ∧ Below w.heap.size w w'))
          clear hr2 hno hA
          by_cases hpq : p = q
          · by_cases h8 : ∀ x ∈ bl, Blk8 x
            · have hwt := hide (fun w hb => (HWH.out w hb).mono fun e w' (h : e = .returned (.bool (decide (∀ x ∈ bl, Blk8 x))) ∧ w = w') => (⟨by rw [h.1, decide_eq_true h8], h.2⟩ : e = .returned (.bool true) ∧ w = w'))
              have hpn : ¬ ∀ x ∈ [par], Blk8 x := fun h => HNO.out ⟨⟨by rw [HLP.out, HLQ.out, hpq], h8⟩, h par (by simp)⟩
              have hwp := hide (fun A w hb => (HW1.out A w hb).mono fun e w' (h : e = .returned (.bool (decide (∀ x ∈ [par], Blk8 x))) ∧ w = w') => (⟨by rw [h.1, decide_eq_false hpn], h.2⟩ : e = .returned (.bool false) ∧ w = w'))
              clear h8 hpn
              subst hpq
              go_wp2_with fail
              refine (HRI2.out _ (hc0.on intR_fine hb1)).mono ?_
              rintro e w2 ⟨rfl, hb2⟩
              go_wp2_with fail
              refine (hwt.out _ (hbl0.on bytesR_fine (th hb1 hb2))).mono ?_
              rintro e w3 ⟨rfl, rfl⟩
              go_wp2_with fail
              refine (hwp.out _ _ (lit_one 29 (hP0.on byteR_fine (th hb1 hb2)))).mono ?_
              rintro e w4 ⟨rfl, rfl⟩
              go_wp2_with fail
              go_ret2
              exact ⟨rfl, th hb0 (th hb1 (th hb2 (alloc_below _ _)))⟩
            · have hwf := hide (fun w hb => (HWH.out w hb).mono fun e w' (h : e = .returned (.bool (decide (∀ x ∈ bl, Blk8 x))) ∧ w = w') => (⟨by rw [h.1, decide_eq_false h8], h.2⟩ : e = .returned (.bool false) ∧ w = w'))
              clear h8
              subst hpq
              go_wp2_with fail
              refine (HRI2.out _ (hc0.on intR_fine hb1)).mono ?_
              rintro e w2 ⟨rfl, hb2⟩
              go_wp2_with fail
              refine (hwf.out _ (hbl0.on bytesR_fine (th hb1 hb2))).mono ?_
              rintro e w3 ⟨rfl, rfl⟩
              go_wp2_with fail
              go_ret2
              exact ⟨rfl, th hb0 (th hb1 hb2)⟩
          · have hpq' : ((p : Int) != (q : Int)) = true := by simp; omega
            have hpq2 : (p != q) = true := by simp; omega
            clear hpq
            go_wp2_with fail
            refine (HRI2.out _ (hc0.on intR_fine hb1)).mono ?_
            rintro e w2 ⟨rfl, hb2⟩
            go_wp2_with fail
            go_ret2
            exact ⟨rfl, th hb0 (th hb1 hb2)⟩
        · obtain rfl : R = 1 := by have h := HR1.out; rw [if_pos (fun h2 => hA h2.2)] at h; exact h
          have HRI2 := hide (fun w hc => (HRI.out w hc).mono fun e w' (h : e = .returned (.bool (decide (AtsOk gd ats))) ∧ Below w.heap.size w w') => (⟨by rw [h.1, decide_eq_false hA], h.2⟩ : e = .returned (.bool false) ∧ Below w.heap.size w w'))
          clear hA
          go_wp2_with fail
          refine (HRI2.out _ (hc0.on intR_fine hb1)).mono ?_
          rintro e w2 ⟨rfl, hb2⟩
          go_wp2_with fail
          go_ret2
          exact ⟨rfl, th hb0 (th hb1 hb2)⟩
  · obtain rfl : R = 1 := by have h := HR.out; rw [if_pos z1] at h; exact h
    refine (HTN.out z1 _ ha0).mono ?_
    rintro e w1 ⟨hb1, V1, c1, rfl⟩
    clear z1
    go_wp2_with fail
    go_ret2
    exact ⟨rfl, th hb0 hb1⟩

end Go.Proofs.Ytikjhcfalofgaaa
