/-
  Contract: anchor.Bytes.
-/
import Derived.Test.YtamgpbkakmffiaaDoorAncK
import Derived.Test.YtamgpbkakmffiaaDoorRowO
import Derived.Test.YtamgpbkakmffiaaDoorLabC
namespace Go.Proofs.YtamgpbkakmffiaaDoor
open Go.RowKit Go.Lib
set_option linter.unusedVariables false
set_option maxRecDepth 100000

theorem le_one (n : Nat) : le 1 n = [UInt8.ofNat n] := rfl
theorem row_head (a : Anc) : rowL [a.gen, a.epoch, a.seq, a.last, a.pos] [4, 4, 4, 4, 1] = headL a := by simp [rowL, headL, List.append_assoc]
theorem row_tail (h : Hom) : rowL [h.next, h.root] [1, 4] = le 1 h.next.toNat ++ le 4 h.root.toNat := by simp [rowL]
theorem fit_of {n : Int} {k : Nat} {m : Int} (hk : k = 1 ∨ k = 2 ∨ k = 4) (h0 : 0 ≤ n) (h1 : n < m) (hm : m = 256 ^ k) : FitsP n (k : Int) := ⟨by rcases hk with h | h | h <;> subst h; exact .inl rfl; exact .inr (.inl rfl); exact .inr (.inr rfl), h0, by rw [Int.toNat_natCast, ← hm]; exact h1⟩
theorem fit_four {n : Int} (h : NumOk n) : FitsP n 4 := fit_of (k := 4) (.inr (.inr rfl)) h.1 (m := 4294967296) (by have := h.2; omega) (by decide)
theorem fit_one {n : Int} (h0 : 0 ≤ n) (h1 : n ≤ 255) : FitsP n 1 := fit_of (k := 1) (.inl rfl) h0 (m := 256) (by omega) (by decide)
theorem fit_head {a : Anc} {g : Geo} (hG : GeoOk g) (h : HeadOk g a) : FitAll [a.gen, a.epoch, a.seq, a.last, a.pos] [4, 4, 4, 4, 1] := by
  obtain ⟨h1, h2, h3, h4, _, _, h5, h6⟩ := h
  have hs := hG.2.2.2.1
  intro i n z hn hz
  match i, hn, hz with
  | 0, hn, hz => simp at hn hz; subst hn; subst hz; exact fit_four h1
  | 1, hn, hz => simp at hn hz; subst hn; subst hz; exact fit_four h2
  | 2, hn, hz => simp at hn hz; subst hn; subst hz; exact fit_four h3
  | 3, hn, hz => simp at hn hz; subst hn; subst hz; exact fit_four h4
  | 4, hn, hz => simp at hn hz; subst hn; subst hz; exact fit_one h5 (by omega)
  | i + 5, hn, hz => simp at hn
theorem fit_tail {h : Hom} {g : Geo} (hG : GeoOk g) (ho : HomOk g h) : FitAll [h.next, h.root] [1, 4] := by
  have hd := hG.2.1
  have hs := hG.2.2.1
  have hn := ho.2.1
  intro i n z hn' hz
  match i, hn', hz with
  | 0, hn', hz => simp at hn' hz; subst hn'; subst hz; exact fit_one (by omega) (by omega)
  | 1, hn', hz => simp at hn' hz; subst hn'; subst hz; exact fit_four ho.2.2.1
  | i + 2, hn', hz => simp at hn'

/-- A right anchor's bytes up to the k-th home. -/
def ancP (a : Anc) (k : Nat) : List UInt8 := headL a ++ labB (sL a.label) ++ homsL (a.homes.take k)
theorem ancP_zero (a : Anc) : ancP a 0 = headL a ++ labB (sL a.label) := by simp [ancP, homsL]
theorem ancP_all (a : Anc) {n : Nat} (h : a.homes.length = n) : ancP a n = ancL a := by rw [ancP, ancL, List.take_of_length_le (by omega)]
theorem homsL_take {l : List Hom} {k : Nat} {h : Hom} (hk : l[k]? = some h) : homsL (l.take (k + 1)) = homsL (l.take k) ++ homL h := by
  obtain ⟨h1, h2⟩ := List.getElem?_eq_some_iff.1 hk
  rw [List.take_succ_eq_append_getElem h1, h2]
  simp [homsL]
theorem ancP_step {a : Anc} {k : Nat} {h : Hom} (hk : a.homes[k]? = some h) : ancP a (k + 1) = ancP a k ++ (h.places.map fun p => UInt8.ofNat p.toNat) ++ (le 1 h.next.toNat ++ le 4 h.root.toNat) := by
  rw [ancP, homsL_take hk, ancP, homL]
  simp only [List.append_assoc]
theorem pls_step {l : List Int} {j : Nat} {p : Int} (h : l[j]? = some p) : ((l.take (j + 1)).map fun p => UInt8.ofNat p.toNat) = ((l.take j).map fun p => UInt8.ofNat p.toNat) ++ le 1 p.toNat := by
  obtain ⟨h1, h2⟩ := List.getElem?_eq_some_iff.1 h
  rw [List.take_succ_eq_append_getElem h1, h2]
  simp [le]

def ABytes (g : Geo) (a : Anc) (l : List UInt8) (err : Int) : Prop := (¬ (GeoOk g ∧ AncOk g a) ∧ err = 1 ∧ l = []) ∨ ((GeoOk g ∧ AncOk g a) ∧ err = 0 ∧ l = ancL a)
def ABytesPost (w : World) (g : Geo) (a : Anc) (e : Ending) (w' : World) : Prop := Below w.heap.size w w' ∧ ∃ V n c l err, e = .returned (.tuple #[.slice V n c, .int .i64 err]) ∧ Ow byteR 1 w' w.heap.size 0 5 (.slice V n c) n l ∧ ABytes g a l err

theorem put_byte {A : Option Addr} {n c : Nat} {xs : List UInt8} {w : World} (ha : Bs w A n c xs) (hn : n ≤ 60000) (N : Int) (h0 : 0 ≤ N) (h1 : N ≤ 255) :
    Calls Tryd.prog 74 #[.slice A n c, .int .i64 N, .int .i64 1] w fun e w' => ∃ V cv, e = .returned (.tuple #[.slice V (n + 1) cv, .int .i64 0]) ∧ Ow byteR 1 w' w.heap.size w.heap.size 5 (.slice V (n + 1) cv) (n + 1) (xs ++ le 1 N.toNat) ∧ Below w.heap.size w w' := put_ok ha hn N 1 (fit_one h0 h1)
theorem row_two {h : Hom} {g : Geo} (hG : GeoOk g) (ho : HomOk g h) (hin : InI h.next ∧ InI h.root) (w : World) :
    Calls Tryd.prog 72 #[.slice (some ⟨w.heap.size, 0, none⟩) 2 2, .slice (some ⟨w.heap.size + 1, 0, none⟩) 2 2] ((w.alloc (.cells #[.int .i64 h.next, .int .i64 h.root] 3)).alloc (.cells #[.int .i64 1, .int .i64 4] 3)) fun e w' => ∃ V cv, e = .returned (.tuple #[.slice V 5 cv, .int .i64 0]) ∧ Ow byteR 1 w' w.heap.size 0 5 (.slice V 5 cv) 5 (le 1 h.next.toNat ++ le 4 h.root.toNat) ∧ Below w.heap.size w w' := by
  obtain ⟨i1, i2⟩ := hin
  have h1 : Is ((w.alloc (.cells #[.int .i64 h.next, .int .i64 h.root] 3)).alloc (.cells #[.int .i64 1, .int .i64 4] 3)) (some ⟨w.heap.size, 0, none⟩) 2 2 [h.next, h.root] :=
    (lit_ints_at (n := 2) (l := [h.next, h.root]) rfl rfl (by omega) (fun z hz => by simp at hz; rcases hz with rfl | rfl; exact i1; exact i2) rfl).on intR_fine (alloc_below _ _)
  have h2 : Is ((w.alloc (.cells #[.int .i64 h.next, .int .i64 h.root] 3)).alloc (.cells #[.int .i64 1, .int .i64 4] 3)) (some ⟨w.heap.size + 1, 0, none⟩) 2 2 [1, 4] :=
    lit_ints_at (n := 2) (l := [1, 4]) (by simp) rfl (by omega) (fun z hz => by simp at hz; rcases hz with rfl | rfl <;> exact ⟨by omega, by omega⟩) rfl
  have hb2 : Below w.heap.size w ((w.alloc (.cells #[.int .i64 h.next, .int .i64 h.root] 3)).alloc (.cells #[.int .i64 1, .int .i64 4] 3)) := (alloc_below w _).alloc (by simp) _
  refine (row_own h1 h2 (by omega)).mono ?_
  rintro e w' ⟨hb, ⟨_, V, cv, rfl, ho2⟩ | ⟨hno, _⟩⟩
  · rw [row_tail] at ho2
    exact ⟨V, cv, rfl, ho2.less byteR_fine hb2.size (Nat.le_refl _), th hb2 hb⟩
  · exact absurd (fit_tail hG ho) hno

set_option maxHeartbeats 4000000 in
theorem abytes_any (g : Geo) (a : Anc) (A : Option Addr) (n c : Nat) (w : World) (hT : Tabs w) (ha : Sl homR 3 w (Old w) A n c a.homes) (hin : a.In) (hl : Light a) :
    Calls Tryd.prog 34 #[g.v, a.v (.slice A n c)] w (ABytesPost w g a) := by
  obtain ⟨j0, hj0, hy0, hy1, hy2⟩ := info_parts u8_info
  obtain ⟨W0, hW0⟩ : ∃ W0, W0 = (w.alloc (.cells #[.int .i64 g.zones, .int .i64 g.data, .int .i64 g.spares, .int .i64 g.slots, .int .i64 g.anchors] 23)).alloc (.cells #[.int .i64 a.gen, .int .i64 a.epoch, .int .i64 a.pos, .int .i64 a.seq, .int .i64 a.last, .string a.label, .slice A n c] 26) := ⟨_, rfl⟩
  have hb0 : Below w.heap.size w W0 := by rw [hW0]; exact (alloc_below w _).alloc (by simp) _
  have ha0 := ha.on homR_fine hb0
  have hT0 := hT.below hb0
  have bx : ∀ W, Below W0.heap.size W0 W →
      W.cell? ⟨w.heap.size + 1, 0, none⟩ = some (.int .i64 a.gen) ∧ W.cell? ⟨w.heap.size + 1, 1, none⟩ = some (.int .i64 a.epoch) ∧ W.cell? ⟨w.heap.size + 1, 2, none⟩ = some (.int .i64 a.pos) ∧ W.cell? ⟨w.heap.size + 1, 3, none⟩ = some (.int .i64 a.seq) ∧ W.cell? ⟨w.heap.size + 1, 4, none⟩ = some (.int .i64 a.last) ∧ W.cell? ⟨w.heap.size + 1, 5, none⟩ = some (.string a.label) ∧ W.cell? ⟨w.heap.size + 1, 6, none⟩ = some (.slice A n c) := fun W hW => by
    subst hW0
    have q2 : ∀ k u, (#[.int .i64 a.gen, .int .i64 a.epoch, .int .i64 a.pos, .int .i64 a.seq, .int .i64 a.last, .string a.label, .slice A n c] : Array Value)[k]? = some u → W.cell? ⟨w.heap.size + 1, k, none⟩ = some u := fun k u hk => by have := box_cell hW k u hk; simpa using this
    exact ⟨q2 0 _ rfl, q2 1 _ rfl, q2 2 _ rfl, q2 3 _ rfl, q2 4 _ rfl, q2 5 _ rfl, q2 6 _ rfl⟩
  have BX := hide bx
  have hck := acheck_any g a A n c W0 hT0 ha0 hin hl
  have hlen := ha.len
  obtain ⟨l1, l2, l3⟩ := hl
  unfold ancErr at hck
  unfold Geo.v Anc.v at hck ⊢
  unfold ABytesPost ABytes
  by_cases hok : GeoOk g ∧ AncOk g a
  · rw [if_pos hok] at hck
    have HCK := hide hck
    have HOK := hide hok
    obtain ⟨hG, hH, hlab, hz, hh⟩ := hok
    have hz4 := hG.1.2
    have hd4 := hG.2.1
    have hn4 : n ≤ 4 := by omega
    have hlb := fun w hT => lbytes_any a.label (by omega) w hT
    have h24 := lab_len hlab
    rw [sL_len] at h24
    have hfh := fit_head hG hH
    have hi1 := hin
    obtain ⟨i1, i2, i3, i4, i5, _⟩ := hin
    have hrow : ∀ w : World, Calls Tryd.prog 72 #[.slice (some ⟨w.heap.size, 0, none⟩) 5 5, .slice (some ⟨w.heap.size + 1, 0, none⟩) 5 5] ((w.alloc (.cells #[.int .i64 a.gen, .int .i64 a.epoch, .int .i64 a.seq, .int .i64 a.last, .int .i64 a.pos] 3)).alloc (.cells #[.int .i64 4, .int .i64 4, .int .i64 4, .int .i64 4, .int .i64 1] 3)) fun e w' => ∃ V cv, e = .returned (.tuple #[.slice V 17 cv, .int .i64 0]) ∧ Ow byteR 1 w' w.heap.size 0 5 (.slice V 17 cv) 17 (headL a) ∧ Below w.heap.size w w' := fun w => by
      have h1 : Is ((w.alloc (.cells #[.int .i64 a.gen, .int .i64 a.epoch, .int .i64 a.seq, .int .i64 a.last, .int .i64 a.pos] 3)).alloc (.cells #[.int .i64 4, .int .i64 4, .int .i64 4, .int .i64 4, .int .i64 1] 3)) (some ⟨w.heap.size, 0, none⟩) 5 5 [a.gen, a.epoch, a.seq, a.last, a.pos] :=
        (lit_ints_at (n := 5) (l := [a.gen, a.epoch, a.seq, a.last, a.pos]) rfl rfl (by omega) (fun z hz => by simp at hz; rcases hz with rfl | rfl | rfl | rfl | rfl; exact i1; exact i2; exact i4; exact i5; exact i3) rfl).on intR_fine (alloc_below _ _)
      have h2 : Is ((w.alloc (.cells #[.int .i64 a.gen, .int .i64 a.epoch, .int .i64 a.seq, .int .i64 a.last, .int .i64 a.pos] 3)).alloc (.cells #[.int .i64 4, .int .i64 4, .int .i64 4, .int .i64 4, .int .i64 1] 3)) (some ⟨w.heap.size + 1, 0, none⟩) 5 5 [4, 4, 4, 4, 1] :=
        lit_ints_at (n := 5) (l := [4, 4, 4, 4, 1]) (by simp) rfl (by omega) (fun z hz => by simp at hz; rcases hz with rfl | rfl <;> exact ⟨by omega, by omega⟩) rfl
      have hb2 : Below w.heap.size w ((w.alloc (.cells #[.int .i64 a.gen, .int .i64 a.epoch, .int .i64 a.seq, .int .i64 a.last, .int .i64 a.pos] 3)).alloc (.cells #[.int .i64 4, .int .i64 4, .int .i64 4, .int .i64 4, .int .i64 1] 3)) := (alloc_below w _).alloc (by simp) _
      refine (row_own h1 h2 (by omega)).mono ?_
      rintro e w' ⟨hb, ⟨_, V, cv, rfl, ho⟩ | ⟨hno, _⟩⟩
      · rw [row_head] at ho
        exact ⟨V, cv, rfl, ho.less byteR_fine hb2.size (Nat.le_refl _), th hb2 hb⟩
      · exact absurd hfh hno
    have HROW := hide hrow
    have HLB := hide hlb
    have HG := hide hG
    have HHM := hide hh
    have HLAB := hide hlab
    have HLEN := hide hlen
    have hz4' : (n : Int) = g.zones := by omega
    have HZ := hide hz4'
    clear bx hck hG hH hlab hz hh hrow hlb hfh hi1 i1 i2 i3 i4 i5 l1 l2 l3 hlen hz4'
    go_enter Tryd.func34, Tryd.ntmps34
    go_wp2_with fail
    rw [← hW0]
    have HW0 := hide hW0
    clear hW0
    refine HCK.out.mono ?_
    rintro e w1 ⟨rfl, hb1⟩
    obtain ⟨q0, q1, q2, q3, q4, q5, q6⟩ := BX.out _ hb1
    have hw1 := Nat.le_trans hb0.size hb1.size
    have xa : ∀ o, (w1.alloc o).cell? ⟨w.heap.size + 1, 0, none⟩ = some (.int .i64 a.gen) := fun o => (BX.out _ (hb1.alloc hb1.size o)).1
    go_wp2_with fail
    refine (HROW.out _).mono ?_
    rintro e w2 ⟨V2, c2, rfl, ho2, hb2⟩
    have hb12 := th hb1 hb2
    obtain ⟨q0, q1, q2, q3, q4, q5, q6⟩ := BX.out _ hb12
    go_wp2_with fail
    refine (HLB.out _ (hT0.below hb12)).mono ?_
    unfold LBytesPost LBytes
    rintro e w3 ⟨hb3, V3, n3, c3, b3, e3, rfl, ho3, hq3⟩
    rcases hq3 with ⟨_, rfl, rfl⟩ | ⟨hno, _⟩
    · have hn3 : n3 = 1 + a.label.size := by
        have := ho3.len
        rw [labB, List.length_cons, sL_len] at this
        omega
      subst hn3
      have hb13 := th hb12 hb3
      have ho23 := ho2.below byteR_fine hb3
      have hr3 := ho3.read byteR_fine
      have hs3 : w1.heap.size ≤ w3.heap.size := Nat.le_trans hb2.size hb3.size
      go_wp2_with (at_builtin; refine wpList_append_ow _ rfl (.tmp 45) (.tmp 46) _ rfl byteR_fine w1.heap.size 0 5 j0 _ 1 Tryd.underlying58 hj0 hy0 hy1 hy2 rfl (by omega) (.slice V2 17 c2) 17 _ rfl ho23 _ V3 (1 + a.label.size) c3 _ rfl hr3 (fun _ _ _ h => h) (by simp only [maxLen]; omega) (by omega) hs3 ?_; intro V5 w5 ho5 hg5 hat5; obtain ⟨A5, c5, rfl⟩ := ho5.form; have hb35 := below_grown (base := w1.heap.size) hg5 ho23.lt hs3; have hb05 := hb13.trans (hb35.mono hb1.size); obtain ⟨q0, q1, q2, q3, q4, q5, q6⟩ := BX.out _ hb05)
      rw [← ancP_zero] at ho5
      have hb15 : Below w1.heap.size w1 w5 := (th hb2 hb3).trans hb35
      go_loopw [7, 51] (fun v i wr => ∃ k q : Nat, ∃ V cv, k ≤ n ∧ i = .int .i64 k ∧ v = .slice V q cv ∧ q ≤ 42 + 10 * k ∧ Ow byteR 1 wr w1.heap.size 0 5 (.slice V q cv) q (ancP a k) ∧ Below w1.heap.size w1 wr) (fun _ i _ => n - (RowKit.intOf i).toNat)
      case atStart => exact ⟨0, 17 + (1 + a.label.size), A5, c5, Nat.zero_le _, rfl, rfl, by omega, ho5, hb15⟩
      case round =>
        obtain ⟨k, q, V, cv, hk, rfl, rfl, hq, ho, hb⟩ := hrel
        obtain ⟨wo, rfl⟩ : ∃ wo : World, wo = wr := ⟨_, rfl⟩
        by_cases hlt : k < n
        · obtain ⟨ad, h, A', m, c', rfl, hadl, hx, j1, j2, hs, d0, d1, d2⟩ := at_hom ((ha0.on homR_fine (hb1.trans (hb.mono hb1.size)))) hlt
          have hho := HHM.out h (List.mem_of_getElem? hx)
          have hm5 : m ≤ 5 := by have h1 := hho.1; have h2 := hs.len; omega
          have HRO := hide (row_two HG.out hho ⟨j1, j2⟩)
          have HST := hide (ancP_step hx)
          have hpl := hho.2.2.2
          have hnx := hho.2.1
          have hpb : ∀ (i : Nat) (p : Int), h.places[i]? = some p → 0 ≤ p ∧ p ≤ 255 := fun i p hp => by
            have h1 := (hpl i p hp).1
            have h2 := HG.out.2.1.2
            have h3 := HG.out.2.2.1.2
            omega
          have HPB := hide hpb
          have HML := hide hs.len
          obtain ⟨WH, hWH⟩ : ∃ WH, WH = wo.alloc (.cells #[.slice A' m c', .int .i64 h.next, .int .i64 h.root] 44) := ⟨_, rfl⟩
          have hbh : Below wo.heap.size wo WH := by rw [hWH]; exact alloc_below _ _
          have bh : ∀ W, Below WH.heap.size WH W → W.cell? ⟨wo.heap.size, 0, none⟩ = some (.slice A' m c') ∧ W.cell? ⟨wo.heap.size, 1, none⟩ = some (.int .i64 h.next) ∧ W.cell? ⟨wo.heap.size, 2, none⟩ = some (.int .i64 h.root) := fun W hW => by
            subst hWH
            exact ⟨box_cell hW 0 _ rfl, box_cell hW 1 _ rfl, box_cell hW 2 _ rfl⟩
          have BH := hide bh
          have HWH := hide hWH
          have hsh := hs.on intR_fine hbh
          have hoh := ho.below byteR_fine hbh
          have hbhw := hb.trans (hbh.mono hb.size)
          clear hho hpl hnx hpb bh hx
          go_wp2_with fail
          rw [← hWH]
          clear hWH
          go_loopw [7, 58] (fun v i wr => ∃ j q : Nat, ∃ V cv, j ≤ m ∧ i = .int .i64 j ∧ v = .slice V q cv ∧ q ≤ 42 + 10 * k + j ∧ Ow byteR 1 wr w1.heap.size 0 5 (.slice V q cv) q (ancP a k ++ ((h.places.take j).map fun p => UInt8.ofNat p.toNat)) ∧ Below WH.heap.size WH wr) (fun _ i _ => m - (RowKit.intOf i).toNat)
          case atStart => exact ⟨0, q, V, cv, Nat.zero_le _, rfl, rfl, by omega, by simpa using hoh, Below.refl _ _⟩
          case round =>
            obtain ⟨j, q2, V2', cv2, hj, rfl, rfl, hq2, ho2', hb2'⟩ := hrel
            obtain ⟨e0, e1, e2⟩ := BH.out _ hb2'
            by_cases hlt2 : j < m
            · obtain ⟨ad2, p, rfl, hadl2, hp, hpi, hpc⟩ := at_int (hsh.on intR_fine hb2') hlt2
              obtain ⟨hp0, hp1⟩ := HPB.out j p hp
              have HPU := hide (put_byte (ho2'.read byteR_fine) (by omega) p hp0 hp1)
              have HPS := hide (pls_step hp)
              clear hp hpi
              go_wp2_with fail
              refine HPU.out.mono ?_
              rintro e w6 ⟨V6, c6, rfl, ho6, hb6⟩
              have hlow := ho2'.lt
              go_wp2_with fail
              go_roundw
              case rel => exact ⟨j + 1, q2 + 1, V6, c6, by omega, by go_num, rfl, by omega, by rw [HPS.out, ← List.append_assoc]; exact ho6.less byteR_fine (Nat.le_trans hbhw.size hb2'.size) (Nat.zero_le _), th hb2' hb6⟩
              case measure => (first | omega | (simp [RowKit.intOf]; omega) | (unfold RowKit.intOf; simp; omega) | go_num)
            · obtain rfl : j = m := by omega
              have hall : h.places.take j = h.places := List.take_of_length_le (by rw [HML.out]; exact Nat.le_refl _)
              rw [hall] at ho2'
              have hb1r := hbhw.trans (hb2'.mono hbhw.size)
              have xb : ∀ o, (World.alloc _ o).cell? ⟨wo.heap.size, 2, none⟩ = some (.int .i64 h.root) := fun o => (BH.out _ (hb2'.alloc hb2'.size o)).2.2
              clear hall
              go_wp2_with fail
              refine (HRO.out _).mono ?_
              rintro e w7 ⟨V7, c7, rfl, ho7, hb7⟩
              have ho27 := ho2'.below byteR_fine hb7
              have hr7 := ho7.read byteR_fine
              have hb17 := hb1r.trans (hb7.mono hb1r.size)
              go_wp2_with (at_builtin; refine wpList_append_ow _ rfl (.tmp 79) (.tmp 80) _ rfl byteR_fine w1.heap.size 0 5 j0 _ 1 Tryd.underlying58 hj0 hy0 hy1 hy2 rfl (by omega) (.slice V2' q2 cv2) q2 _ rfl ho27 _ V7 5 c7 _ rfl hr7 (fun _ _ _ h => h) (by simp only [maxLen]; omega) (by omega) hb17.size ?_; intro V8 w8 ho8 hg8 hat8; obtain ⟨A8, c8, rfl⟩ := ho8.form; have hb8 := below_grown (base := w1.heap.size) hg8 ho27.lt hb17.size)
              rw [← HST.out] at ho8
              go_roundw
              case rel => exact ⟨k + 1, q2 + 5, A8, c8, by omega, by go_num, rfl, by omega, ho8, hb17.trans hb8⟩
              case measure => (first | omega | (simp [RowKit.intOf]; omega) | (unfold RowKit.intOf; simp; omega) | go_num)
        · obtain rfl : k = n := by omega
          have hfin := ancP_all a HLEN.out
          rw [hfin] at ho
          clear hfin
          go_wp2_with fail
          go_ret2
          exact ⟨th hb0 (hb1.trans (hb.mono hb1.size)), V, q, cv, _, 0, rfl, ho.less byteR_fine hw1 (Nat.le_refl _), .inr ⟨HOK.out, rfl, rfl⟩⟩
    · exact absurd HLAB.out hno
  · rw [if_neg hok] at hck
    have HCK := hide hck
    have HOK := hide hok
    clear bx hck hok l1 l2 l3 hlen
    go_enter Tryd.func34, Tryd.ntmps34
    go_wp2_with fail
    rw [← hW0]
    have HW0 := hide hW0
    clear hW0
    refine HCK.out.mono ?_
    rintro e w1 ⟨rfl, hb1⟩
    go_wp2_with fail
    go_ret2
    exact ⟨th hb0 hb1, none, 0, 0, [], 1, rfl, Ow.nil_ _ _ _ _, .inl ⟨HOK.out, rfl, rfl⟩⟩

end Go.Proofs.YtamgpbkakmffiaaDoor
