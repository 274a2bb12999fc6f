/-
  Contracts: package xor.
-/
import Derived.Test.YtagkangpplkohaaKeep
namespace Go.Proofs.Ytagkangpplkohaa
open Go.RowKit
set_option linter.unusedVariables false

/-- Two rows of bytes, xored as far as both reach. -/
def zx (a b : List UInt8) : List UInt8 := List.zipWith (· ^^^ ·) a b
theorem zx_len (a b : List UInt8) : (zx a b).length = min a.length b.length := List.length_zipWith

theorem xor_u8 (a b : UInt8) : bits .xor .u8 (a.toNat : Int) (b.toNat : Int) = ((a ^^^ b).toNat : Int) := by
  rw [u8_xor_nat _ _ a.toNat_lt b.toNat_lt, UInt8.toNat_xor]

theorem zx_step (xs ys : List UInt8) (k : Nat) (hx : k < xs.length) (hy : k < ys.length) :
    (zx (xs.take k) (ys.take k) ++ xs.drop k).set k (xs[k] ^^^ ys[k]) = zx (xs.take (k + 1)) (ys.take (k + 1)) ++ xs.drop (k + 1) := by
  have hl : (zx (xs.take k) (ys.take k)).length = k := by simp [zx]; omega
  rw [List.set_append_right _ _ (by omega), hl, Nat.sub_self, List.drop_eq_getElem_cons hx, List.set_cons_zero, List.take_succ_eq_append_getElem hx, List.take_succ_eq_append_getElem hy]
  unfold zx
  rw [List.zipWith_append (by simp; omega)]
  simp
theorem zx_at (xs ys : List UInt8) (k : Nat) (hx : k < xs.length) (hy : k < ys.length) : (zx (xs.take k) (ys.take k) ++ xs.drop k)[k]? = some xs[k] := by
  have hl : (zx (xs.take k) (ys.take k)).length = k := by simp [zx]; omega
  rw [List.getElem?_append_right (by omega), hl, Nat.sub_self, List.getElem?_drop, Nat.add_zero, List.getElem?_eq_getElem hx]

set_option maxHeartbeats 400000 in
theorem into_any (base lo : Nat) (A A' : Option Addr) (n c m c' : Nat) (xs ys : List UInt8) (w : World) (S : Nat → Prop) (hm : m = n)
    (ho : Ow byteR 1 w base lo 5 (.slice A n c) n xs) (hb : Sl byteR 1 w S A' m c' ys) (hS : ∀ b, S b → b < base) (hn : n ≤ 65536) :
    Calls Try.prog 42 #[.slice A n c, .slice A' m c'] w fun e w' => e = .returned (.tuple #[]) ∧ Ow byteR 1 w' base lo 5 (.slice A n c) n (zx xs ys) ∧ Below base w w' := by
  have hxl := ho.len
  have hyl := hb.len
  subst hm
  go_enter Try.func42, Try.ntmps42
  go_wp2
  go_loopw [8] (fun i wr => ∃ k : Nat, k ≤ m ∧ i = .int .i64 k ∧ Ow byteR 1 wr base lo 5 (.slice A m c) m (zx (xs.take k) (ys.take k) ++ xs.drop k) ∧ Below base w wr) (fun i _ => m - (intOf i).toNat)
  case atStart => exact ⟨0, Nat.zero_le _, rfl, by simpa [zx] using ho, Below.refl _ _⟩
  case round =>
    obtain ⟨k, hk, rfl, ho1, hb1⟩ := hrel
    by_cases hlt : k < m
    · have hb2 : Sl byteR 1 wr S A' m c' ys := hb.move byteR_fine (fun b hb' => hb1.block b (hS b hb')) (fun _ h => h)
      obtain ⟨ad, y, rfl, hadb, hy, hc⟩ := at_byte hb2 hlt
      obtain ⟨g, x, u, rfl, hg, hgl, hx, hu, hcell, hfr, hst⟩ := ho1.spot byteR_fine hlt
      have hu' : u = .int .u8 (x.toNat : Int) := by injection hu
      subst hu'
      have hst2 := hst (.int .u8 ((x ^^^ y).toNat : Int)) (x ^^^ y) rfl rfl
      have hnx : (zx (xs.take k) (ys.take k) ++ xs.drop k).set k (x ^^^ y) = zx (xs.take (k + 1)) (ys.take (k + 1)) ++ xs.drop (k + 1) := by
        rw [zx_at xs ys k (by omega) (by omega)] at hx
        rw [List.getElem?_eq_getElem (by omega)] at hy
        injection hx with hx
        injection hy with hy
        rw [← hx, ← hy, zx_step xs ys k (by omega) (by omega)]
      rw [hnx, ← xor_u8] at hst2
      clear hst hnx hx hy hu hxl hyl
      go_wp2
      go_roundw
      case rel => exact ⟨k + 1, by omega, by go_num, hst2, hb1.setCell (by exact hg) _⟩
      case measure => simp [intOf]; omega
    · go_wp2
      go_end0
      refine ⟨rfl, ?_, hb1⟩
      rw [List.take_of_length_le (by omega), List.take_of_length_le (by omega), List.drop_of_length_le (by omega), List.append_nil] at ho1
      exact ho1

theorem all_take_step {α : Type} {L : List α} {p : α → Bool} {k : Nat} {x : α} (hx : L[k]? = some x) (h : (L.take k).all p = true) (hp : p x = true) : (L.take (k + 1)).all p = true := by
  obtain ⟨h1, e1⟩ := List.getElem?_eq_some_iff.1 hx
  rw [List.take_succ_eq_append_getElem h1, e1, List.all_append, h]
  simp [hp]

set_option maxHeartbeats 400000 in
theorem alike_any (N : Int) (A : Option Addr) (n c : Nat) (L : List (List UInt8)) (w : World) (ha : Rs w A n c L) (hn : n ≤ 65536) (hl : ∀ l ∈ L, l.length ≤ 65536) :
    Calls Try.prog 40 #[.int .i64 N, .slice A n c] w fun e w' => e = .returned (.bool (L.all fun l => decide ((l.length : Int) = N))) ∧ w = w' := by
  have HL := hide hl
  clear hl
  go_enter Try.func40, Try.ntmps40
  go_wp2
  go_loop [9] (fun i => ∃ k : Nat, k ≤ n ∧ i = .int .i64 k ∧ (L.take k).all (fun l => decide ((l.length : Int) = N)) = true) (fun i => n - (intOf i).toNat)
  case atStart => exact ⟨0, Nat.zero_le _, rfl, rfl⟩
  case round =>
    obtain ⟨k, hk, rfl, hall⟩ := hrel
    have HALL := hide hall
    clear hall
    by_cases hlt : k < n
    · obtain ⟨ad, l, A1, n1, c1, rfl, _, hx, hs, hcell⟩ := at_row ha hlt
      have hll := hs.len
      subst hll
      have HX := hide hx
      clear hx
      by_cases he : (l.length : Int) = N
      · have h1 : ((l.length : Int) != N) = false := by simp [he]
        have HE := hide he
        clear he
        go_wp2
        go_round
        case rel => exact ⟨k + 1, by omega, by go_num, all_take_step HX.out HALL.out (by simp [HE.out])⟩
        case measure => simp [intOf]; omega
      · have h1 : ((l.length : Int) != N) = true := by simpa using he
        go_wp2
        go_ret
        refine ⟨?_, rfl⟩
        have : L.all (fun l => decide ((l.length : Int) = N)) = false := by
          rw [List.all_eq_false]
          exact ⟨l, List.mem_of_getElem? HX.out, by simp [he]⟩
        rw [this]
        rfl
    · go_wp2
      go_ret
      have h := HALL.out
      rw [List.take_of_length_le (by rw [ha.len]; omega)] at h
      rw [h]
      exact ⟨rfl, rfl⟩

/-- A literal of bytes just made. -/
theorem lit_bytes (w : World) (l : List UInt8) (cs : Array Value) (e : TypeId) (hl : l.length ≤ 65536) (h : cs = (l.map fun x => Value.int .u8 (x.toNat : Int)).toArray) :
    Bs (w.alloc (.cells cs e)) (some ⟨w.heap.size, 0, none⟩) l.length l.length l := by
  subst h
  refine (Ow.made (R := byteR) (s := 1) (lo := 0) (e := e) (n := l.length) (L := l) w _ (by simp only [maxLen]; omega) (by simp) rfl ?_ ?_ byteR_fine).read byteR_fine
  · intro u hu
    simp only [List.mem_map] at hu
    obtain ⟨_, _, rfl⟩ := hu
    rfl
  · intro i x hx
    obtain ⟨h1, e1⟩ := List.getElem?_eq_some_iff.1 hx
    show _ = _
    rw [Nat.mul_one, List.drop_eq_getElem_cons (by simpa using h1)]
    simp [e1]

theorem lit_bytes_at {w : World} {N n : Nat} {l : List UInt8} {cs : Array Value} {e : TypeId} (hN : w.heap.size = N) (hl : l.length = n) (hn : n ≤ 65536) (h : cs = (l.map fun x => Value.int .u8 (x.toNat : Int)).toArray) :
    Bs (w.alloc (.cells cs e)) (some ⟨N, 0, none⟩) n n l := by
  subst hN
  subst hl
  exact lit_bytes w l cs e hn h

/-- A literal of slices just made. -/
theorem lit_one {w : World} {A : Option Addr} {n c : Nat} {l : List UInt8} (e : TypeId) (h : Bs w A n c l) :
    Rs (w.alloc (.cells #[.slice A n c] e)) (some ⟨w.heap.size, 0, none⟩) 1 1 [l] :=
  (Ow.made (R := slR byteR 1) (s := 1) (lo := 0) (e := e) (n := 1) (L := [l]) w #[.slice A n c] (by simp only [maxLen]; omega) rfl rfl (by simp [Value.oneCell']) (fun i x hx => by
    obtain rfl : i = 0 := by have := (List.getElem?_eq_some_iff.1 hx).1; simp at this; omega
    simp at hx
    subst hx
    exact ⟨A, n, c, rfl, h.move byteR_fine (fun _ _ => rfl) (fun b hb => ⟨Nat.zero_le _, hb⟩)⟩) bytesR_fine).read bytesR_fine
theorem lit_two {w : World} {A A' : Option Addr} {n c n' c' : Nat} {l l' : List UInt8} (e : TypeId) (h : Bs w A n c l) (h' : Bs w A' n' c' l') :
    Rs (w.alloc (.cells #[.slice A n c, .slice A' n' c'] e)) (some ⟨w.heap.size, 0, none⟩) 2 2 [l, l'] :=
  (Ow.made (R := slR byteR 1) (s := 1) (lo := 0) (e := e) (n := 2) (L := [l, l']) w #[.slice A n c, .slice A' n' c'] (by simp only [maxLen]; omega) rfl rfl (by simp [Value.oneCell']) (fun i x hx => by
    have hi := (List.getElem?_eq_some_iff.1 hx).1
    simp at hi
    obtain rfl | rfl : i = 0 ∨ i = 1 := by omega
    · simp at hx
      subst hx
      exact ⟨A, n, c, rfl, h.move byteR_fine (fun _ _ => rfl) (fun b hb => ⟨Nat.zero_le _, hb⟩)⟩
    · simp at hx
      subst hx
      exact ⟨A', n', c', rfl, h'.move byteR_fine (fun _ _ => rfl) (fun b hb => ⟨Nat.zero_le _, hb⟩)⟩) bytesR_fine).read bytesR_fine

theorem lit_two_at {w : World} {N : Nat} {A A' : Option Addr} {n c n' c' : Nat} {l l' : List UInt8} (e : TypeId) (hN : w.heap.size = N) (h : Bs w A n c l) (h' : Bs w A' n' c' l') :
    Rs (w.alloc (.cells #[.slice A n c, .slice A' n' c'] e)) (some ⟨N, 0, none⟩) 2 2 [l, l'] := by
  subst hN
  exact lit_two e h h'

set_option maxHeartbeats 400000 in
theorem two_ok (A A' : Option Addr) (n c m c' : Nat) (xs ys : List UInt8) (w : World) (hm : m = n) (ha : Bs w A n c xs) (hb : Bs w A' m c' ys) (hn : n ≤ 65536) :
    Calls Try.prog 13 #[.slice A n c, .slice A' m c'] w fun e w' => ∃ V cv, e = .returned (.tuple #[.slice V n cv, .int .i64 0]) ∧ Ow byteR 1 w' w.heap.size w.heap.size 5 (.slice V n cv) n (zx xs ys) ∧ Below w.heap.size w w' := by
  subst hm
  have hb0 : Below w.heap.size w (w.alloc (.cells #[.slice A' m c'] 22)) := (Below.refl _ _).alloc (Nat.le_refl _) _
  have hl := lit_one 22 hb
  have ha0 := ha.on byteR_fine hb0
  have hyl := hb.len
  have hal : ([ys].all fun l => decide ((l.length : Int) = (m : Int))) = true := by simp [hyl]
  have HA := hide hal
  have HY := hide hyl
  clear hal hyl
  go_enter Try.func13, Try.ntmps13
  go_wp2_with (first
    | (go_at_call 40; refine (alike_any _ _ _ _ [ys] _ hl (by omega) (by intro l hl; simp at hl; subst hl; rw [HY.out]; exact hn)).mono ?_; rintro e w' ⟨rfl, rfl⟩; rw [HA.out])
    | (go_at_call 41; refine (clone_any _ _ _ xs _ ha0 hn).mono ?_; rintro e w1 ⟨V, cv, rfl, ho, hb1⟩)
    | (go_at_call 42; refine (into_any _ _ _ _ _ _ _ _ xs ys _ (Old w) rfl (ho.less byteR_fine hb0.size hb0.size) (hb.move byteR_fine (fun b hb' => (hb0.trans (hb1.mono hb0.size)).block b hb') (fun _ h => h)) (fun _ h => h) hn).mono ?_; rintro e w2 ⟨rfl, ho2, hb2⟩))
  go_ret2
  exact ⟨V, cv, rfl, ho2, (hb0.trans (hb1.mono hb0.size)).trans hb2⟩

set_option maxHeartbeats 400000 in
theorem two_len (A A' : Option Addr) (n c m c' : Nat) (xs ys : List UInt8) (w : World) (hm : m ≠ n) (hb : Bs w A' m c' ys) (hn : m ≤ 65536) :
    Calls Try.prog 13 #[.slice A n c, .slice A' m c'] w fun e w' => e = .returned (.tuple #[.slice none 0 0, .int .i64 2]) ∧ Below w.heap.size w w' := by
  have hb0 : Below w.heap.size w (w.alloc (.cells #[.slice A' m c'] 22)) := (Below.refl _ _).alloc (Nat.le_refl _) _
  have hl := lit_one 22 hb
  have hyl := hb.len
  have hal : ([ys].all fun l => decide ((l.length : Int) = (n : Int))) = false := by simp [hyl]; omega
  have HA := hide hal
  have HY := hide hyl
  clear hal hyl
  go_enter Try.func13, Try.ntmps13
  go_wp2_with (first
    | (go_at_call 40; refine (alike_any _ _ _ _ [ys] _ hl (by omega) (by intro l hl; simp at hl; subst hl; rw [HY.out]; exact hn)).mono ?_; rintro e w' ⟨rfl, rfl⟩; rw [HA.out]))
  go_ret2
  exact ⟨rfl, hb0⟩

set_option maxHeartbeats 400000 in
theorem turn_ok (A A' A'' : Option Addr) (n c m c' q c'' : Nat) (xs ys zs : List UInt8) (w : World) (hm : m = n) (hq : q = n) (ha : Bs w A n c xs) (hb : Bs w A' m c' ys) (hc : Bs w A'' q c'' zs) (hn : n ≤ 65536) :
    Calls Try.prog 21 #[.slice A n c, .slice A' m c', .slice A'' q c''] w fun e w' => ∃ V cv, e = .returned (.tuple #[.slice V n cv, .int .i64 0]) ∧ Ow byteR 1 w' w.heap.size w.heap.size 5 (.slice V n cv) n (zx (zx xs ys) zs) ∧ Below w.heap.size w w' := by
  subst hm
  subst hq
  have hb0 : Below w.heap.size w (w.alloc (.cells #[.slice A' q c', .slice A'' q c''] 22)) := (Below.refl _ _).alloc (Nat.le_refl _) _
  have hl := lit_two 22 hb hc
  have ha0 := ha.on byteR_fine hb0
  have hyl := hb.len
  have hzl := hc.len
  have hal : ([ys, zs].all fun l => decide ((l.length : Int) = (q : Int))) = true := by simp [hyl, hzl]
  have HA := hide hal
  have HY := hide hyl
  have HZ := hide hzl
  clear hal hyl hzl
  go_enter Try.func21, Try.ntmps21
  go_wp2_with (first
    | (go_at_call 40; refine (alike_any _ _ _ _ [ys, zs] _ hl (by omega) (by intro l hl; simp at hl; rcases hl with rfl | rfl; rw [HY.out]; exact hn; rw [HZ.out]; exact hn)).mono ?_; rintro e w' ⟨rfl, rfl⟩; rw [HA.out])
    | (go_at_call 41; refine (clone_any _ _ _ xs _ ha0 hn).mono ?_; rintro e w1 ⟨V, cv, rfl, ho, hb1⟩)
    | (go_at_call 42; fail))
  refine (into_any _ _ _ _ _ _ _ _ xs ys _ (Old w) rfl (ho.less byteR_fine hb0.size hb0.size) (hb.move byteR_fine (fun b hb' => (hb0.trans (hb1.mono hb0.size)).block b hb') (fun _ h => h)) (fun _ h => h) hn).mono ?_
  rintro e w2 ⟨rfl, ho2, hb2⟩
  go_wp2_with fail
  refine (into_any _ _ _ _ _ _ _ _ _ zs _ (Old w) rfl ho2 (hc.move byteR_fine (fun b hb' => ((hb0.trans (hb1.mono hb0.size)).trans hb2).block b hb') (fun _ h => h)) (fun _ h => h) hn).mono ?_
  rintro e w3 ⟨rfl, ho3, hb3⟩
  go_wp2_with fail
  go_ret2
  exact ⟨V, cv, rfl, ho3, ((hb0.trans (hb1.mono hb0.size)).trans hb2).trans hb3⟩

set_option maxHeartbeats 400000 in
theorem turn_len (A A' A'' : Option Addr) (n c m c' q c'' : Nat) (ys zs : List UInt8) (w : World) (hmq : ¬ (m = n ∧ q = n)) (hb : Bs w A' m c' ys) (hc : Bs w A'' q c'' zs) (hm : m ≤ 65536) (hq : q ≤ 65536) :
    Calls Try.prog 21 #[.slice A n c, .slice A' m c', .slice A'' q c''] w fun e w' => e = .returned (.tuple #[.slice none 0 0, .int .i64 2]) ∧ Below w.heap.size w w' := by
  have hb0 : Below w.heap.size w (w.alloc (.cells #[.slice A' m c', .slice A'' q c''] 22)) := (Below.refl _ _).alloc (Nat.le_refl _) _
  have hl := lit_two 22 hb hc
  have hyl := hb.len
  have hzl := hc.len
  have hal : ([ys, zs].all fun l => decide ((l.length : Int) = (n : Int))) = false := by simp [hyl, hzl]; omega
  have HA := hide hal
  have HY := hide hyl
  have HZ := hide hzl
  clear hal hyl hzl
  go_enter Try.func21, Try.ntmps21
  go_wp2_with (first
    | (go_at_call 40; refine (alike_any _ _ _ _ [ys, zs] _ hl (by omega) (by intro l hl; simp at hl; rcases hl with rfl | rfl; rw [HY.out]; exact hm; rw [HZ.out]; exact hq)).mono ?_; rintro e w' ⟨rfl, rfl⟩; rw [HA.out]))
  go_ret2
  exact ⟨rfl, hb0⟩

/-- A row of rows, each as long, xored one behind the other onto a first one. -/
def zxs (o : List UInt8) (L : List (List UInt8)) : List UInt8 := L.foldl zx o
theorem zxs_step {o : List UInt8} {L : List (List UInt8)} {k : Nat} {x : List UInt8} (h : L[k]? = some x) : zx (zxs o (L.take k)) x = zxs o (L.take (k + 1)) := by
  obtain ⟨h1, e1⟩ := List.getElem?_eq_some_iff.1 h
  rw [List.take_succ_eq_append_getElem h1, e1]
  simp [zxs]

theorem u8_zero : (.int .u8 0 : Value) = .int .u8 ((0 : UInt8).toNat : Int) := rfl
theorem made_zero (w : World) (e : TypeId) (n : Nat) (hn : n ≤ 65536) :
    Ow byteR 1 (w.alloc (.cells (madeCells #[.int .u8 0] n) e)) w.heap.size w.heap.size e (.slice (some ⟨w.heap.size, 0, none⟩) n n) n (List.replicate n 0) :=
  Ow.made w _ (by simp only [maxLen]; omega) (by rw [size_madeCells, Nat.mul_one]) (by simp) (by
    rw [toList_madeCells_one]
    intro u hu
    rw [(List.mem_replicate.1 hu).2]
    rfl) (fun i x hx => by
    have hi := (List.getElem?_eq_some_iff.1 hx).1
    rw [List.length_replicate] at hi
    rw [List.getElem?_replicate, if_pos hi] at hx
    injection hx with hx
    subst hx
    rw [toList_madeCells_one, List.drop_replicate, List.take_replicate, show min 1 (n - i * 1) = 1 from by omega]
    rfl) byteR_fine

set_option maxHeartbeats 400000 in
theorem all_ok (N : Nat) (A : Option Addr) (n c : Nat) (L : List (List UInt8)) (w : World) (ha : Rs w A n c L) (hn : n ≤ 65536) (hN : N ≤ 96) (hl : ∀ l ∈ L, l.length = N) :
    Calls Try.prog 18 #[.slice A n c, .int .i64 N] w fun e w' => ∃ V cv, e = .returned (.tuple #[.slice V N cv, .int .i64 0]) ∧ Ow byteR 1 w' w.heap.size w.heap.size 5 (.slice V N cv) N (zxs (List.replicate N 0) L) ∧ Below w.heap.size w w' := by
  obtain ⟨i0, hi0, hz0, hz1, hz2⟩ := info_parts u8_info
  have hal : (L.all fun l => decide ((l.length : Int) = (N : Int))) = true := by
    rw [List.all_eq_true]
    intro l hl'
    simp [hl l hl']
  have hmk := run_make_all (P := Try.prog) 22 5 i0 _ 1 1 Try.underlying22 hi0 hz0 hz1 hz2 .i64 .i64 N (by omega) (by omega)
  simp only [Nat.mul_one, Value.cells] at hmk
  have HA := hide hal
  have HL := hide hl
  clear hal hl
  go_enter Try.func18, Try.ntmps18
  go_wp2_with (first
    | (go_at_call 40; refine (alike_any _ _ _ _ L _ ha hn (by intro l hl; rw [HL.out l hl]; omega)).mono ?_; rintro e w' ⟨rfl, rfl⟩; rw [HA.out]))
  go_loopw [25] (fun i wr => ∃ k : Nat, k ≤ n ∧ i = .int .i64 k ∧ Ow byteR 1 wr w.heap.size w.heap.size 5 (.slice (some ⟨w.heap.size, 0, none⟩) N N) N (zxs (List.replicate N 0) (L.take k)) ∧ Below w.heap.size w wr) (fun i _ => n - (intOf i).toNat)
  case atStart => exact ⟨0, Nat.zero_le _, rfl, made_zero w _ N (by omega), (Below.refl _ _).alloc (Nat.le_refl _) _⟩
  case round =>
    obtain ⟨k, hk, rfl, ho, hb⟩ := hrel
    by_cases hlt : k < n
    · have har : Sl (slR byteR 1) 1 wr (Old w) A n c L := ha.move bytesR_fine (fun b hb' => hb.block b hb') (fun _ h => h)
      obtain ⟨ad, l, A1, n1, c1, rfl, _, hx, hs, hcell⟩ := at_row har hlt
      have hn1 : n1 = N := by rw [← hs.len]; exact HL.out l (List.mem_of_getElem? hx)
      subst hn1
      have hnext := zxs_step (o := List.replicate n1 0) hx
      have HN := hide hnext
      clear hx hnext
      go_wp2_with (go_at_call 42; refine (into_any _ _ _ _ _ _ _ _ _ l _ (Old w) rfl ho hs (fun _ h => h) (by omega)).mono ?_; rintro e w2 ⟨rfl, ho2, hb2⟩)
      rw [HN.out] at ho2
      go_roundw
      case rel => exact ⟨k + 1, by omega, by go_num, ho2, hb.trans hb2⟩
      case measure => simp [intOf]; omega
    · go_wp2
      go_ret2
      rw [List.take_of_length_le (by rw [ha.len]; omega)] at ho
      exact ⟨_, _, rfl, ho, hb⟩

theorem all_arg_aux (N : Int) (h : N < 0 ∨ 96 < N) : (decide (N < 0) || decide (96 < N)) = true := by
  simp; omega

set_option maxHeartbeats 400000 in
theorem all_arg (N : Int) (V : Value) (w : World) (h : N < 0 ∨ 96 < N) :
    Calls Try.prog 18 #[V, .int .i64 N] w fun e w' => e = .returned (.tuple #[.slice none 0 0, .int .i64 1]) ∧ w = w' := by
  rcases h with h | h
  · go_enter Try.func18, Try.ntmps18
    go_wp2
    go_ret2
    exact ⟨rfl, rfl⟩
  · have h0 : ¬ N < 0 := by omega
    go_enter Try.func18, Try.ntmps18
    go_wp2
    go_ret2
    exact ⟨rfl, rfl⟩

set_option maxHeartbeats 400000 in
theorem all_len (N : Nat) (A : Option Addr) (n c : Nat) (L : List (List UInt8)) (w : World) (ha : Rs w A n c L) (hn : n ≤ 65536) (hN : N ≤ 96) (hll : ∀ l ∈ L, l.length ≤ 65536) (hl : ¬ ∀ l ∈ L, l.length = N) :
    Calls Try.prog 18 #[.slice A n c, .int .i64 N] w fun e w' => e = .returned (.tuple #[.slice none 0 0, .int .i64 2]) ∧ w = w' := by
  have hal : (L.all fun l => decide ((l.length : Int) = (N : Int))) = false := by
    rw [List.all_eq_false]
    apply Classical.byContradiction
    intro hno
    refine hl fun l hl' => Classical.byContradiction fun hne => hno ⟨l, hl', ?_⟩
    simp; omega
  have HA := hide hal
  have HL := hide hll
  have HH := hide hl
  clear hal hll hl
  go_enter Try.func18, Try.ntmps18
  go_wp2_with (first
    | (go_at_call 40; refine (alike_any _ _ _ _ L _ ha hn HL.out).mono ?_; rintro e w' ⟨rfl, rfl⟩; rw [HA.out]))
  go_ret2
  exact ⟨rfl, rfl⟩

end Go.Proofs.Ytagkangpplkohaa
