/-
  The walk of the law casematelaw04.PackExact.
-/
import Derived.Test.YtagkangpplkohaaLaw4
import Derived.Deep.DeepCutAuto
import Derived.Deep.CutBlock
namespace Go.Proofs.Ytagkangpplkohaa
open Go.RowKit
set_option linter.unusedVariables false

/-- A slice of bytes and a number come back: these are they. -/
def Back (Q : List UInt8 → Int → Prop) (w : World) (e : Ending) (w' : World) : Prop :=
  ∃ V n c l err, e = .returned (.tuple #[.slice V n c, .int .i64 err]) ∧ Bs w' V n c l ∧ n ≤ 65536 ∧ Below w.heap.size w w' ∧ Q l err
def BackN (Q : Int → List UInt8 → Int → Prop) (w : World) (e : Ending) (w' : World) : Prop :=
  ∃ m V n c l err, e = .returned (.tuple #[.int .i64 m, .slice V n c, .int .i64 err]) ∧ Bs w' V n c l ∧ n ≤ 65536 ∧ Below w.heap.size w w' ∧ Q m l err
def BackT (Q : List UInt8 → List UInt8 → Int → Prop) (w : World) (e : Ending) (w' : World) : Prop :=
  ∃ V n c l V' n' c' l' err, e = .returned (.tuple #[.slice V n c, .slice V' n' c', .int .i64 err]) ∧ Bs w' V n c l ∧ n ≤ 65536 ∧ Bs w' V' n' c' l' ∧ n' ≤ 65536 ∧ Below w.heap.size w w' ∧ Q l l' err

def PutQ (xs : List UInt8) (N size : Int) (l : List UInt8) (err : Int) : Prop := (FitsP N size ∧ err = 0 ∧ l = xs ++ le size.toNat N.toNat) ∨ (¬ FitsP N size ∧ err = 1 ∧ l = [])
theorem put_res {A : Option Addr} {n c : Nat} {xs : List UInt8} {w : World} (ha : Bs w A n c xs) (hn : n ≤ 60000) (N size : Int) :
    Calls Try.prog 27 #[.slice A n c, .int .i64 N, .int .i64 size] w (Back (PutQ xs N size) w) := by
  by_cases h : FitsP N size
  · exact (put_ok ha hn N size h).mono fun e w' ⟨V, cv, he, ho, hb⟩ => ⟨V, _, cv, _, 0, he, ho.read byteR_fine, by rcases h.1 with h | h | h <;> subst h <;> simp <;> omega, hb, .inl ⟨h, rfl, rfl⟩⟩
  · exact (put_none N size h).mono fun e w' ⟨he, hw⟩ => ⟨none, 0, 0, [], 1, he, Sl.nil_ _, by omega, by rw [← hw]; exact Below.refl _ _, .inr ⟨h, rfl, rfl⟩⟩

def GetQ (xs : List UInt8) (size : Int) (m : Int) (l : List UInt8) (err : Int) : Prop :=
  (¬ Sized size ∧ err = 1 ∧ m = 0 ∧ l = []) ∨ (Sized size ∧ (xs.length : Int) < size ∧ err = 4 ∧ m = 0 ∧ l = []) ∨ (Sized size ∧ size ≤ (xs.length : Int) ∧ err = 0 ∧ m = num (xs.take size.toNat) ∧ l = xs.drop size.toNat)
theorem get_res {A : Option Addr} {n c : Nat} {xs : List UInt8} {w : World} (ha : Bs w A n c xs) (hn : n ≤ 65536) (size : Int) :
    Calls Try.prog 29 #[.slice A n c, .int .i64 size] w (BackN (GetQ xs size) w) := by
  have hl := ha.len
  by_cases h : Sized size
  · by_cases hs : (n : Int) < size
    · exact (get_short size h hs).mono fun e w' ⟨he, hw⟩ => ⟨0, none, 0, 0, [], 4, he, Sl.nil_ _, by omega, by rw [← hw]; exact Below.refl _ _, .inr (.inl ⟨h, by omega, rfl, rfl, rfl⟩)⟩
    · obtain ⟨S, rfl⟩ : ∃ S : Nat, size = (S : Int) := ⟨size.toNat, by rcases h with h | h | h <;> omega⟩
      exact (get_ok ha hn S (by rcases h with h | h | h <;> omega) (by omega)).mono fun e w' ⟨V, cv, he, ho, hb⟩ => ⟨_, V, _, cv, _, 0, he, ho.read byteR_fine, by omega, hb, .inr (.inr ⟨h, by omega, rfl, rfl, rfl⟩)⟩
  · exact (get_arg size h).mono fun e w' ⟨he, hw⟩ => ⟨0, none, 0, 0, [], 1, he, Sl.nil_ _, by omega, by rw [← hw]; exact Below.refl _ _, .inl ⟨h, rfl, rfl, rfl⟩⟩

def PartQ (xs : List UInt8) (l : List UInt8) (err : Int) : Prop := (xs.length ≤ 255 ∧ err = 0 ∧ l = partL xs) ∨ (255 < xs.length ∧ err = 2 ∧ l = [])
theorem part_res {A : Option Addr} {n c : Nat} {xs : List UInt8} {w : World} (ha : Bs w A n c xs) :
    Calls Try.prog 30 #[.slice A n c] w (Back (PartQ xs) w) := by
  have hl := ha.len
  by_cases h : n ≤ 255
  · exact (part_ok ha h).mono fun e w' ⟨V, cv, he, ho, hb⟩ => ⟨V, _, cv, _, 0, he, ho.read byteR_fine, by omega, hb, .inl ⟨by omega, rfl, rfl⟩⟩
  · exact (part_len (by omega)).mono fun e w' ⟨he, hw⟩ => ⟨none, 0, 0, [], 2, he, Sl.nil_ _, by omega, by rw [← hw]; exact Below.refl _ _, .inr ⟨by omega, rfl, rfl⟩⟩

def UnpartQ (xs : List UInt8) (l l' : List UInt8) (err : Int) : Prop :=
  (xs = [] ∧ err = 4 ∧ l = [] ∧ l' = []) ∨ (∃ x t, xs = x :: t ∧ xs.length < 1 + x.toNat ∧ err = 4 ∧ l = [] ∧ l' = []) ∨ (∃ x t, xs = x :: t ∧ 1 + x.toNat ≤ xs.length ∧ err = 0 ∧ l = t.take x.toNat ∧ l' = t.drop x.toNat)
theorem unpart_res {A : Option Addr} {n c : Nat} {xs : List UInt8} {w : World} (ha : Bs w A n c xs) (hn : n ≤ 65536) :
    Calls Try.prog 31 #[.slice A n c] w (BackT (UnpartQ xs) w) := by
  have hl := ha.len
  cases xs with
  | nil =>
    obtain rfl : n = 0 := hl.symm
    exact unpart_none0.mono fun e w' ⟨he, hw⟩ => ⟨none, 0, 0, [], none, 0, 0, [], 4, he, Sl.nil_ _, by omega, Sl.nil_ _, by omega, by rw [← hw]; exact Below.refl _ _, .inl ⟨rfl, rfl, rfl, rfl⟩⟩
  | cons x t =>
    by_cases h : n < 1 + x.toNat
    · exact (unpart_short ha h).mono fun e w' ⟨he, hw⟩ => ⟨none, 0, 0, [], none, 0, 0, [], 4, he, Sl.nil_ _, by omega, Sl.nil_ _, by omega, by rw [← hw]; exact Below.refl _ _, .inr (.inl ⟨x, t, rfl, by omega, rfl, rfl, rfl⟩)⟩
    · have hx := x.toNat_lt
      exact (unpart_ok ha (by omega) hn).mono fun e w' ⟨V, cv, V', cv', he, h1, h2, hb⟩ => ⟨V, _, cv, _, V', _, cv', _, 0, he, h1, by omega, h2, by omega, hb, .inr (.inr ⟨x, t, rfl, by omega, rfl, rfl, rfl⟩)⟩

theorem fits_any (n size : Int) (w : World) :
    Calls Try.prog 32 #[.int .i64 n, .int .i64 size] w fun e w' => e = .returned (.bool (decide (FitsP n size))) ∧ w = w' := by
  by_cases h : FitsP n size
  · rw [decide_eq_true h]
    exact fits_true n size w h
  · rw [decide_eq_false h]
    exact fits_false n size w h

set_option maxHeartbeats 4000000 in
set_option maxRecDepth 100000 in
theorem law_packExact {A : Option Addr} {n c : Nat} {xs : List UInt8} {w : World} (ha : Bs w A n c xs) (N : Int) (hN : InI N) (size : Int) (hsize : InI size) :
    Calls Try.prog 10 #[.slice A n c, .int .i64 N, .int .i64 size] w fun e w' => e = .returned (.bool true) ∧ Below w.heap.size w w' := by
  by_cases h400 : 400 < n
  · go_enter Try.func10, Try.ntmps10
    go_wp2_with fail
    go_ret
    exact ⟨rfl, Below.refl _ _⟩
  have hn400 : n ≤ 400 := by omega
  have hxl := ha.len
  have HXL := hide hxl
  clear h400 hxl
  go_enter Try.func10, Try.ntmps10
  go_wp2_with fail
  refine (twin_any _ _ _ xs _ ha (by omega)).mono ?_
  rintro e w1 ⟨V1, c1, rfl, ho1, hb1⟩
  have x1 := ho1.read byteR_fine
  go_wp2_with fail
  refine (put_res x1 (by omega) N size).mono ?_
  rintro e w2 ⟨V2, n2, c2, l2, e2, rfl, r2, hn2, hb2, hq2⟩
  have x2 := x1.on byteR_fine hb2
  go_wp2_with fail
  refine (get_res x2 (by omega) size).mono ?_
  rintro e w3 ⟨m3, V3, n3, c3, l3, e3, rfl, r3, hn3, hb3, hq3⟩
  have x3 := x2.on byteR_fine hb3
  go_wp2_with fail
  refine (part_res x3).mono ?_
  rintro e w4 ⟨V4, n4, c4, l4, e4, rfl, r4, hn4, hb4, hq4⟩
  have x4 := x3.on byteR_fine hb4
  go_wp2_with fail
  refine (unpart_res x4 (by omega)).mono ?_
  rintro e w5 ⟨V5, n5, c5, l5, V6, n6, c6, l6, e5, rfl, r5, hn5, r6, hn6, hb5, hq5⟩
  have k5 := th (th (th hb1 hb2) (th hb3 hb4)) hb5
  have x5 := x4.on byteR_fine hb5
  have a5 := ha.on byteR_fine k5
  have r2 := r2.on byteR_fine (th (th hb3 hb4) hb5)
  have r3 := r3.on byteR_fine (th hb4 hb5)
  have r4 := r4.on byteR_fine hb5
  go_wp2_with fail
  refine (bytes_same xs x5 a5 (by omega)).mono ?_
  rintro e w6 ⟨rfl, hb6⟩
  have k6 := th k5 hb6
  have a6 := a5.on byteR_fine hb6
  have r2 := r2.on byteR_fine hb6
  have r3 := r3.on byteR_fine hb6
  have r4 := r4.on byteR_fine hb6
  have r5 := r5.on byteR_fine hb6
  have r6 := r6.on byteR_fine hb6
  clear hb1 hb2 hb3 hb4 hb5 hb6 x1 x2 x3 x4 x5 k5 a5 ho1 ha
  obtain ⟨bf, hbf⟩ : ∃ bf : Bool, bf = decide (FitsP N size) := ⟨_, rfl⟩
  have hfa := fits_any N size w6
  rw [← hbf] at hfa
  have HF := hide hfa
  have HBF := hide hbf
  clear hbf hfa
  go_wp2_with fail
  refine (unhide HF).mono ?_
  rintro e w' ⟨rfl, rfl⟩
  go_upto_if 55 with fail
  go_cut [] (fun wx => Below w6.heap.size w6 wx)
  case first =>
    rcases hq2 with ⟨hf, rfl, rfl⟩ | ⟨hf, rfl, rfl⟩
    · obtain rfl : bf = true := by rw [HBF.out]; exact decide_eq_true hf
      have hS : ∃ S : Nat, size = (S : Int) ∧ S ≤ 4 := by
        rcases hf.1 with h | h | h
        · exact ⟨1, h, by omega⟩
        · exact ⟨2, h, by omega⟩
        · exact ⟨4, h, by omega⟩
      obtain ⟨S, rfl, hS4⟩ := hS
      have hf1 := hf.2.1
      have hf2 := hf.2.2
      obtain ⟨M, rfl⟩ : ∃ M : Nat, N = (M : Int) := ⟨N.toNat, by omega⟩
      have hM : M < 9223372036854775807 := by
        rcases hf.1 with h | h | h <;> rw [h] at hf2 <;> simp at hf2 <;> omega
      rw [Int.toNat_natCast, Int.toNat_natCast] at r2
      have hrp := rput_any a6 (by omega) M S (by omega) hM
      have HRP := hide hrp
      clear hf hf1 hf2 hM hrp hN hsize
      go_wp2_with fail
      refine (unhide HRP).mono ?_
      rintro e w7 ⟨V7, c7, rfl, ho7, hb7⟩
      go_wp2_with fail
      refine (bytes_same _ (r2.on byteR_fine hb7) (ho7.read byteR_fine) hn2).mono ?_
      rintro e w8 ⟨rfl, hb8⟩
      go_wp2_with fail
      go_meet
      exact th hb7 hb8
    · obtain rfl : bf = false := by rw [HBF.out]; exact decide_eq_false hf
      obtain rfl : n2 = 0 := r2.len.symm
      clear hf
      go_wp2_with fail
      go_meet
      exact Below.refl _ _
  case rest =>
    have hcut1 := hcut
    clear hcut hq2 r2 HF HBF
    have k7 := th k6 hcut1
    have a6 := a6.on byteR_fine hcut1
    have r3 := r3.on byteR_fine hcut1
    have r4 := r4.on byteR_fine hcut1
    have r5 := r5.on byteR_fine hcut1
    have r6 := r6.on byteR_fine hcut1
    clear k6 hcut1
    obtain ⟨w7, hw7⟩ : ∃ w7, w7 = wc := ⟨_, rfl⟩
    subst hw7
    go_upto_block 0 with fail
    go_cut [] (fun wx => Below w7.heap.size w7 wx)
    case first =>
      have hsz := size_any size w7
      have hxl := HXL.out
      rcases hq3 with ⟨hs, rfl, rfl, rfl⟩ | ⟨hs, hlt, rfl, rfl, rfl⟩ | ⟨hs, hle, rfl, rfl, rfl⟩
      · rw [decide_eq_false hs] at hsz
        have HSZ := hide hsz
        obtain rfl : n3 = 0 := r3.len.symm
        clear hs hsz hxl
        go_wp2_with fail
        refine (unhide HSZ).mono ?_
        rintro e w' ⟨rfl, rfl⟩
        go_wp2_with fail
        go_meet
        exact Below.refl _ _
      · rw [decide_eq_true hs] at hsz
        have HSZ := hide hsz
        obtain rfl : n3 = 0 := r3.len.symm
        have e1 : decide ((n : Int) < size) = true := by simp; omega
        clear hs hsz hxl hlt
        go_wp2_with fail
        refine (unhide HSZ).mono ?_
        rintro e w' ⟨rfl, rfl⟩
        go_wp2_with fail
        go_meet
        exact Below.refl _ _
      · rw [decide_eq_true hs] at hsz
        have HSZ := hide hsz
        have e1 : decide ((n : Int) < size) = false := by simp; omega
        have hS : ∃ S : Nat, size = (S : Int) ∧ S ≤ 4 := by
          rcases hs with h | h | h
          · exact ⟨1, h, by omega⟩
          · exact ⟨2, h, by omega⟩
          · exact ⟨4, h, by omega⟩
        obtain ⟨S, rfl, hS4⟩ := hS
        have hSn : S ≤ n := by omega
        rw [Int.toNat_natCast] at r3 ⊢
        have hrg := rget_any a6 S hS4 hSn
        have HRG := hide hrg
        have hcap := a6.cap
        have e2 : ((num (xs.take S) : Int) != (num (xs.take S) : Int)) = false := by simp
        clear hs hsz hxl hle hrg hsize
        by_cases hck : c = S
        · subst hck
          have d := rest1_end a6 hSn rfl
          rw [show n - c = 0 from by omega] at d
          go_wp2_with fail
          refine (unhide HSZ).mono ?_
          rintro e w' ⟨rfl, rfl⟩
          go_wp2_with fail
          refine (unhide HRG).mono ?_
          rintro e w' ⟨rfl, rfl⟩
          go_wp2_with fail
          refine (bytes_same _ r3 d hn3).mono ?_
          rintro e w8 ⟨rfl, hb8⟩
          go_wp2_with fail
          go_meet
          exact hb8
        · have d := rest1 a6 hSn hck
          go_wp2_with fail
          refine (unhide HSZ).mono ?_
          rintro e w' ⟨rfl, rfl⟩
          go_wp2_with fail
          refine (unhide HRG).mono ?_
          rintro e w' ⟨rfl, rfl⟩
          go_wp2_with fail
          refine (bytes_same _ r3 d hn3).mono ?_
          rintro e w8 ⟨rfl, hb8⟩
          go_wp2_with fail
          go_meet
          exact hb8
    case rest =>
      have hcut1 := hcut
      clear hcut hq3 r3
      have k8 := th k7 hcut1
      have a6 := a6.on byteR_fine hcut1
      have r4 := r4.on byteR_fine hcut1
      have r5 := r5.on byteR_fine hcut1
      have r6 := r6.on byteR_fine hcut1
      clear k7 hcut1
      obtain ⟨w8, hw8⟩ : ∃ w8, w8 = wc := ⟨_, rfl⟩
      subst hw8
      go_upto_if 124 with fail
      go_cut [] (fun wx => Below w8.heap.size w8 wx)
      case first =>
        have hxl := HXL.out
        rcases hq4 with ⟨hp, rfl, rfl⟩ | ⟨hp, rfl, rfl⟩
        · have hp' : n ≤ 255 := by omega
          have hrp := rpart_any a6 (by omega)
          have HRP := hide hrp
          clear hp hxl hrp
          go_wp2_with fail
          refine (unhide HRP).mono ?_
          rintro e w9 ⟨V9, c9, rfl, ho9, hb9⟩
          go_wp2_with fail
          refine (bytes_same _ (r4.on byteR_fine hb9) (ho9.read byteR_fine) hn4).mono ?_
          rintro e w10 ⟨rfl, hb10⟩
          go_wp2_with fail
          go_meet
          exact th hb9 hb10
        · have hp' : 255 < n := by omega
          obtain rfl : n4 = 0 := r4.len.symm
          clear hp hxl
          go_wp2_with fail
          go_meet
          exact Below.refl _ _
      case rest =>
        have hcut1 := hcut
        clear hcut hq4 r4
        have k9 := th k8 hcut1
        have a6 := a6.on byteR_fine hcut1
        have r5 := r5.on byteR_fine hcut1
        have r6 := r6.on byteR_fine hcut1
        clear k8 hcut1
        obtain ⟨w9, hw9⟩ : ∃ w9, w9 = wc := ⟨_, rfl⟩
        subst hw9
        have hxl := HXL.out
        rcases hq5 with ⟨rfl, rfl, rfl, rfl⟩ | ⟨x, t, rfl, hlt, rfl, rfl, rfl⟩ | ⟨x, t, rfl, hle, rfl, rfl, rfl⟩
        · obtain rfl : n5 = 0 := r5.len.symm
          obtain rfl : n6 = 0 := r6.len.symm
          obtain rfl : n = 0 := a6.len.symm
          clear hxl HXL
          go_wp2_with fail
          refine (wakes4 _).mono ?_
          rintro e w10 ⟨rfl, hb10⟩
          go_wp2_with fail
          go_ret
          exact ⟨rfl, th k9 hb10⟩
        · obtain rfl : n5 = 0 := r5.len.symm
          obtain rfl : n6 = 0 := r6.len.symm
          have h256 := x.toNat_lt
          have hxl' : t.length + 1 = n := hxl
          have hlt' : t.length + 1 < 1 + x.toNat := hlt
          obtain ⟨ad, y, rfl, _, hy, hc⟩ := at_byte a6 (by omega : 0 < n)
          obtain rfl : y = x := by simp at hy; exact hy.symm
          rw [add_zero'] at hc
          have hn0 : ((n : Int) == 0) = false := by simp; omega
          have hn1 : decide ((n : Int) < 1 + (y.toNat : Int)) = true := by simp; omega
          have hpos : 0 < n := by omega
          clear hy hxl hxl' hlt hlt' HXL
          go_wp2_with fail
          refine (wakes4 _).mono ?_
          rintro e w10 ⟨rfl, hb10⟩
          go_wp2_with fail
          go_ret
          exact ⟨rfl, th k9 hb10⟩
        · have h256 := x.toNat_lt
          have hxl' : t.length + 1 = n := hxl
          have hle' : 1 + x.toNat ≤ t.length + 1 := hle
          obtain ⟨ad, y, rfl, _, hy, hc⟩ := at_byte a6 (by omega : 0 < n)
          obtain rfl : y = x := by simp at hy; exact hy.symm
          rw [add_zero'] at hc
          have hn0 : ((n : Int) == 0) = false := by simp; omega
          have hn1 : decide ((n : Int) < 1 + (y.toNat : Int)) = false := by simp; omega
          have hcap := a6.cap
          have hpos : 0 < n := by omega
          have hle2 : 1 + y.toNat ≤ n := by omega
          have hadl : ad.block < w9.heap.size := World.block_lt_of_cell? w9 _ hc
          have hc10 : ∀ W, Below w9.heap.size w9 W → W.cell? ad = some (.int .u8 (y.toNat : Int)) := fun W hW => (hW.cell hadl).trans hc
          have HC10 := hide hc10
          clear hy hxl hle HXL hc10
          by_cases h1 : c = 1
          · obtain rfl : n = 1 := by omega
            have hy0 : y.toNat = 0 := by omega
            rw [hy0] at hc HC10 hn1 r5 r6
            have ht0 : t = [] := List.eq_nil_of_length_eq_zero (by omega)
            subst ht0
            subst h1
            have dp : Bs w9 (some ad) 0 0 (List.take 0 ([] : List UInt8)) := Sl.empty_ _ _
            have dr : Bs w9 (some ad) 0 0 (List.drop 0 ([] : List UInt8)) := Sl.empty_ _ _
            clear hy0 hxl' hle' a6
            go_wp2_with fail
            refine (bytes_same _ r5 dp hn5).mono ?_
            rintro e w10 ⟨rfl, hb10⟩
            have r6 := r6.on byteR_fine hb10
            have dr := dr.on byteR_fine hb10
            have hc := HC10.out w10 hb10
            go_wp2_with fail
            refine (bytes_same _ r6 dr hn6).mono ?_
            rintro e w11 ⟨rfl, hb11⟩
            go_wp2_with fail
            refine (wakes4 _).mono ?_
            rintro e w12 ⟨rfl, hb12⟩
            go_wp2_with fail
            go_ret
            exact ⟨rfl, th k9 (th hb10 (th hb11 hb12))⟩
          · have hcut : Bs w9 (some (ad.add 1)) y.toNat (c - 1) (t.take y.toNat) := by
              have h := cut1 a6 (i := 1) (j := 1 + y.toNat) (by omega) (by omega) h1
              simpa using h
            by_cases h2 : c = 1 + y.toNat
            · obtain rfl : n = 1 + y.toNat := by omega
              subst h2
              have dp : Bs w9 (some ⟨ad.block, ad.off + 1, none⟩) y.toNat y.toNat (t.take y.toNat) := by
                have h := hcut
                rw [Nat.add_sub_cancel_left] at h
                exact h
              have hd : t.drop y.toNat = [] := List.drop_of_length_le (by omega)
              rw [hd] at r6
              have dr : Bs w9 (some ad) 0 0 ([] : List UInt8) := Sl.empty_ _ _
              clear hcut hd hxl' hle' a6
              go_wp2_with fail
              refine (bytes_same _ r5 dp hn5).mono ?_
              rintro e w10 ⟨rfl, hb10⟩
              have r6 := r6.on byteR_fine hb10
              have dr := dr.on byteR_fine hb10
              have hc := HC10.out w10 hb10
              go_wp2_with fail
              refine (bytes_same _ r6 dr hn6).mono ?_
              rintro e w11 ⟨rfl, hb11⟩
              go_wp2_with fail
              refine (wakes4 _).mono ?_
              rintro e w12 ⟨rfl, hb12⟩
              go_wp2_with fail
              go_ret
              exact ⟨rfl, th k9 (th hb10 (th hb11 hb12))⟩
            · have hrest : Bs w9 (some (ad.add (1 + y.toNat))) (n - (1 + y.toNat)) (c - (1 + y.toNat)) (t.drop y.toNat) := by
                have h := rest1 a6 (i := 1 + y.toNat) (by omega) h2
                rw [Nat.add_comm 1 y.toNat, List.drop_succ_cons, Nat.add_comm y.toNat 1] at h
                exact h
              have dp : Bs w9 (some ⟨ad.block, ad.off + 1, none⟩) y.toNat (c - 1) (t.take y.toNat) := hcut
              have dr := hrest
              clear hcut hrest hxl' a6
              go_wp2_with fail
              refine (bytes_same _ r5 dp hn5).mono ?_
              rintro e w10 ⟨rfl, hb10⟩
              have r6 := r6.on byteR_fine hb10
              have dr := dr.on byteR_fine hb10
              have hc := HC10.out w10 hb10
              go_wp2_with fail
              refine (bytes_same _ r6 dr hn6).mono ?_
              rintro e w11 ⟨rfl, hb11⟩
              go_wp2_with fail
              refine (wakes4 _).mono ?_
              rintro e w12 ⟨rfl, hb12⟩
              go_wp2_with fail
              go_ret
              exact ⟨rfl, th k9 (th hb10 (th hb11 hb12))⟩

end Go.Proofs.Ytagkangpplkohaa
