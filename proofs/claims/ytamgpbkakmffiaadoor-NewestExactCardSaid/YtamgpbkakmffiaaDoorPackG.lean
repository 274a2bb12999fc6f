/-
  Contracts: pack.Get, pack.Part, pack.Unpart.
-/
import Derived.Test.YtamgpbkakmffiaaDoorPackC
import Derived.Deep.RegionWith
namespace Go.Proofs.YtamgpbkakmffiaaDoor
open Go.RowKit
set_option linter.unusedVariables false
set_option maxRecDepth 100000

set_option maxHeartbeats 1000000 in
theorem get_arg {A : Option Addr} {n c : Nat} {w : World} (size : Int) (h : ¬ Sized size) :
    Calls Tryd.prog 104 #[.slice A n c, .int .i64 size] w fun e w' => e = .returned (.tuple #[.int .i64 0, .slice none 0 0, .int .i64 1]) ∧ w = w' := by
  have h1 : (size != 1) = true := by simp; exact fun e => h (.inl e)
  have h2 : (size != 2) = true := by simp; exact fun e => h (.inr (.inl e))
  have h4 : (size != 4) = true := by simp; exact fun e => h (.inr (.inr e))
  clear h
  go_enter Tryd.func104, Tryd.ntmps104
  go_wp2_with fail
  go_ret3
  exact ⟨rfl, rfl⟩

set_option maxHeartbeats 1000000 in
theorem get_short {A : Option Addr} {n c : Nat} {w : World} (size : Int) (h : Sized size) (hn : (n : Int) < size) :
    Calls Tryd.prog 104 #[.slice A n c, .int .i64 size] w fun e w' => e = .returned (.tuple #[.int .i64 0, .slice none 0 0, .int .i64 4]) ∧ w = w' := by
  rcases h with rfl | rfl | rfl
  all_goals
    go_enter Tryd.func104, Tryd.ntmps104
    go_wp2_with fail
    go_ret3
    exact ⟨rfl, rfl⟩

set_option maxHeartbeats 1000000 in
theorem get_ok {A : Option Addr} {n c : Nat} {l : List UInt8} {w : World} (ha : Bs w A n c l) (hn : n ≤ 65536) (size : Nat) (h : size = 1 ∨ size = 2 ∨ size = 4) (hs : size ≤ n) :
    Calls Tryd.prog 104 #[.slice A n c, .int .i64 size] w fun e w' => ∃ V cv, e = .returned (.tuple #[.int .i64 (num (l.take size)), .slice V (n - size) cv, .int .i64 0]) ∧ Ow byteR 1 w' w.heap.size w.heap.size 5 (.slice V (n - size) cv) (n - size) (l.drop size) ∧ Below w.heap.size w w' := by
  have hcap := ha.cap
  have hs4 : size ≤ 4 := by omega
  have hlen := ha.len
  have HL := hide hlen
  clear hlen
  have hg : (((size : Int) != 1) = false) ∨ (((size : Int) != 1) = true ∧ ((size : Int) != 2) = false) ∨ (((size : Int) != 1) = true ∧ ((size : Int) != 2) = true ∧ ((size : Int) != 4) = false) := by
    rcases h with rfl | rfl | rfl
    · exact .inl rfl
    · exact .inr (.inl ⟨rfl, rfl⟩)
    · exact .inr (.inr ⟨rfl, rfl, rfl⟩)
  clear h
  by_cases hck : c = size
  · have hcut := rest1_end ha hs hck
    rcases hg with g1 | ⟨g1, g2⟩ | ⟨g1, g2, g3⟩
    all_goals
      go_enter Tryd.func104, Tryd.ntmps104
      go_wp2_with fail
      go_loop [4, 29] (fun v i => ∃ k : Nat, k ≤ size ∧ i = .int .i64 k ∧ v = .int .i64 (num (l.take k))) (fun _ i => size - (intOf i).toNat)
      case atStart => exact ⟨0, Nat.zero_le _, rfl, rfl⟩
      case round =>
        obtain ⟨k, hk, rfl, rfl⟩ := hrel
        by_cases hlt : k < size
        · obtain ⟨ad, x, rfl, _, hx, hc⟩ := at_byte ha (by omega : k < n)
          have hx256 := x.toNat_lt
          have hst := get_step (num (l.take k)) x.toNat k (by omega) (num_take_lt l k (by rw [HL.out]; omega)) x.toNat_lt
          rw [← num_step hx] at hst
          have HST := hide hst
          clear hx hst
          go_wp2_with fail
          go_round
          case rel => exact ⟨k + 1, by omega, by go_num, by rw [HST.out]⟩
          case measure => simp [intOf]; omega
        · obtain rfl : k = size := by omega
          go_wp2_with fail
          refine (clone_any _ _ _ _ _ hcut (by omega)).mono ?_
          rintro e w1 ⟨V1, c1, rfl, ho1, hb1⟩
          go_wp2_with fail
          go_ret3
          exact ⟨V1, c1, rfl, ho1, hb1⟩
  · have hcut := rest1 ha hs hck
    rcases hg with g1 | ⟨g1, g2⟩ | ⟨g1, g2, g3⟩
    all_goals
      go_enter Tryd.func104, Tryd.ntmps104
      go_wp2_with fail
      go_loop [4, 29] (fun v i => ∃ k : Nat, k ≤ size ∧ i = .int .i64 k ∧ v = .int .i64 (num (l.take k))) (fun _ i => size - (intOf i).toNat)
      case atStart => exact ⟨0, Nat.zero_le _, rfl, rfl⟩
      case round =>
        obtain ⟨k, hk, rfl, rfl⟩ := hrel
        by_cases hlt : k < size
        · obtain ⟨ad, x, rfl, _, hx, hc⟩ := at_byte ha (by omega : k < n)
          have hx256 := x.toNat_lt
          have hst := get_step (num (l.take k)) x.toNat k (by omega) (num_take_lt l k (by rw [HL.out]; omega)) x.toNat_lt
          rw [← num_step hx] at hst
          have HST := hide hst
          clear hx hst
          go_wp2_with fail
          go_round
          case rel => exact ⟨k + 1, by omega, by go_num, by rw [HST.out]⟩
          case measure => simp [intOf]; omega
        · obtain rfl : k = size := by omega
          go_wp2_with fail
          refine (clone_any _ _ _ _ _ hcut (by omega)).mono ?_
          rintro e w1 ⟨V1, c1, rfl, ho1, hb1⟩
          go_wp2_with fail
          go_ret3
          exact ⟨V1, c1, rfl, ho1, hb1⟩

set_option maxHeartbeats 1000000 in
theorem part_len {A : Option Addr} {n c : Nat} {w : World} (hn : 255 < n) :
    Calls Tryd.prog 112 #[.slice A n c] w fun e w' => e = .returned (.tuple #[.slice none 0 0, .int .i64 2]) ∧ w = w' := by
  go_enter Tryd.func112, Tryd.ntmps112
  go_wp2_with fail
  go_ret2
  exact ⟨rfl, rfl⟩

set_option maxHeartbeats 1000000 in
theorem part_ok {A : Option Addr} {n c : Nat} {l : List UInt8} {w : World} (ha : Bs w A n c l) (hn : n ≤ 255) :
    Calls Tryd.prog 112 #[.slice A n c] w fun e w' => ∃ V cv, e = .returned (.tuple #[.slice V (n + 1) cv, .int .i64 0]) ∧ Ow byteR 1 w' w.heap.size w.heap.size 5 (.slice V (n + 1) cv) (n + 1) (partL l) ∧ Below w.heap.size w w' := by
  obtain ⟨i0, hi0, hz0, hz1, hz2⟩ := info_parts u8_info
  have hl := ha.len
  have ho := own_lit (w := w) (e := 5) (n := 1) (le_len 1 n) (by omega) (cells_le1 n (by omega))
  have hb := alloc_below w (.cells #[.int .u8 (n : Int)] 5)
  have ha1 := ha.on byteR_fine hb
  have he : le 1 n ++ l = partL l := by simp [le, partL, hl]
  have HE := hide he
  clear he hl
  go_enter Tryd.func112, Tryd.ntmps112
  go_wp2_with (at_builtin; go_loud (refine wpList_append_ow _ rfl (.tmp 10) (.tmp 11) _ rfl byteR_fine w.heap.size w.heap.size 5 i0 _ 1 Tryd.underlying58 hi0 hz0 hz1 hz2 rfl (by omega) (.slice (some ⟨w.heap.size, 0, none⟩) 1 1) 1 _ rfl ho _ A n c l rfl ha1 (fun _ _ _ h => h) (by simp only [maxLen]; omega) (by omega) hb.size ?_); intro V2 w2 ho4 hg4 hat4)
  rw [HE.out, Nat.add_comm 1 n] at ho4
  obtain ⟨V3, cv3, rfl⟩ := ho4.form
  go_ret2
  exact ⟨V3, cv3, rfl, ho4, hb.trans (below_grown hg4 ho.lt hb.size)⟩

set_option maxHeartbeats 1000000 in
theorem unpart_none0 {A : Option Addr} {c : Nat} {w : World} :
    Calls Tryd.prog 111 #[.slice A 0 c] w fun e w' => e = .returned (.tuple #[.slice none 0 0, .slice none 0 0, .int .i64 4]) ∧ w = w' := by
  go_enter Tryd.func111, Tryd.ntmps111
  go_wp2_with fail
  go_ret3
  exact ⟨rfl, rfl⟩

set_option maxHeartbeats 1000000 in
theorem unpart_short {A : Option Addr} {n c : Nat} {x : UInt8} {l : List UInt8} {w : World} (ha : Bs w A n c (x :: l)) (hn : n < 1 + x.toNat) :
    Calls Tryd.prog 111 #[.slice A n c] w fun e w' => e = .returned (.tuple #[.slice none 0 0, .slice none 0 0, .int .i64 4]) ∧ w = w' := by
  have hl : l.length + 1 = n := ha.len
  have h256 := x.toNat_lt
  obtain ⟨ad, y, rfl, _, hy, hc⟩ := at_byte ha (by omega : 0 < n)
  obtain rfl : y = x := by simp at hy; exact hy.symm
  rw [add_zero'] at hc
  have hn0 : ((n : Int) == 0) = false := by simp; omega
  have hn1 : decide ((n : Int) < 1 + (y.toNat : Int)) = true := by simp; omega
  clear hy
  go_enter Tryd.func111, Tryd.ntmps111
  go_wp2_with fail
  go_ret3
  exact ⟨rfl, rfl⟩

def Parted (w : World) (n p : Nat) (l r : List UInt8) (e : Ending) (w' : World) : Prop :=
  ∃ V cv V' cv', e = .returned (.tuple #[.slice V p cv, .slice V' (n - (1 + p)) cv', .int .i64 0]) ∧ Sl byteR 1 w' (New w.heap.size w') V p cv l ∧ Sl byteR 1 w' (New w.heap.size w') V' (n - (1 + p)) cv' r ∧ Below w.heap.size w w'

set_option maxHeartbeats 2000000 in
theorem unpart_ok {A : Option Addr} {n c : Nat} {x : UInt8} {l : List UInt8} {w : World} (ha : Bs w A n c (x :: l)) (hn : 1 + x.toNat ≤ n) (hb : n ≤ 65536) :
    Calls Tryd.prog 111 #[.slice A n c] w (Parted w n x.toNat (l.take x.toNat) (l.drop x.toNat)) := by
  have hl : l.length + 1 = n := ha.len
  have hcap := ha.cap
  have h256 := x.toNat_lt
  obtain ⟨ad, y, rfl, _, hy, hc⟩ := at_byte ha (by omega : 0 < n)
  obtain rfl : y = x := by simp at hy; exact hy.symm
  rw [add_zero'] at hc
  have hn0 : ((n : Int) == 0) = false := by simp; omega
  have hn1 : decide ((n : Int) < 1 + (y.toNat : Int)) = false := by simp; omega
  clear hy
  have hp : ∀ (A' : Option Addr) (c' : Nat), Bs w A' y.toNat c' (l.take y.toNat) → ∀ W, Below w.heap.size w W → Calls Tryd.prog 103 #[.slice A' y.toNat c'] W fun e w' => ∃ V cv, e = .returned (.slice V y.toNat cv) ∧ Sl byteR 1 w' (New w.heap.size w') V y.toNat cv (l.take y.toNat) ∧ Below W.heap.size W w' :=
    fun A' c' h W hW => (clone_any _ _ _ _ _ (h.on byteR_fine hW) (by omega)).mono fun e w' ⟨V, cv, he, ho, hb⟩ => ⟨V, cv, he, ho.new_ byteR_fine hW.size hW.size, hb⟩
  have hr : ∀ (A' : Option Addr) (c' : Nat), Bs w A' (n - (1 + y.toNat)) c' (l.drop y.toNat) → ∀ W, Below w.heap.size w W → Calls Tryd.prog 103 #[.slice A' (n - (1 + y.toNat)) c'] W fun e w' => ∃ V cv, e = .returned (.slice V (n - (1 + y.toNat)) cv) ∧ Sl byteR 1 w' (New w.heap.size w') V (n - (1 + y.toNat)) cv (l.drop y.toNat) ∧ Below W.heap.size W w' :=
    fun A' c' h W hW => (clone_any _ _ _ _ _ (h.on byteR_fine hW) (by omega)).mono fun e w' ⟨V, cv, he, ho, hb⟩ => ⟨V, cv, he, ho.new_ byteR_fine hW.size hW.size, hb⟩
  by_cases h1 : c = 1
  · obtain rfl : n = 1 := by omega
    have hy0 : y.toNat = 0 := by omega
    rw [hy0] at hp hn1 hc ⊢
    have hl0 : l = [] := List.eq_nil_of_length_eq_zero (by omega)
    subst hl0
    subst h1
    have HP := hide (hp (some ad) 0 (Sl.empty_ _ _))
    clear hp hr ha hl hy0
    go_enter Tryd.func111, Tryd.ntmps111
    go_wp2_with fail
    go_region_with (first
      | (go_at_call 103; refine (HP.out _ ?_).mono ?_; (exact (Below.refl _ _).drew); rintro e w1 ⟨V1, c1, rfl, r1, hbp⟩)
      | (go_at_call 103; refine (HP.out _ ?_).mono ?_; (exact undrew hbp); rintro e w2 ⟨V2, c2, rfl, r2, hbr⟩))
    all_goals go_wp2_with fail
    go_ret3
    exact ⟨_, _, _, _, rfl, r1.new_on byteR_fine hbr, r2, th (undrew hbp) hbr⟩
  · have hcut : Bs w (some (ad.add 1)) y.toNat (c - 1) (l.take y.toNat) := by
      have h := cut1 ha (i := 1) (j := 1 + y.toNat) (by omega) hn h1
      simpa using h
    by_cases h2 : c = 1 + y.toNat
    · obtain rfl : n = 1 + y.toNat := by omega
      subst h2
      have hcut2 : Bs w (some ⟨ad.block, ad.off + 1, none⟩) y.toNat y.toNat (l.take y.toNat) := by
        have h := hcut
        rw [Nat.add_sub_cancel_left] at h
        exact h
      have hd : l.drop y.toNat = [] := List.drop_of_length_le (by omega)
      rw [hd] at hr ⊢
      rw [Nat.sub_self] at hr
      have HP := hide (hp _ _ hcut2)
      have HR := hide (hr (some ad) 0 (Sl.empty_ _ _))
      clear hp hr hcut hcut2 ha hl hd
      go_enter Tryd.func111, Tryd.ntmps111
      go_wp2_with fail
      go_region_with (first
        | (go_at_call 103; (with_reducible refine (HP.out _ ?_).mono ?_); (first | exact (Below.refl _ _).drew | exact undrew hbr); rintro e w1 ⟨V1, c1, rfl, r1, hbp⟩)
        | (go_at_call 103; (with_reducible refine (HR.out _ ?_).mono ?_); (first | exact (Below.refl _ _).drew | exact undrew hbp); rintro e w2 ⟨V2, c2, rfl, r2, hbr⟩))
      all_goals go_wp2_with fail
      all_goals
        go_ret3
        refine ⟨V1, c1, V2, c2, ?_, r1.new_on byteR_fine hbr, ?_, th (undrew hbp) hbr⟩
        · rw [Nat.sub_self]
          rfl
        · rw [Nat.sub_self]
          exact r2
    · have hrest : Bs w (some (ad.add (1 + y.toNat))) (n - (1 + y.toNat)) (c - (1 + y.toNat)) (l.drop y.toNat) := by
        have h := rest1 ha (i := 1 + y.toNat) hn h2
        rw [Nat.add_comm 1 y.toNat, List.drop_succ_cons, Nat.add_comm y.toNat 1] at h
        exact h
      have hcut2 : Bs w (some ⟨ad.block, ad.off + 1, none⟩) y.toNat (c - 1) (l.take y.toNat) := hcut
      have HP := hide (hp _ _ hcut2)
      have HR := hide (hr _ _ hrest)
      clear hp hr hcut hcut2 hrest ha hl
      go_enter Tryd.func111, Tryd.ntmps111
      go_wp2_with fail
      go_region_with (first
        | (go_at_call 103; (with_reducible refine (HP.out _ ?_).mono ?_); (first | exact (Below.refl _ _).drew | exact undrew hbr); rintro e w1 ⟨V1, c1, rfl, r1, hbp⟩)
        | (go_at_call 103; (with_reducible refine (HR.out _ ?_).mono ?_); (first | exact (Below.refl _ _).drew | exact undrew hbp); rintro e w2 ⟨V2, c2, rfl, r2, hbr⟩))
      all_goals go_wp2_with fail
      all_goals
        go_ret3
        exact ⟨V1, c1, V2, c2, rfl, r1.new_on byteR_fine hbr, r2, th (undrew hbp) hbr⟩

end Go.Proofs.YtamgpbkakmffiaaDoor
