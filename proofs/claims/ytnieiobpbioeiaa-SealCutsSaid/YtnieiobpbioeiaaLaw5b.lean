/-
  The walk of the law casematelaw05.SealFlipped.
-/
import Derived.Test.YtnieiobpbioeiaaLaw5
namespace Go.Proofs.Ytnieiobpbioeiaa
open Go.RowKit
set_option linter.unusedVariables false
set_option maxRecDepth 100000

theorem flip_flip (l : List UInt8) (bit bits : Int) : flipL (flipL l bit bits) bit bits = l := by
  unfold flipL
  rw [bent_len, bent_bent]
theorem flip_ne {l : List UInt8} (h : 0 < l.length) (bit bits : Int) : flipL l bit bits ≠ l := bent_ne (oddN_odd _) (flipAt_lt h bit)
theorem secOk_nat {x : Sec} (h : SecOk x) : ∃ a s : Nat, x.addr = a ∧ x.stamp = s ∧ a ≤ 65535 ∧ s ≤ 4294967295 := by
  obtain ⟨⟨h1, h2⟩, h3, h4⟩ := h
  exact ⟨x.addr.toNat, x.stamp.toNat, by omega, by omega, by omega, by omega⟩

set_option maxHeartbeats 1000000 in
theorem law_sealFlipped {V : Value} {x : Sec} {w : World} (h : ArgR secR w V x) (bit : Int) (hbit : InI bit) (bits : Int) (hbits : InI bits) :
    Calls Try.prog 11 #[V, .int .i64 bit, .int .i64 bits] w fun e w' => e = .returned (.bool true) ∧ Below w.heap.size w w' := by
  obtain ⟨A, n, c, rfl, _, _, hl⟩ := sec_form h
  have hlen := hl.len
  by_cases hn : 300 < n
  · clear hlen
    go_enter Try.func11, Try.ntmps11
    go_wp2_with fail
    go_ret
    exact ⟨rfl, alloc_below _ _⟩
  by_cases hok : SecOk x
  · obtain ⟨a, s, ea, es, ha, hs⟩ := secOk_nat hok
    obtain ⟨xa, xs, l⟩ := x
    dsimp only at ea es hl hlen hok
    subst ea; subst es
    have hb0 := alloc_below w (.cells #[.int .i64 a, .int .i64 s, .slice A n c] 62)
    have hl0 := hl.on byteR_fine hb0
    by_cases hn2 : 96 < n
    · clear hlen hok
      go_enter Try.func11, Try.ntmps11
      go_wp2_with fail
      refine (make_len a s ha hs hn2).mono ?_
      rintro e w1 ⟨rfl, hb1⟩
      go_wp2_with fail
      refine (wakes5 _).mono ?_
      rintro e w2 ⟨rfl, hb2⟩
      go_wp2_with fail
      go_ret
      exact ⟨rfl, th hb0 (th hb1 hb2)⟩
    · have hl96 : l.length ≤ 96 := by omega
      have hsl := seal_len a s l
      rw [hlen] at hsl
      have hne : decide (sealL a s l = flipL (sealL a s l) bit bits) = false := decide_eq_false fun e => flip_ne (by omega) bit bits e.symm
      have hff := flip_flip (sealL a s l) bit bits
      have hO := open_flip (a := a) (s := s) hl96 bit bits
      obtain ⟨S, hS⟩ : ∃ S, S = sealL a s l := ⟨_, rfl⟩
      have hmk := make_ok hl0 a s ha hs (by omega)
      rw [← hS] at hne hff hO hsl hmk
      obtain ⟨F, hF⟩ : ∃ F, F = flipL S bit bits := ⟨_, rfl⟩
      have hfl : ∀ {A : Option Addr} {c : Nat} {W : World}, Bs W A (n + 11) c S → Calls Try.prog 48 #[.slice A (n + 11) c, .int .i64 bit, .int .i64 bits] W fun e w' => ∃ V cv, e = .returned (.slice V (n + 11) cv) ∧ Ow byteR 1 w' W.heap.size W.heap.size 5 (.slice V (n + 11) cv) (n + 11) F ∧ Below W.heap.size W w' := fun h => by
        rw [hF]; exact flip_any h (by omega) bit bits hbit hbits
      rw [← hF] at hne hff hO
      have HNE := hide hne
      have HFF := hide hff
      have HO := hide hO
      have HMK := hide hmk
      clear hlen hS hF hne hff hO hsl hok hmk hl0
      go_enter Try.func11, Try.ntmps11
      go_wp2_with fail
      refine HMK.out.mono ?_
      rintro e w1 ⟨V1, c1, rfl, ho1, hb1⟩
      have hr1 := ho1.read byteR_fine
      go_wp2_with fail
      refine (hfl hr1).mono ?_
      rintro e w2 ⟨V2, c2, rfl, ho2, hb2⟩
      have hr2 := ho2.read byteR_fine
      go_wp2_with fail
      refine (open_bad hr2 (by omega) 5 HO.out).mono ?_
      rintro e w3 ⟨A3, c3, rfl, hs3, hb3⟩
      have hb4 := alloc_below w3 (.cells #[.int .i64 0, .int .i64 0, .slice A3 0 c3] 62)
      have e1 : ((n : Int) + 11 == (n : Int) + 11) = true := by simp
      go_wp2_with fail
      refine (bytes_any _ _ _ _ _ _ S F _ (hr1.on byteR_fine (th hb2 (th hb3 hb4))) (hr2.on byteR_fine (th hb3 hb4)) (by omega)).mono ?_
      rintro e w5 ⟨rfl, q, rfl⟩
      have hb5 := drewN_below (w3.alloc (.cells #[.int .i64 0, .int .i64 0, .slice A3 0 c3] 62)) q
      rw [HNE.out]
      go_wp2_with fail
      refine (secs_any (x := noSec) (y := noSec) (hs3.on byteR_fine (th hb4 hb5)) (Sl.nil_ _) (by omega)).mono ?_
      rintro e w6 ⟨rfl, hb6⟩
      rw [show decide (noSec.addr = noSec.addr ∧ noSec.stamp = noSec.stamp ∧ noSec.load = noSec.load) = true from rfl]
      go_wp2_with fail
      refine (flip_any (hr2.on byteR_fine (th hb3 (th hb4 (th hb5 hb6)))) (by omega) bit bits hbit hbits).mono ?_
      rintro e w7 ⟨V7, c7, rfl, ho7, hb7⟩
      rw [HFF.out] at ho7
      go_wp2_with fail
      refine (bytes_same S (ho7.read byteR_fine) (hr1.on byteR_fine (th hb2 (th hb3 (th hb4 (th hb5 (th hb6 hb7)))))) (by omega)).mono ?_
      rintro e w8 ⟨rfl, hb8⟩
      go_wp2_with fail
      refine (wakes5 _).mono ?_
      rintro e w9 ⟨rfl, hb9⟩
      go_wp2_with fail
      go_ret
      exact ⟨rfl, th hb0 (th hb1 (th hb2 (th hb3 (th hb4 (th hb5 (th hb6 (th hb7 (th hb8 hb9))))))))⟩
  · have hb0 := alloc_below w (.cells #[.int .i64 x.addr, .int .i64 x.stamp, .slice A n c] 62)
    have HOK := hide hok
    clear hlen hok
    go_enter Try.func11, Try.ntmps11
    go_wp2_with fail
    refine (make_arg _ _ HOK.out).mono ?_
    rintro e w1 ⟨rfl, hb1⟩
    go_wp2_with fail
    refine (wakes5 _).mono ?_
    rintro e w2 ⟨rfl, hb2⟩
    go_wp2_with fail
    go_ret
    exact ⟨rfl, th hb0 (th hb1 hb2)⟩

end Go.Proofs.Ytnieiobpbioeiaa
