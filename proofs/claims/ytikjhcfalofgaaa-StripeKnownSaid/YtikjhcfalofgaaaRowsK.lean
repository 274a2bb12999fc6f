/-
  Contracts: casematekeep.Rows.
-/
import Derived.Test.YtikjhcfalofgaaaKeep
import Derived.Deep.RegionHeld3
namespace Go.Proofs.Ytikjhcfalofgaaa
open Go.RowKit
set_option linter.unusedVariables false

set_option maxHeartbeats 400000 in
theorem rows_true (A B : Option Addr) (n c d : Nat) (L : List (List UInt8)) (w : World) (ha : Rs w A n c L) (hb : Rs w B n d L) (hn : n ≤ 65536) (hl : ∀ l ∈ L, l.length ≤ 65536) :
    Calls Try.prog 14 #[.slice A n c, .slice B n d] w fun e w' => e = .returned (.bool true) ∧ ∃ q, w' = w.drewN q := by
  have HL := hide hl
  clear hl
  go_enter Try.func14, Try.ntmps14
  go_wp2
  go_loopw [5] (fun i wr => ∃ k : Nat, k ≤ n ∧ i = .int .i64 k ∧ Hid (∃ q, wr = w.drewN q)) (fun i _ => n - (intOf i).toNat)
  case atStart => exact ⟨0, Nat.zero_le _, rfl, 0, rfl⟩
  case round =>
    obtain ⟨k, hk, rfl, hq⟩ := hrel
    by_cases hlt : k < n
    · have hbw : Below w.heap.size w wr := by obtain ⟨q, rfl⟩ := hq; exact World.drewN_zero w ▸ ⟨rfl, rfl, rfl, Nat.le_refl _, fun _ _ => rfl⟩
      have har := ha.on bytesR_fine hbw
      have hbr := hb.on bytesR_fine hbw
      obtain ⟨ad, l, A1, n1, c1, rfl, _, hx, hs, hcell⟩ := at_row har hlt
      obtain ⟨bd, l', B1, m1, d1, rfl, _, hx', hs', hcell'⟩ := at_row hbr hlt
      rw [hx] at hx'
      injection hx' with hx'
      subst hx'
      have hn1 : n1 ≤ 65536 := by rw [← hs.len]; exact HL.out l (List.mem_of_getElem? hx)
      clear hx
      have hc : ∀ r, Calls Try.prog 24 #[.slice A1 n1 c1, .slice B1 m1 d1] (wr.drewN r) fun e w' => e = .returned (.bool true) ∧ ∃ m, w' = (wr.drewN r).drewN m := by
        intro r
        have h := bytes_any A1 B1 n1 c1 m1 d1 l l (wr.drewN r) (hs.move byteR_fine (fun _ _ => rfl) (fun _ h => h)) (hs'.move byteR_fine (fun _ _ => rfl) (fun _ h => h)) hn1
        simpa using h
      have HC := hide hc
      clear hc
      go_wp2
      go_quiet ((go_at_call 24; exact Calls.quiet_of (HC.out _)))
      go_wp2
      go_roundw
      case rel => exact ⟨k + 1, by omega, by go_num, by obtain ⟨q, rfl⟩ := hq; exact ⟨_, World.drewN_drewN _ _ _⟩⟩
      case measure => simp [intOf]; omega
    · go_wp2
      go_ret
      exact ⟨rfl, hq.out⟩

end Go.Proofs.Ytikjhcfalofgaaa
