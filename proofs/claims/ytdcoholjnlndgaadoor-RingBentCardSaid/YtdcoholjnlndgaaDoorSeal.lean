/-
  Contracts: seal.Make; the reference's Right, Seal.
-/
import Derived.Test.YtdcoholjnlndgaaDoorRefP
import Derived.Test.YtdcoholjnlndgaaDoorSum
import Derived.Test.YtdcoholjnlndgaaDoorSealP
import Derived.Deep.RegionHeld3
namespace Go.Proofs.YtdcoholjnlndgaaDoor
open Go.RowKit
set_option linter.unusedVariables false
set_option maxRecDepth 100000

theorem fits2 {a : Nat} (h : a ≤ 65535) : FitsP (a : Int) 2 := ⟨.inr (.inl rfl), by omega, by simp; omega⟩
theorem fits4 {a : Nat} (h : a ≤ 4294967295) : FitsP (a : Int) 4 := ⟨.inr (.inr rfl), by omega, by simp; omega⟩

/-- The cells of a thing that was boxed, in a later world. -/
theorem box_cell {w w' : World} {cs : Array Value} {e : TypeId} (hb : Below (w.alloc (.cells cs e)).heap.size (w.alloc (.cells cs e)) w') (k : Nat) (u : Value) (h : cs[k]? = some u) : w'.cell? ⟨w.heap.size, k, none⟩ = some u := by
  have h0 : (w.alloc (.cells cs e)).cell? ⟨w.heap.size, k, none⟩ = some u := by
    rw [World.cell?_alloc_at cs e _ _ rfl]
    exact h
  exact (hb.cell (by simp)).trans h0

theorem box_free {w w' : World} {cs : Array Value} {e : TypeId} (hb : Below (w.alloc (.cells cs e)).heap.size (w.alloc (.cells cs e)) w') (k : Nat) : w'.frozen? ⟨w.heap.size, k, none⟩ = false :=
  (hb.frozen (by simp)).trans (World.frozen?_alloc_at _ _ _ _ rfl)

/-- A right sector. -/
def SecOk (x : Sec) : Prop := (0 ≤ x.addr ∧ x.addr ≤ 65535) ∧ 0 ≤ x.stamp ∧ x.stamp ≤ 4294967295
instance (x : Sec) : Decidable (SecOk x) := by unfold SecOk; infer_instance

theorem in_any (n lo hi : Int) (w : World) : Calls Tryd.prog 18 #[.int .i64 n, .int .i64 lo, .int .i64 hi] w fun e w' => e = .returned (.bool (decide (lo ≤ n ∧ n ≤ hi))) ∧ w = w' := by
  by_cases h1 : lo ≤ n
  · by_cases h2 : n ≤ hi
    · have e1 : decide (lo ≤ n ∧ n ≤ hi) = true := by simp [h1, h2]
      rw [e1]
      go_enter Tryd.func18, Tryd.ntmps18
      go_wp2_with fail
      go_ret
      exact ⟨rfl, rfl⟩
    · have e1 : decide (lo ≤ n ∧ n ≤ hi) = false := by simp [h2]
      rw [e1]
      go_enter Tryd.func18, Tryd.ntmps18
      go_wp2_with fail
      go_ret
      exact ⟨rfl, rfl⟩
  · have e1 : decide (lo ≤ n ∧ n ≤ hi) = false := by simp [h1]
    rw [e1]
    go_enter Tryd.func18, Tryd.ntmps18
    go_wp2_with fail
    go_ret
    exact ⟨rfl, rfl⟩

theorem rput1 {A : Option Addr} {n c : Nat} {xs : List UInt8} {w : World} (ha : Bs w A n c xs) (hn : n ≤ 60000) (N : Nat) (hN : N < 9223372036854775807) :
    Calls Tryd.prog 33 #[.slice A n c, .int .i64 N, .int .i64 1] w fun e w' => ∃ V cv, e = .returned (.slice V (n + 1) cv) ∧ Ow byteR 1 w' w.heap.size w.heap.size 5 (.slice V (n + 1) cv) (n + 1) (xs ++ le 1 N) ∧ Below w.heap.size w w' := rput_any ha hn N 1 (by omega) hN
theorem rput2 {A : Option Addr} {n c : Nat} {xs : List UInt8} {w : World} (ha : Bs w A n c xs) (hn : n ≤ 60000) (N : Nat) (hN : N < 9223372036854775807) :
    Calls Tryd.prog 33 #[.slice A n c, .int .i64 N, .int .i64 2] w fun e w' => ∃ V cv, e = .returned (.slice V (n + 2) cv) ∧ Ow byteR 1 w' w.heap.size w.heap.size 5 (.slice V (n + 2) cv) (n + 2) (xs ++ le 2 N) ∧ Below w.heap.size w w' := rput_any ha hn N 2 (by omega) hN
theorem rput4 {A : Option Addr} {n c : Nat} {xs : List UInt8} {w : World} (ha : Bs w A n c xs) (hn : n ≤ 60000) (N : Nat) (hN : N < 9223372036854775807) :
    Calls Tryd.prog 33 #[.slice A n c, .int .i64 N, .int .i64 4] w fun e w' => ∃ V cv, e = .returned (.slice V (n + 4) cv) ∧ Ow byteR 1 w' w.heap.size w.heap.size 5 (.slice V (n + 4) cv) (n + 4) (xs ++ le 4 N) ∧ Below w.heap.size w w' := rput_any ha hn N 4 (by omega) hN

end Go.Proofs.YtdcoholjnlndgaaDoor
