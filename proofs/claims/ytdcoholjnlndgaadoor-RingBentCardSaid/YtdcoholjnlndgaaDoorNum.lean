/-
  Numbers as bytes, the lowest first: plain.
-/
import Derived.Test.YtdcoholjnlndgaaDoorWords
import Derived.IntWalk
namespace Go.Proofs.YtdcoholjnlndgaaDoor
open Go.RowKit

/-- The k lowest bytes of a number, the lowest first. -/
def le : Nat → Nat → List UInt8
  | 0, _ => []
  | k + 1, n => UInt8.ofNat n :: le k (n / 256)
/-- The number that bytes are. -/
def num : List UInt8 → Nat
  | [] => 0
  | b :: l => b.toNat + 256 * num l

/-- Bytes, how many there are before them. -/
def partL (l : List UInt8) : List UInt8 := UInt8.ofNat l.length :: l

theorem le_len (k n : Nat) : (le k n).length = k := by
  induction k generalizing n with
  | zero => rfl
  | succ k ih => simp [le, ih]
theorem num_le (k n : Nat) : num (le k n) = n % 256 ^ k := by
  induction k generalizing n with
  | zero => simp [le, num, Nat.mod_one]
  | succ k ih =>
    simp only [le, num, ih, UInt8.toNat_ofNat']
    show n % 256 + 256 * (n / 256 % 256 ^ k) = n % 256 ^ (k + 1)
    rw [Nat.pow_succ, Nat.mul_comm (256 ^ k) 256, Nat.mod_mul]
theorem num_lt (l : List UInt8) : num l < 256 ^ l.length := by
  induction l with
  | nil => simp [num]
  | cons b l ih =>
    have := b.toNat_lt
    simp only [num, List.length_cons, Nat.pow_succ]
    omega
theorem le_num (l : List UInt8) : le l.length (num l) = l := by
  induction l with
  | nil => rfl
  | cons b l ih =>
    have hb := b.toNat_lt
    simp only [List.length_cons, le, num]
    have h1 : (b.toNat + 256 * num l) / 256 = num l := by omega
    have h2 : UInt8.ofNat (b.toNat + 256 * num l) = b := by
      apply UInt8.toNat_inj.1
      rw [UInt8.toNat_ofNat']
      omega
    rw [h1, h2, ih]
theorem num_append (l r : List UInt8) : num (l ++ r) = num l + 256 ^ l.length * num r := by
  induction l with
  | nil => simp [num]
  | cons b l ih =>
    simp only [List.cons_append, num, List.length_cons, Nat.pow_succ, ih, Nat.mul_add]
    rw [← Nat.mul_assoc, Nat.mul_comm 256 (256 ^ l.length), Nat.add_assoc]
theorem le_inj {k n m : Nat} (hn : n < 256 ^ k) (hm : m < 256 ^ k) (h : le k n = le k m) : n = m := by
  have := congrArg num h
  rwa [num_le, num_le, Nat.mod_eq_of_lt hn, Nat.mod_eq_of_lt hm] at this

/-- A size that there is. -/
def Sized (size : Int) : Prop := size = 1 ∨ size = 2 ∨ size = 4
/-- A number that has room in so many bytes. -/
def FitsP (n size : Int) : Prop := Sized size ∧ 0 ≤ n ∧ n < 256 ^ size.toNat
instance (size : Int) : Decidable (Sized size) := by unfold Sized; infer_instance
instance (n size : Int) : Decidable (FitsP n size) := by unfold FitsP; infer_instance

/-- A literal of bytes just made: owned. -/
theorem own_lit {w : World} {l : List UInt8} {cs : Array Value} {e : TypeId} {n : Nat} (hl : l.length = n) (hn : n ≤ 65536) (h : cs = (l.map fun x => Value.int .u8 (x.toNat : Int)).toArray) :
    Ow byteR 1 (w.alloc (.cells cs e)) w.heap.size w.heap.size e (.slice (some ⟨w.heap.size, 0, none⟩) n n) n l := by
  subst h
  subst hl
  refine Ow.made w _ (by simp only [maxLen]; omega) (by simp) rfl ?_ ?_ byteR_fine
  · intro u hu
    simp only [List.mem_map] at hu
    obtain ⟨_, _, rfl⟩ := hu
    rfl
  · intro i x hx
    obtain ⟨h1, e1⟩ := List.getElem?_eq_some_iff.1 hx
    show _ = _
    rw [Nat.mul_one, List.drop_eq_getElem_cons (by simpa using h1)]
    simp [e1]
theorem cells_le1 (n : Nat) (h : n < 256) : (#[.int .u8 (n : Int)] : Array Value) = ((le 1 n).map fun x => Value.int .u8 (x.toNat : Int)).toArray := by
  simp [le, UInt8.toNat_ofNat']; omega
theorem cells_le2 (n : Nat) (h : n < 65536) : (#[.int .u8 ((n : Int) % 256), .int .u8 ((n : Int) / 256)] : Array Value) = ((le 2 n).map fun x => Value.int .u8 (x.toNat : Int)).toArray := by
  simp [le, UInt8.toNat_ofNat']; omega
theorem cells_le4 (n : Nat) (h : n < 4294967296) : (#[.int .u8 ((n : Int) % 256), .int .u8 ((n : Int) / 256 % 256), .int .u8 ((n : Int) / 65536 % 256), .int .u8 ((n : Int) / 16777216)] : Array Value) = ((le 4 n).map fun x => Value.int .u8 (x.toNat : Int)).toArray := by
  simp [le, UInt8.toNat_ofNat', Nat.div_div_eq_div_mul]; omega

theorem ofInt64_nat (a : Nat) (ha : a < 9223372036854775808) : (BitVec.ofInt 64 (a : Int)).toNat = a := by
  rw [BitVec.ofInt_natCast, BitVec.toNat_ofNat]
  exact Nat.mod_eq_of_lt (by omega)
theorem or_nat (a b : Nat) (ha : a < 9223372036854775808) (hb : b < 9223372036854775808) : bits .or .i64 (a : Int) (b : Int) = ((a ||| b : Nat) : Int) := by
  have hx : a ||| b < 2 ^ 63 := Nat.or_lt_two_pow (by omega) (by omega)
  show IntKind.i64.wrap ((BitVec.ofInt 64 (a : Int) ||| BitVec.ofInt 64 (b : Int)).toNat : Int) = _
  rw [BitVec.toNat_or, ofInt64_nat a ha, ofInt64_nat b hb, IntKind.wrap_i64]
  omega
/-- One byte more, above those that are there. -/
theorem get_step (a x k : Nat) (hk : k < 4) (ha : a < 256 ^ k) (hx : x < 256) : bits .or .i64 (a : Int) (wrap64 ((x : Int) * 2 ^ (8 * k))) = ((a + 256 ^ k * x : Nat) : Int) := by
  have h256 : (256 : Nat) ^ k = 2 ^ (8 * k) := by rw [Nat.pow_mul]
  have hp : 2 ^ (8 * k) ≤ 2 ^ 24 := Nat.pow_le_pow_right (by omega) (by omega)
  have hb : 2 ^ (8 * k) * x < 2 ^ 32 := by
    have h1 : 2 ^ (8 * k) * x ≤ 2 ^ 24 * x := Nat.mul_le_mul_right _ hp
    omega
  have hc : (x : Int) * 2 ^ (8 * k) = ((2 ^ (8 * k) * x : Nat) : Int) := by
    rw [Int.natCast_mul, Int.mul_comm]
    congr 1
  rw [hc, IntWalk.wrap64_in _ ⟨by omega, by omega⟩]
  rw [h256] at ha ⊢
  rw [or_nat _ _ (by omega) (by omega), Nat.or_comm, ← Nat.two_pow_add_eq_or_of_lt ha, Nat.add_comm]
theorem num_step {l : List UInt8} {k : Nat} {x : UInt8} (h : l[k]? = some x) : num (l.take (k + 1)) = num (l.take k) + 256 ^ k * x.toNat := by
  obtain ⟨h1, e1⟩ := List.getElem?_eq_some_iff.1 h
  rw [List.take_succ_eq_append_getElem h1, e1, num_append]
  have : (l.take k).length = k := by rw [List.length_take]; omega
  rw [this]
  simp [num]
theorem num_take_lt (l : List UInt8) (k : Nat) (h : k ≤ l.length) : num (l.take k) < 256 ^ k := by
  have := num_lt (l.take k)
  rwa [List.length_take, Nat.min_eq_left h] at this

end Go.Proofs.YtdcoholjnlndgaaDoor
