/-
  Contracts: slices.Repeat of one int; anchor.homes.
-/
import Derived.Test.YtjlppkbmapmbiaaDoorCopyN
import Derived.Test.YtjlppkbmapmbiaaDoorStruct
import Derived.Test.YtjlppkbmapmbiaaDoorRowO
import Derived.Deep.RegionLaw
import Derived.Deep.CutRange
import Derived.IntWalk
import Derived.Deep.DeepCutAuto
import Derived.Test.YtjlppkbmapmbiaaDoorAncW
import Derived.Deep.RegionHeld3
namespace Go.Proofs.YtjlppkbmapmbiaaDoor
open Go.RowKit
set_option linter.unusedVariables false
set_option maxRecDepth 100000

theorem int_sizeR : (Tryd.prog.info? 3).map (·.size) = some 1 := by kernel_rfl
def zInt : List Value := [.int .i64 0]
theorem made_int {k : Nat} (h : k = 3 ∨ k = 4 ∨ k = 5 ∨ k = 6) : madeCells (Value.int .i64 0).cells (k * 1) = (flat k zInt).toArray := by
  rcases h with rfl | rfl | rfl | rfl <;> kernel_rfl

end Go.Proofs.YtjlppkbmapmbiaaDoor

namespace Go.Proofs.YtjlppkbmapmbiaaDoor
open Go.RowKit Go.Lib
set_option linter.unusedVariables false
set_option maxRecDepth 100000

theorem Sl.cap_ {α : Type} {R : Rp α} {s : Nat} {w : World} {S : Nat → Prop} {A : Option Addr} {n c c' : Nat} {L : List α} (h : Sl R s w S A n c L) (hc : n ≤ c') : Sl R s w S A n c' L := ⟨h.len, hc, h.at0⟩

/-- The sizes of a home's numbers. -/
def homS (d : Nat) : List Int := List.replicate (d + 2) 1 ++ [4]
theorem homS_len (d : Nat) : (homS d).length = d + 3 := by simp [homS]
theorem homS_sized (d : Nat) : ∀ z ∈ homS d, Sized z := by
  intro z hz
  rcases List.mem_append.1 hz with h | h
  · rw [(List.mem_replicate.1 h).2]; exact .inl rfl
  · obtain rfl := List.mem_singleton.1 h; exact .inr (.inr rfl)
theorem sumN_rep (m : Nat) (t : List Int) : sumN (List.replicate m 1 ++ t) = m + sumN t := by
  induction m with
  | zero => simp
  | succ m ih =>
    rw [List.replicate_succ, List.cons_append]
    show (1 : Int).toNat + sumN (List.replicate m 1 ++ t) = _
    rw [ih]
    show 1 + (m + sumN t) = _
    omega
theorem homS_sum (d : Nat) : sumN (homS d) = d + 6 := by
  rw [homS, sumN_rep]
  rfl
theorem unrow_rep (m : Nat) (t : List Int) (xs : List UInt8) (h : m ≤ xs.length) : unrowI (List.replicate m 1 ++ t) xs = (xs.take m).map (fun x => (x.toNat : Int)) ++ unrowI t (xs.drop m) := by
  induction m generalizing xs with
  | zero => simp
  | succ m ih =>
    match xs, h with
    | x :: xs, h =>
      rw [List.replicate_succ, List.cons_append]
      show ((num ((x :: xs).take 1) : Nat) : Int) :: unrowI (List.replicate m 1 ++ t) ((x :: xs).drop 1) = _
      rw [List.drop_succ_cons, List.drop_zero, ih xs (by simpa using h)]
      simp [num]
theorem homS_unrow {d : Nat} {xs : List UInt8} (h : d + 6 ≤ xs.length) : unrowI (homS d) xs = (homOf d xs).places ++ [(homOf d xs).next, (homOf d xs).root] := by
  rw [homS, unrow_rep _ _ _ (by omega)]
  have hl : d + 1 < xs.length := by omega
  have e1 : xs.take (d + 2) = xs.take (d + 1) ++ [xs[d + 1]] := List.take_succ_eq_append_getElem hl
  have e2 : num ((xs.drop (d + 1)).take 1) = (xs[d + 1]).toNat := by
    rw [List.drop_eq_getElem_cons hl, List.take_succ_cons, List.take_zero]
    simp [num]
  rw [e1]
  show List.map _ (List.take (d + 1) xs ++ [xs[d + 1]]) ++ [((num ((xs.drop (d + 2)).take 4) : Nat) : Int)] = (List.take (d + 1) xs).map _ ++ [((num ((xs.drop (d + 1)).take 1) : Nat) : Int), ((num ((xs.drop (d + 2)).take 4) : Nat) : Int)]
  rw [e2, List.map_append, List.append_assoc]
  rfl
theorem homOf_in {d : Nat} {xs : List UInt8} (h : d + 6 ≤ xs.length) : (homOf d xs).places.length = d + 1 ∧ InI (homOf d xs).next ∧ InI (homOf d xs).root := by
  have h1 := num_take_lt (xs.drop (d + 1)) 1 (by rw [List.length_drop]; omega)
  have h2 := num_take_lt (xs.drop (d + 2)) 4 (by rw [List.length_drop]; omega)
  refine ⟨by simp [homOf]; omega, ⟨?_, ?_⟩, ?_, ?_⟩
  all_goals (show _ ≤ _; simp only [homOf]; omega)
theorem homsOf_snoc (d k : Nat) (l : List UInt8) : homsOf d (k + 1) l = homsOf d k l ++ [homOf d (l.drop (k * (d + 6)))] := by
  induction k generalizing l with
  | zero => simp [homsOf]
  | succ k ih =>
    show homOf d l :: homsOf d (k + 1) (l.drop (d + 6)) = _
    rw [ih, List.drop_drop]
    show _ = homOf d l :: (homsOf d k (l.drop (d + 6)) ++ _)
    rw [show d + 6 + k * (d + 6) = (k + 1) * (d + 6) by rw [Nat.add_mul, Nat.one_mul]; omega]

/-- What is apart from an owned slice stays while it grows. -/
theorem but_grow {α : Type} {R : Rp α} {s n : Nat} {w w' : World} {v v' : Value} {A : Option Addr} {c : Nat} {L : List α} (hF : Fine R s) (h : Sl R s w (But w 0 v) A n c L) (hg : w.grownBy w' v.ownBlock) (hat : v'.ownBlock = v.ownBlock ∨ v'.ownBlock = some w.heap.size) : Sl R s w' (But w' 0 v') A n c L :=
  h.move hF (fun b hb => hg.block b hb.2.1 hb.2.2) (fun b hb => ⟨Nat.zero_le _, Nat.lt_of_lt_of_le hb.2.1 hg.size, by
    rcases hat with h | h <;> rw [h]
    · exact hb.2.2
    · intro e
      injection e with e
      have := hb.2.1
      omega⟩)
theorem but_below {α : Type} {R : Rp α} {s n : Nat} {w w' : World} {v : Value} {A : Option Addr} {c : Nat} {L : List α} (hF : Fine R s) (h : Sl R s w (But w 0 v) A n c L) (hb : Below w.heap.size w w') : Sl R s w' (But w' 0 v) A n c L :=
  h.move hF (fun b hb' => hb.block b hb'.2.1) (fun b hb' => ⟨Nat.zero_le _, Nat.lt_of_lt_of_le hb'.2.1 hb.size, hb'.2.2⟩)

/-- What anchor.homes tells. -/
def AHomes (z d : Nat) (b : List UInt8) (L : List Hom) (err : Int) : Prop := (z * (d + 6) ≤ b.length ∧ err = 0 ∧ L = homsOf d z b) ∨ (b.length < z * (d + 6) ∧ err = 4 ∧ L = [])
def AHomesPost (w : World) (z d : Nat) (b : List UInt8) (e : Ending) (w' : World) : Prop := Below w.heap.size w w' ∧ ∃ A n c L err, e = .returned (.tuple #[.slice A n c, .int .i64 err]) ∧ Sl homR 3 w' (New w.heap.size w') A n c L ∧ AHomes z d b L err

end Go.Proofs.YtjlppkbmapmbiaaDoor
