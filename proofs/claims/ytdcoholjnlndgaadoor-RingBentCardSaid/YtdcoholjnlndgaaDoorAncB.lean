/-
  Contract: anchor.Bytes.
-/
import Derived.Test.YtdcoholjnlndgaaDoorAncK
import Derived.Test.YtdcoholjnlndgaaDoorRowO
import Derived.Test.YtdcoholjnlndgaaDoorLabC
namespace Go.Proofs.YtdcoholjnlndgaaDoor
open Go.RowKit Go.Lib
set_option linter.unusedVariables false
set_option maxRecDepth 100000

theorem le_one (n : Nat) : le 1 n = [UInt8.ofNat n] := rfl
theorem row_head (a : Anc) : rowL [a.gen, a.epoch, a.seq, a.last, a.pos] [4, 4, 4, 4, 1] = headL a := by simp [rowL, headL, List.append_assoc]
theorem row_tail (h : Hom) : rowL [h.next, h.root] [1, 4] = le 1 h.next.toNat ++ le 4 h.root.toNat := by simp [rowL]
theorem fit_of {n : Int} {k : Nat} {m : Int} (hk : k = 1 ∨ k = 2 ∨ k = 4) (h0 : 0 ≤ n) (h1 : n < m) (hm : m = 256 ^ k) : FitsP n (k : Int) := ⟨by rcases hk with h | h | h <;> subst h; exact .inl rfl; exact .inr (.inl rfl); exact .inr (.inr rfl), h0, by rw [Int.toNat_natCast, ← hm]; exact h1⟩
theorem fit_four {n : Int} (h : NumOk n) : FitsP n 4 := fit_of (k := 4) (.inr (.inr rfl)) h.1 (m := 4294967296) (by have := h.2; omega) (by decide)
theorem fit_one {n : Int} (h0 : 0 ≤ n) (h1 : n ≤ 255) : FitsP n 1 := fit_of (k := 1) (.inl rfl) h0 (m := 256) (by omega) (by decide)
theorem fit_head {a : Anc} {g : Geo} (hG : GeoOk g) (h : HeadOk g a) : FitAll [a.gen, a.epoch, a.seq, a.last, a.pos] [4, 4, 4, 4, 1] := by
  obtain ⟨h1, h2, h3, h4, _, _, h5, h6⟩ := h
  have hs := hG.2.2.2.1
  intro i n z hn hz
  match i, hn, hz with
  | 0, hn, hz => simp at hn hz; subst hn; subst hz; exact fit_four h1
  | 1, hn, hz => simp at hn hz; subst hn; subst hz; exact fit_four h2
  | 2, hn, hz => simp at hn hz; subst hn; subst hz; exact fit_four h3
  | 3, hn, hz => simp at hn hz; subst hn; subst hz; exact fit_four h4
  | 4, hn, hz => simp at hn hz; subst hn; subst hz; exact fit_one h5 (by omega)
  | i + 5, hn, hz => simp at hn
theorem fit_tail {h : Hom} {g : Geo} (hG : GeoOk g) (ho : HomOk g h) : FitAll [h.next, h.root] [1, 4] := by
  have hd := hG.2.1
  have hs := hG.2.2.1
  have hn := ho.2.1
  intro i n z hn' hz
  match i, hn', hz with
  | 0, hn', hz => simp at hn' hz; subst hn'; subst hz; exact fit_one (by omega) (by omega)
  | 1, hn', hz => simp at hn' hz; subst hn'; subst hz; exact fit_four ho.2.2.1
  | i + 2, hn', hz => simp at hn'

/-- A right anchor's bytes up to the k-th home. -/
def ancP (a : Anc) (k : Nat) : List UInt8 := headL a ++ labB (sL a.label) ++ homsL (a.homes.take k)
theorem ancP_zero (a : Anc) : ancP a 0 = headL a ++ labB (sL a.label) := by simp [ancP, homsL]
theorem ancP_all (a : Anc) {n : Nat} (h : a.homes.length = n) : ancP a n = ancL a := by rw [ancP, ancL, List.take_of_length_le (by omega)]
theorem homsL_take {l : List Hom} {k : Nat} {h : Hom} (hk : l[k]? = some h) : homsL (l.take (k + 1)) = homsL (l.take k) ++ homL h := by
  obtain ⟨h1, h2⟩ := List.getElem?_eq_some_iff.1 hk
  rw [List.take_succ_eq_append_getElem h1, h2]
  simp [homsL]
theorem ancP_step {a : Anc} {k : Nat} {h : Hom} (hk : a.homes[k]? = some h) : ancP a (k + 1) = ancP a k ++ (h.places.map fun p => UInt8.ofNat p.toNat) ++ (le 1 h.next.toNat ++ le 4 h.root.toNat) := by
  rw [ancP, homsL_take hk, ancP, homL]
  simp only [List.append_assoc]
theorem pls_step {l : List Int} {j : Nat} {p : Int} (h : l[j]? = some p) : ((l.take (j + 1)).map fun p => UInt8.ofNat p.toNat) = ((l.take j).map fun p => UInt8.ofNat p.toNat) ++ le 1 p.toNat := by
  obtain ⟨h1, h2⟩ := List.getElem?_eq_some_iff.1 h
  rw [List.take_succ_eq_append_getElem h1, h2]
  simp [le]

def ABytes (g : Geo) (a : Anc) (l : List UInt8) (err : Int) : Prop := (¬ (GeoOk g ∧ AncOk g a) ∧ err = 1 ∧ l = []) ∨ ((GeoOk g ∧ AncOk g a) ∧ err = 0 ∧ l = ancL a)
def ABytesPost (w : World) (g : Geo) (a : Anc) (e : Ending) (w' : World) : Prop := Below w.heap.size w w' ∧ ∃ V n c l err, e = .returned (.tuple #[.slice V n c, .int .i64 err]) ∧ Ow byteR 1 w' w.heap.size 0 5 (.slice V n c) n l ∧ ABytes g a l err

theorem put_byte {A : Option Addr} {n c : Nat} {xs : List UInt8} {w : World} (ha : Bs w A n c xs) (hn : n ≤ 60000) (N : Int) (h0 : 0 ≤ N) (h1 : N ≤ 255) :
    Calls Tryd.prog 69 #[.slice A n c, .int .i64 N, .int .i64 1] w fun e w' => ∃ V cv, e = .returned (.tuple #[.slice V (n + 1) cv, .int .i64 0]) ∧ Ow byteR 1 w' w.heap.size w.heap.size 5 (.slice V (n + 1) cv) (n + 1) (xs ++ le 1 N.toNat) ∧ Below w.heap.size w w' := put_ok ha hn N 1 (fit_one h0 h1)
theorem row_two {h : Hom} {g : Geo} (hG : GeoOk g) (ho : HomOk g h) (hin : InI h.next ∧ InI h.root) (w : World) :
    Calls Tryd.prog 63 #[.slice (some ⟨w.heap.size, 0, none⟩) 2 2, .slice (some ⟨w.heap.size + 1, 0, none⟩) 2 2] ((w.alloc (.cells #[.int .i64 h.next, .int .i64 h.root] 3)).alloc (.cells #[.int .i64 1, .int .i64 4] 3)) fun e w' => ∃ V cv, e = .returned (.tuple #[.slice V 5 cv, .int .i64 0]) ∧ Ow byteR 1 w' w.heap.size 0 5 (.slice V 5 cv) 5 (le 1 h.next.toNat ++ le 4 h.root.toNat) ∧ Below w.heap.size w w' := by
  obtain ⟨i1, i2⟩ := hin
  have h1 : Is ((w.alloc (.cells #[.int .i64 h.next, .int .i64 h.root] 3)).alloc (.cells #[.int .i64 1, .int .i64 4] 3)) (some ⟨w.heap.size, 0, none⟩) 2 2 [h.next, h.root] :=
    (lit_ints_at (n := 2) (l := [h.next, h.root]) rfl rfl (by omega) (fun z hz => by simp at hz; rcases hz with rfl | rfl; exact i1; exact i2) rfl).on intR_fine (alloc_below _ _)
  have h2 : Is ((w.alloc (.cells #[.int .i64 h.next, .int .i64 h.root] 3)).alloc (.cells #[.int .i64 1, .int .i64 4] 3)) (some ⟨w.heap.size + 1, 0, none⟩) 2 2 [1, 4] :=
    lit_ints_at (n := 2) (l := [1, 4]) (by simp) rfl (by omega) (fun z hz => by simp at hz; rcases hz with rfl | rfl <;> exact ⟨by omega, by omega⟩) rfl
  have hb2 : Below w.heap.size w ((w.alloc (.cells #[.int .i64 h.next, .int .i64 h.root] 3)).alloc (.cells #[.int .i64 1, .int .i64 4] 3)) := (alloc_below w _).alloc (by simp) _
  refine (row_own h1 h2 (by omega)).mono ?_
  rintro e w' ⟨hb, ⟨_, V, cv, rfl, ho2⟩ | ⟨hno, _⟩⟩
  · rw [row_tail] at ho2
    exact ⟨V, cv, rfl, ho2.less byteR_fine hb2.size (Nat.le_refl _), th hb2 hb⟩
  · exact absurd (fit_tail hG ho) hno

end Go.Proofs.YtdcoholjnlndgaaDoor
