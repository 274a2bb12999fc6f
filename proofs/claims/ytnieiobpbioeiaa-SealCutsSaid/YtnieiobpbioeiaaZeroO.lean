/-
  Plain: append(s, make([]byte, k)...) onto a slice of bytes that the call owns.
-/
import Derived.Test.YtnieiobpbioeiaaMadeZ
import Derived.Lib.AppendZerosOnto
namespace Go.Proofs.Ytnieiobpbioeiaa
open Go.RowKit
set_option linter.unusedVariables false

theorem zeroCells_one (z : Value) (k : Nat) : Builtin.zeroCells #[z] k = Array.replicate k z := by
  apply Array.ext
  · simp [Builtin.zeroCells]
  · intro i h1 h2
    simp [Builtin.zeroCells, Nat.mod_one]

theorem run_append_zeros_own {P : Program} (w : World) (base : Nat) (t tn ty e : TypeId) (i : TypeInfo) (z : Value) (kq kn : IntKind) (ht : P.underlying t = some (.slice e)) (htn : P.underlying tn = some (.int kn)) (hi : P.info? e = some i) (hz : i.zero = some z)
    (hsize : i.size = 1) (hby : i.bytes = 1) (u : Value) (hzs : z.cells = #[u]) (hu : u.oneCell' = true)
    (v : Value) (n : Nat) (xs : List Value) (hown : w.ownsRow base e 1 v n xs) (k : Nat) (h0 : 0 < k) (hk : n + k ≤ 65536) (hbase : base ≤ w.heap.size) :
    ∃ v' w', (Builtin.append_ #[t, tn] ty #[v, .int kq k]).run P w = .ok v' w' ∧ w'.ownsRow base e 1 v' (n + k) (xs ++ List.replicate k u) ∧ w.grownBy w' v.ownBlock ∧ (v'.ownBlock = v.ownBlock ∨ v'.ownBlock = some w.heap.size) := by
  have hxl : xs.length = n := by have := hown.1; omega
  have hlen : (xs ++ List.replicate k u).length = (n + k) * 1 := by simp [hxl]
  have grown : ∀ (old : Nat), old < n + k → ∀ (row : Option Nat),
      (w.drew.alloc (.cells (xs.toArray ++ Builtin.zeroCells z.cells k ++ Builtin.zeroCells z.cells (grownCap w (n + k) old e - (n + k))) e)).ownsRow base e 1
        (.slice (some ⟨w.heap.size, 0, none⟩) (n + k) (grownCap w (n + k) old e)) (n + k) (xs ++ List.replicate k u) ∧
      w.grownBy (w.drew.alloc (.cells (xs.toArray ++ Builtin.zeroCells z.cells k ++ Builtin.zeroCells z.cells (grownCap w (n + k) old e - (n + k))) e)) row := by
    intro old ho row
    have hge := grownCap_ge w (n + k) old e
    have hcm : grownCap w (n + k) old e ≤ maxLen := grownCap_le_maxLen w (n + k) old e (by simp only [maxLen]; omega)
    refine ⟨⟨hlen, .inr ⟨w.heap.size, _, _, rfl, hbase, heap_alloc_new w.drew _, hge, hcm, ?_, ?_⟩⟩, ⟨rfl, rfl, rfl, by simp, fun q hq _ => heap_alloc_old w.drew _ hq⟩⟩
    · rw [hzs]
      simp only [Array.size_append, List.size_toArray, size_zeroCells, hxl]
      simp
      omega
    · rw [hzs, zeroCells_one, zeroCells_one]
      simp only [Array.toList_append, List.append_assoc, Array.toList_replicate]
      rw [← List.append_assoc, ← hlen]
      exact List.take_left
  have hs0 : 0 < i.size := by omega
  rcases hown.2 with ⟨rfl, rfl⟩ | ⟨g, cap, cur, rfl, hbg, hg, hnc, hcm, hcs, htake⟩
  · have hx : xs = [] := List.eq_nil_of_length_eq_zero hxl
    subst hx
    have hr := Lib.run_append_nil_zeros (P := P) w t tn ty e i z kq kn ht htn hi hz k h0 hs0 (by omega) (by rw [hby]; omega)
    have hgr := grown 0 (by omega) (Value.ownBlock (.slice none 0 0))
    simp only [Nat.zero_add, List.nil_append, Array.empty_append] at hgr ⊢
    exact ⟨_, _, hr, hgr.1, hgr.2, .inr rfl⟩
  · by_cases hroom : n + k ≤ cap
    · have hfit : n + k ≤ cur.size := by omega
      have hst := run_storeCells_at P g n e (List.replicate k u) 0 cur w hg (by simpa using hfit) (by intro x hx; rw [(List.mem_replicate.1 hx).2]; exact hu)
      simp only [Nat.add_zero] at hst
      have hw : IntKind.i64.wrap (k : Int) = k := by rw [IntKind.wrap_i64]; omega
      have hneg : ¬ ((k : Int) < 0) := by omega
      have hk0 : k ≠ 0 := by omega
      have h48 : ¬ (281474976710656 < (k : Int)) := by omega
      have hr : (Builtin.append_ #[t, tn] ty #[.slice (some ⟨g, 0, none⟩) n cap, .int kq k]).run P w = .ok (.slice (some ⟨g, 0, none⟩) (n + k) cap) (w.setRow g (cur.toList.take n ++ List.replicate k u ++ cur.toList.drop (n + (List.replicate k u).length)).toArray) := by
        simp [Builtin.append_, run_underlying ht, run_underlying htn, sizeOf, typeInfo, zeroValue, hi, hz, asInt, asIntOf, hw, hneg, hby, hsize, h48, hk0, hroom, hzs, zeroCells_one, Addr.add_lit, Array.toList_replicate]
        rw [hst]
        simp
      refine ⟨_, _, hr, ⟨hlen, .inr ⟨g, cap, _, rfl, hbg, setRow_heap w g cur _ e _ hg, hroom, hcm, ?_, ?_⟩⟩, ⟨rfl, rfl, rfl, by simp, fun k _ hk => setRow_other w g k _ (fun e => hk (by simp [Value.ownBlock, e]))⟩, Or.inl rfl⟩
      · simp only [List.size_toArray, List.length_append, List.length_take, List.length_drop, Array.length_toList, List.length_replicate]
        omega
      · have ht2 : cur.toList.take n = xs := by simpa using htake
        rw [ht2, ← hlen]
        exact List.take_left
    · have holds : ∀ j u, xs[j]? = some u → w.cell? ((⟨g, 0, none⟩ : Addr).add j) = some u := hown.cells (g := g) rfl
      have hl := run_loadCells_list (P := P) w ⟨g, 0, none⟩ xs holds
      have hold : (Builtin.firstCells i.size n (.slice (some ⟨g, 0, none⟩) n cap)).run P w.drew = .ok xs.toArray w.drew := by
        have h2 := run_firstCells_some (P := P) w.drew i.size n ⟨g, 0, none⟩ n cap xs (by rw [hsize, hxl, Nat.mul_one]) holds
        exact h2
      have hr := Lib.run_append_grow_zeros (P := P) w t tn ty e i z kq kn ht htn hi hz (some ⟨g, 0, none⟩) n cap xs hold k h0 hs0 (by omega) (by omega) (by rw [hby]; omega) (by rw [hby]; exact growslice_fits (bytes := 1) (by omega) (by omega))
      have hgr := grown cap (by omega) (Value.ownBlock (.slice (some ⟨g, 0, none⟩) n cap))
      exact ⟨_, _, hr, hgr.1, hgr.2, Or.inr rfl⟩

/-- Noughts behind the bytes that the call owns. -/
theorem run_append_zeros_ow {P : Program} (w : World) (base lo : Nat) (t tn ty e : TypeId) (i : TypeInfo) (z : Value) (kq kn : IntKind) (ht : P.underlying t = some (.slice e)) (htn : P.underlying tn = some (.int kn)) (hi : P.info? e = some i) (hz : i.zero = some z)
    (hsize : i.size = 1) (hby : i.bytes = 1) (hzs : z.cells = #[.int .u8 0])
    (V : Value) (n : Nat) (L : List UInt8) (hown : Ow byteR 1 w base lo e V n L) (k : Nat) (h0 : 0 < k) (hk : n + k ≤ 65536) (hbase : base ≤ w.heap.size) :
    ∃ A' c' w', (Builtin.append_ #[t, tn] ty #[V, .int kq k]).run P w = .ok (.slice A' (n + k) c') w' ∧ Bs w' A' (n + k) c' (L ++ List.replicate k 0) ∧ w.grownBy w' V.ownBlock := by
  obtain ⟨hl, xs, hx, h1, hel⟩ := hown
  obtain ⟨v', w', hr, ho, hg, hat⟩ := run_append_zeros_own (P := P) w base t tn ty e i z kq kn ht htn hi hz hsize hby (.int .u8 0) hzs rfl V n xs hx k h0 hk hbase
  obtain ⟨A', c', rfl⟩ := own_form ho
  have hxl : xs.length = n := by have := hx.1; omega
  have hW : Ow byteR 1 w' base base e (.slice A' (n + k) c') (n + k) (L ++ List.replicate k 0) := by
    refine ⟨by simp [hl], _, ho, ?_, fun i x hix => ?_⟩
    · intro u hu
      rcases List.mem_append.1 hu with hu | hu
      · exact h1 u hu
      · rw [(List.mem_replicate.1 hu).2]; rfl
    · by_cases hin : i < n
      · rw [List.getElem?_append_left (by omega)] at hix
        rw [Nat.mul_one, List.drop_append_of_le_length (by omega), List.take_append_of_le_length (by rw [List.length_drop]; omega)]
        have := hel i x hix
        rw [Nat.mul_one] at this
        exact this
      · rw [List.getElem?_append_right (by omega), hl] at hix
        have hlt := (List.getElem?_eq_some_iff.1 hix).1
        rw [List.length_replicate] at hlt
        rw [List.getElem?_replicate, if_pos hlt] at hix
        injection hix with hix
        subst hix
        rw [Nat.mul_one, List.drop_append, List.drop_of_length_le (by omega), List.nil_append, hxl, List.drop_replicate, List.take_replicate, show min 1 (k - (i - n)) = 1 from by omega]
        rfl
  exact ⟨A', c', w', hr, hW.read byteR_fine, hg⟩

end Go.Proofs.Ytnieiobpbioeiaa
