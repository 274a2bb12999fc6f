/-
  Contracts: zone.Block of what is right; casematelaw13.wakes.
-/
import Derived.Test.YtikjhcfalofgaaaZFull
import Derived.Test.YtikjhcfalofgaaaLit
namespace Go.Proofs.Ytikjhcfalofgaaa
open Go.RowKit
set_option linter.unusedVariables false
set_option maxRecDepth 100000

theorem set_apart {w : World} {N k : Nat} {v u u' : Value} {a : Addr} (h : w.cell? a = some u) (hp : w.cell? ⟨N, k, none⟩ = some u') (hne : u ≠ u') : (w.setCell ⟨N, k, none⟩ v).cell? a = some u := by
  by_cases hb : a.block = N
  · subst hb
    unfold World.cell? at h hp ⊢
    unfold World.setCell
    dsimp only at h hp ⊢
    rw [Array.getElem?_modify, if_pos rfl]
    cases hx : w.heap[a.block]? with
    | none => rw [hx] at h; cases h
    | some o =>
      rw [hx] at h hp
      cases o with
      | cells c e f =>
        simp only [Option.map_some, Option.isSome_none, Bool.false_eq_true, if_false] at h hp ⊢
        by_cases hs : a.spot.isSome = true
        · rw [if_pos hs] at h; cases h
        · rw [if_neg hs] at h ⊢
          rw [Array.getElem?_setIfInBounds_ne (by rintro rfl; rw [hp] at h; injection h with h; exact hne h.symm)]
          exact h
      | _ => cases h
  · exact (World.cell?_of_block (blk_set _ _ _ _ hb)).trans h

/-- zone.All of what is right. -/
theorem all_good {A B : Option Addr} {n c m cb d : Nat} {L : List Ent} {H : List (List UInt8)} {g : Geo} {w : World} (ha : Sl entR 3 w (Old w) A n c L) (hh : Rs w B m cb H) (hn : n ≤ 65536) (hm : m ≤ 65536) (hg : GeoOk g) (hd : g.data = (d : Int)) (hT : TabOk g.data L) (hH : HadOk g.data H) :
    Calls Try.prog 27 #[g.v, .agg #[.slice A n c], .slice B m cb] w fun e w' => ∃ V cv V' cv', e = .returned (.tuple #[.slice V (d + 1) cv, .slice V' (d + 1) cv', .int .i64 0]) ∧ Rs w' V (d + 1) cv ((List.range (d + 1)).map (knownL L H)) ∧ Sl boolR 1 w' (Old w') V' (d + 1) cv' ((List.range (d + 1)).map fun j => decide (knownL L H j ≠ [])) ∧ Below w.heap.size w w' := by
  refine (zall_any A B n c m cb L H g w ha hh hn hm).mono ?_
  rintro e w' ⟨hb, V, nv, cv, V', nv', cv', l, ks, err, rfl, hs, hs', hq⟩
  unfold AllZ at hq
  rcases hq with ⟨h, _⟩ | ⟨_, h, _⟩ | ⟨_, _, rfl, rfl, rfl⟩
  · exact absurd ⟨hg, hT⟩ h
  · exact absurd hH h
  · have h1 := hs.len
    have h2 := hs'.len
    rw [hd] at hs hs' h1 h2
    simp at h1 h2
    subst h1
    subst h2
    exact ⟨V, cv, V', cv', rfl, hs, hs', hb⟩

/-- A row that is taken away. -/
theorem spot_row {w : World} {base lo : Nat} {e : TypeId} {C : Option Addr} {n c : Nat} {L : List (List UInt8)} (h : Ow (slR byteR 1) 1 w base lo e (.slice C n c) n L) {k : Nat} (hk : k < n) :
    ∃ g A' n' c', C = some ⟨g, 0, none⟩ ∧ base ≤ g ∧ g < w.heap.size ∧ w.cell? ⟨g, k, none⟩ = some (.slice A' n' c') ∧ w.frozen? ⟨g, k, none⟩ = false ∧ Ow (slR byteR 1) 1 (w.setCell ⟨g, k, none⟩ (.slice none 0 0)) base lo e (.slice C n c) n (L.set k []) := by
  obtain ⟨g, x, u, rfl, hg, hgl, hx, hu, hcell, hfr, hst⟩ := h.spot bytesR_fine hk
  obtain ⟨A', n', c', hu', _⟩ := hu
  simp at hu'
  subst hu'
  exact ⟨g, A', n', c', rfl, hg, hgl, hcell, hfr, hst _ [] rfl ⟨none, 0, 0, rfl, Sl.nil_ _⟩⟩

def g13 : Geo := ⟨1, 2, 0, 14, 1⟩
def b13 : List (List UInt8) := [[1, 2, 3, 4, 5, 6, 7, 8]]
theorem g13_ok : GeoOk g13 := by decide
theorem bs13_len : (fullB 2 b13 []).length = 2 := fullB_len _ _ _
theorem t13_ok : TabOk g13.data (fullT 3 (fullB 2 b13 [])) := tab_full ⟨by omega, by omega⟩ bs13_len
theorem h13a : HadOk g13.data ((fullH (fullB 2 b13 [])).set 0 []) := by
  refine had_full (fullB_8 _ _ _) bs13_len (by rw [List.length_set, fullH_len, bs13_len]) fun j h hj => ?_
  rw [List.getElem?_set] at hj
  split at hj
  · split at hj
    · injection hj with hj; exact .inl hj.symm
    · cases hj
  · exact .inr hj
theorem h13b : HadOk g13.data (((fullH (fullB 2 b13 [])).set 0 []).set 1 []) := by
  refine had_full (fullB_8 _ _ _) bs13_len (by rw [List.length_set, List.length_set, fullH_len, bs13_len]) fun j h hj => ?_
  rw [List.getElem?_set] at hj
  split at hj
  · split at hj
    · injection hj with hj; exact .inl hj.symm
    · cases hj
  · rw [List.getElem?_set] at hj
    split at hj
    · split at hj
      · injection hj with hj; exact .inl hj.symm
      · cases hj
    · exact .inr hj
theorem k13a : knownL (fullT 3 (fullB 2 b13 [])) ((fullH (fullB 2 b13 [])).set 0 []) 0 = [1, 2, 3, 4, 5, 6, 7, 8] := by
  have h := known_one (s := 3) (bs := fullB 2 b13 []) (d := 2) (i := 0) (fullB_8 _ _ _) bs13_len 0 (by omega)
  have h2 := fullH_at (fullB_at (d := 2) (i := 0) b13 [] (by omega))
  exact Option.some.inj (h.trans h2)
theorem k13b : knownL (fullT 3 (fullB 2 b13 [])) (((fullH (fullB 2 b13 [])).set 0 []).set 1 []) 0 = [] := by
  have e0 := fullT_at (s := 3) (fullB_at (d := 2) (i := 0) b13 [] (by omega))
  have e1 := fullT_at (s := 3) (fullB_at (d := 2) (i := 1) b13 [] (by omega))
  have a0 := fullH_at (fullB_at (d := 2) (i := 0) b13 [] (by omega))
  have hl : (((fullH (fullB 2 b13 [])).set 0 []).set 1 []).length = (fullB 2 b13 []).length + 1 := by rw [List.length_set, List.length_set, fullH_len]
  refine (known_full (H := ((fullH (fullB 2 b13 [])).set 0 []).set 1 []) (fullB_8 _ _ _) hl (fun j h hj => ?_) e0 a0).2 rfl |>.2.2.2 ?_ ⟨1, _, by omega, e1, rfl, ?_⟩
  · rw [List.getElem?_set] at hj
    split at hj
    · split at hj
      · injection hj with hj; exact .inl hj.symm
      · cases hj
    · rw [List.getElem?_set] at hj
      split at hj
      · split at hj
        · injection hj with hj; exact .inl hj.symm
        · cases hj
      · exact .inr hj
  · rw [List.getElem?_set_ne (by omega), List.getElem?_set_self (by rw [fullH_len]; omega)]
  · rw [List.getElem?_set_self (by rw [List.length_set, fullH_len, bs13_len]; omega)]

end Go.Proofs.Ytikjhcfalofgaaa
