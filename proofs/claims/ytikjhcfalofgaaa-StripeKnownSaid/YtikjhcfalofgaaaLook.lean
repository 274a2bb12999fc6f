/-
  Contracts: the zone's look: others, told.
-/
import Derived.Test.YtikjhcfalofgaaaZRef
import Derived.Test.YtikjhcfalofgaaaSum
namespace Go.Proofs.Ytikjhcfalofgaaa
open Go.RowKit
set_option linter.unusedVariables false
set_option maxRecDepth 100000

theorem oth_in {L : List Ent} {H : List (List UInt8)} {b k n : Nat} {e : Ent} (hk : k < n) (hb : k ≠ b) (he : L[k]? = some e) (hl : e.lost = false) (hx : H[k]? = some []) : [] ∈ othN L H b n := by
  simp only [othN, List.mem_filterMap, List.mem_range]
  exact ⟨k, hk, by rw [if_neg (by simp [hb, he, hl]), hx]⟩

/-- What 'others' tells. -/
def OthPost (w : World) (O : List (List UInt8)) (e : Ending) (w' : World) : Prop :=
  Below w.heap.size w w' ∧
  (([] ∉ O ∧ ∃ V cv, e = .returned (.tuple #[.slice V O.length cv, .bool true]) ∧ Ow (slR byteR 1) 1 w' w.heap.size 0 29 (.slice V O.length cv) O.length O) ∨
   ([] ∈ O ∧ e = .returned (.tuple #[.slice none 0 0, .bool false])))

set_option maxHeartbeats 2000000 in
theorem others_any {A B : Option Addr} {n c m cb N d : Nat} {L : List Ent} {H : List (List UInt8)} {w : World} (hk : Look w N d (.slice A n c) (.slice B m cb)) (ha : Sl entR 3 w (Old w) A n c L) (hh : Rs w B m cb H) (hn : n = d + 1) (hm : m = d + 1) (hd : d ≤ 100) (b : Nat) :
    Calls Try.prog 62 #[.pointer (some ⟨N, 0, none⟩), .int .i64 b] w (OthPost w (othN L H b d)) := by
  obtain ⟨i0, hi0, hz0, hz1, hz2⟩ := info_parts row_info
  obtain ⟨hN, kd, kt, kh⟩ := hk
  go_enter Try.func62, Try.ntmps62
  go_wp2_with fail
  go_loopw [6, 12] (fun v i wr => ∃ k : Nat, k ≤ d ∧ i = .int .i64 k ∧ Ow (slR byteR 1) 1 wr w.heap.size 0 29 v (othN L H b k).length (othN L H b k) ∧ Hid ([] ∉ othN L H b k) ∧ Below w.heap.size w wr) (fun _ i _ => d - (intOf i).toNat)
  case atStart => exact ⟨0, Nat.zero_le _, rfl, Ow.nil_ _ _ _ _, hide (by simp [othN]), Below.refl _ _⟩
  case round =>
    obtain ⟨k, hkd, rfl, ho, hno, hb⟩ := hrel
    have kd' := (hb.cell hN).trans kd
    by_cases hlt : k < d
    · have kt' := (hb.cell hN).trans kt
      have kh' := (hb.cell hN).trans kh
      obtain ⟨V0, c0, rfl⟩ := ho.form
      by_cases hkb : k = b
      · have e1 : ((k : Int) == (b : Int)) = true := by simp; omega
        have hnx := othN_skip (L := L) (H := H) (i := b) (n := k) (.inl hkb)
        have HNX := hide hnx
        clear hnx
        go_wp2_with fail
        go_roundw
        case rel => exact ⟨k + 1, by omega, by go_num, by rw [HNX.out]; exact ho, by rw [HNX.out]; exact hno, hb⟩
        case measure => simp [intOf]; omega
      · have e1 : ((k : Int) == (b : Int)) = false := by simp; omega
        obtain ⟨ad, x, rfl, hadl, hx, _, _, _, _, c2⟩ := at_ent ha (show k < n by omega)
        have c2' := (hb.cell (p := ⟨(ad.add (k * 3)).block, (ad.add (k * 3)).off + 2, none⟩) (by show (ad.add (k * 3)).block < _; rw [block_of_add]; exact hadl)).trans c2
        have hkn : k < n := by omega
        have hkm : k < m := by omega
        cases hxl : x.lost with
        | true =>
          rw [hxl] at c2'
          have hnx := othN_skip (L := L) (H := H) (i := b) (n := k) (.inr (by rw [hx]; simpa using hxl))
          have HNX := hide hnx
          clear hnx hx hxl c2
          go_wp2_with fail
          go_roundw
          case rel => exact ⟨k + 1, by omega, by go_num, by rw [HNX.out]; exact ho, by rw [HNX.out]; exact hno, hb⟩
          case measure => simp [intOf]; omega
        | false =>
          rw [hxl] at c2'
          obtain ⟨bd, l, A1, n1, c1, rfl, hbdl, hl, hs, hcell⟩ := at_row hh hkm
          have hcell' := below_cell hb hbdl hcell
          have hl1 := hs.len
          by_cases hn1 : n1 = 0
          · subst hn1
            have hl0 : l = [] := List.eq_nil_of_length_eq_zero hl1
            subst hl0
            have hin := oth_in hlt hkb hx hxl hl
            have HIN := hide hin
            clear hin hx hl hxl hcell c2
            go_wp2_with fail
            go_ret2
            exact ⟨hb, .inr ⟨HIN.out, rfl⟩⟩
          · have e2 : ((n1 : Int) == 0) = false := by simp; omega
            have hnx := othN_more hkb hx hxl hl
            have hlne : l ≠ [] := by rintro rfl; simp at hl1; omega
            have hno' : [] ∉ othN L H b (k + 1) := by
              rw [hnx]
              intro h
              rcases List.mem_append.1 h with h | h
              · exact hno.out h
              · simp at h
                exact hlne h
            have hol := oth_len (L := L) (H := H) (i := b) (n := k)
            have hs' : Sl byteR 1 wr (But wr 0 (.slice V0 (othN L H b k).length c0)) A1 n1 c1 l := hs.move byteR_fine (fun q hq => hb.block q hq) (fun q hq => ⟨Nat.zero_le _, Nat.lt_of_lt_of_le hq hb.size, fun e => by have h1 := (ho.lt q e.symm).1; have h2 : q < w.heap.size := hq; omega⟩)
            have hs1 : Sl (slR byteR 1) 1 (wr.alloc (.cells #[.slice A1 n1 c1] 29)) (But (wr.alloc (.cells #[.slice A1 n1 c1] 29)) 0 (.slice V0 (othN L H b k).length c0)) (some ⟨wr.heap.size, 0, none⟩) 1 1 [l] :=
              Sl.one_ bytesR_fine ⟨_, _, _, rfl, hs'⟩ (fun q hq => (ho.lt q hq).2) (Nat.zero_le _)
            have ho3 := ho.alloc bytesR_fine (.cells #[.slice A1 n1 c1] 29)
            have hb3 : Below w.heap.size w (wr.alloc (.cells #[.slice A1 n1 c1] 29)) := hb.alloc hb.size _
            obtain ⟨j, hj⟩ : ∃ j, j = (othN L H b k).length := ⟨_, rfl⟩
            rw [← hj] at ho3 hs1 hol ho hs' ⊢
            have HNX := hide hnx
            have HJ := hide hj
            have HNO := hide hno'
            clear hnx hx hl hxl hcell c2 hno' hlne hl1 hj
            go_wp2_with (at_builtin; go_loud (refine wpList_append_ow _ rfl (.tmp 38) (.tmp 46) _ rfl bytesR_fine w.heap.size 0 29 i0 _ 24 Try.underlying27 hi0 hz0 hz1 hz2 rfl (by omega) (.slice V0 j c0) j (othN L H b k) rfl ho3 _ _ 1 1 [l] rfl hs1 (fun _ _ _ h => h) (by simp only [maxLen]; omega) (by omega) hb3.size ?_); intro V1 w2 ho4 hg4 hat4)
            have hlen : (othN L H b (k + 1)).length = j + 1 := by rw [HNX.out, List.length_append, ← HJ.out]; rfl
            rw [← HNX.out, ← hlen] at ho4
            go_roundw
            case rel => exact ⟨k + 1, by omega, by go_num, ho4, HNO, hb3.trans (below_grown hg4 ho3.lt hb3.size)⟩
            case measure => simp [intOf]; omega
    · obtain rfl : k = d := by omega
      obtain ⟨V0, c0, rfl⟩ := ho.form
      go_wp2_with fail
      go_ret2
      exact ⟨hb, .inl ⟨hno.out, V0, c0, rfl, ho⟩⟩

set_option maxHeartbeats 1000000 in
theorem told_any {A C : Option Addr} {n c m cc N d : Nat} {V' : Value} {L : List Ent} {l : List UInt8} {w : World} (hk : Look w N d (.slice A n c) V') (ha : Sl entR 3 w (Old w) A n c L) (hl : Bs w C m cc l) (hm : m ≤ 60000) (i : Nat) (hi : i < n) {e : Ent} (he : L[i]? = some e) :
    Calls Try.prog 63 #[.pointer (some ⟨N, 0, none⟩), .slice C m cc, .int .i64 i] w fun z w' => (z = .returned (if (crc l : Int) = e.sum then .tuple #[.slice C m cc, .bool true] else .tuple #[.slice none 0 0, .bool false])) ∧ ∃ q, w' = w.drewN q := by
  obtain ⟨hN, kd, kt, kh⟩ := hk
  obtain ⟨ad, x, rfl, hadl, hx, _, _, c0, c1, c2⟩ := at_ent ha hi
  rw [he] at hx
  injection hx with hx
  subst hx
  have hs : ∀ r, Calls Try.prog 55 #[.slice C m cc] (w.drewN r) fun z w' => z = .returned (.int .i64 (crc l)) ∧ ∃ q, w' = (w.drewN r).drewN q := fun r =>
    (sum_of (hl.move byteR_fine (w' := w.drewN r) (S' := Old _) (fun _ _ => rfl) (fun _ h => h)) (by omega)).mono fun z w' ⟨hz, hw⟩ => ⟨hz, 0, by rw [← hw]; rfl⟩
  obtain ⟨K, hK⟩ : ∃ K, K = crc l := ⟨_, rfl⟩
  rw [← hK] at hs ⊢
  have HS := hide hs
  have hi0 : (0 : Int) ≤ (i : Int) := Int.natCast_nonneg _
  have hi1 : (i : Int) < (n : Int) := by omega
  clear hs hK he
  by_cases h : (K : Int) = e.sum
  · have e1 : ((K : Int) != e.sum) = false := by simpa using h
    rw [if_pos h]
    clear h
    go_enter Try.func63, Try.ntmps63
    go_wp2_with fail
    go_quiet ((go_at_call 55; exact Calls.quiet_of (HS.out _)))
    go_wp2_with fail
    go_ret2
    exact ⟨rfl, _, rfl⟩
  · have e1 : ((K : Int) != e.sum) = true := by simpa using h
    rw [if_neg h]
    clear h
    go_enter Try.func63, Try.ntmps63
    go_wp2_with fail
    go_quiet ((go_at_call 55; exact Calls.quiet_of (HS.out _)))
    go_wp2_with fail
    go_ret2
    exact ⟨rfl, _, rfl⟩

end Go.Proofs.Ytikjhcfalofgaaa
