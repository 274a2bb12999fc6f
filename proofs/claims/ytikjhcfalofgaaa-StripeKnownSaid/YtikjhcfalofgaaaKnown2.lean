/-
  Contracts: the zone's look: known, of one that is not had.
-/
import Derived.Test.YtikjhcfalofgaaaKnown
namespace Go.Proofs.Ytikjhcfalofgaaa
open Go.RowKit
set_option linter.unusedVariables false
set_option maxRecDepth 100000

section
variable {A B : Option Addr} {n c m cb N d : Nat} {L : List Ent} {H : List (List UInt8)} {w : World}

theorem oth8 {L : List Ent} {H : List (List UInt8)} {i n : Nat} (h8 : ∀ h ∈ H, h.length = 0 ∨ h.length = 8) (hno : [] ∉ othN L H i n) : ∀ l ∈ othN L H i n, l.length = 8 := by
  intro l hl
  rcases h8 l (oth_mem hl) with h | h
  · exact absurd (List.eq_nil_of_length_eq_zero h ▸ hl) hno
  · exact h

set_option maxHeartbeats 2000000 in
theorem known_last (hk : Look w N d (.slice A n c) (.slice B m cb)) (ha : Sl entR 3 w (Old w) A n c L) (hh : Rs w B m cb H) (hn : n = d + 1) (hm : m = d + 1) (hd : d ≤ 100) (h8 : ∀ h ∈ H, h.length = 0 ∨ h.length = 8)
    (i : Nat) (hi : i < n) (him : i < m) (hid : i = d) {e0 : Ent} (he : L[i]? = some e0) (hl : e0.lost = false) (hhi : H[i]? = some [])
    {K : List UInt8} (HK : K = if [] ∈ othN L H i d then [] else if (crc (zxs (List.replicate 8 0) (othN L H i d)) : Int) = e0.sum then zxs (List.replicate 8 0) (othN L H i d) else []) :
    Calls Try.prog 47 #[.pointer (some ⟨N, 0, none⟩), .int .i64 i] w (KnownPost w K) := by
  subst hn
  subst hm
  subst hid
  have hk0 := hk
  obtain ⟨hN, kd, kt, kh⟩ := hk0
  obtain ⟨ad, x, rfl, hadl, hx, _, _, c0, c1, c2⟩ := at_ent ha hi
  have hxe : x = e0 := by rw [he] at hx; injection hx with hx; exact hx.symm
  subst hxe
  rw [hl] at c2
  obtain ⟨bd, l0, A0, n0, c0', rfl, hbdl, hl1, hs0, hcell⟩ := at_row hh him
  rw [hhi] at hl1
  injection hl1 with hl1
  subst hl1
  have hn0 : n0 = 0 := hs0.len.symm
  subst hn0
  have e3 : decide ((i : Int) < (i : Int)) = false := by simp
  have hoth := others_any hk ha hh rfl rfl hd i
  have hol := oth_len (L := L) (H := H) (i := i) (n := i)
  have hln : [] ∉ othN L H i i → ∀ l ∈ othN L H i i, l.length = 8 := fun h => oth8 h8 h
  obtain ⟨O, hO⟩ : ∃ O, O = othN L H i i := ⟨_, rfl⟩
  rw [← hO] at hoth HK hol hln
  have HOTH := hide hoth
  have HLN := hide hln
  have HE := hide he
  clear hoth hO hhi hx hln h8
  unfold KnownPost
  go_enter Try.func47, Try.ntmps47
  go_wp2_with fail
  refine HOTH.out.mono ?_
  rintro e w1 ⟨hb1, ⟨hno, V1, cv1, rfl, ho1⟩ | ⟨hin, rfl⟩⟩
  · have kd1 := (hb1.cell hN).trans kd
    have kh1 := (hb1.cell hN).trans kh
    rw [if_neg hno] at HK
    have hl8 := HLN.out hno
    have hr1 := ho1.read bytesR_fine
    clear ho1 hno
    go_wp2_with fail
    go_quiet (fail)
    have hbz : Below w.heap.size w (w1.drewN nq) := hb1.trans ((drewN_below w1 nq).mono hb1.size)
    have hrz := hr1.on bytesR_fine (drewN_below w1 nq)
    go_wp2_with fail
    refine (all_ok 8 _ _ _ O _ hrz (by omega) (by omega) hl8).mono ?_
    rintro e w5 ⟨V5, c5, rfl, ho5, hb5⟩
    have hbz5 := hbz.trans (hb5.mono hbz.size)
    go_wp2_with fail
    refine (told_any (hk.on hbz5) (ha.on entR_fine hbz5) (ho5.read byteR_fine) (by omega) i hi HE.out).mono ?_
    rintro e w6 ⟨hz, q, rfl⟩
    have hb6 := hbz5.trans ((drewN_below w5 q).mono hbz5.size)
    by_cases hs : (crc (zxs (List.replicate 8 0) O) : Int) = x.sum
    · rw [if_pos hs] at hz
      subst hz
      rw [if_pos hs] at HK
      go_wp2_with fail
      go_ret2
      rw [HK]
      have h8 : (zxs (List.replicate 8 0) O).length = 8 := ho5.len
      refine ⟨hb6, V5, 8, c5, by rw [known_dec h8]; rfl, ((ho5.new_ byteR_fine hbz.size hbz.size).new_on byteR_fine (drewN_below _ q))⟩
    · rw [if_neg hs] at hz
      subst hz
      rw [if_neg hs] at HK
      go_wp2_with fail
      go_ret2
      rw [HK]
      exact ⟨hb6, none, 0, 0, rfl, Sl.nil_ _⟩
  · have kd1 := (hb1.cell hN).trans kd
    have kh1 := (hb1.cell hN).trans kh
    rw [if_pos hin] at HK
    subst HK
    clear hin
    go_wp2_with fail
    go_quiet (fail)
    go_wp2_with fail
    go_ret2
    exact ⟨hb1.trans ((drewN_below w1 nq).mono hb1.size), none, 0, 0, rfl, Sl.nil_ _⟩

set_option maxHeartbeats 4000000 in
theorem known_mid (hk : Look w N d (.slice A n c) (.slice B m cb)) (ha : Sl entR 3 w (Old w) A n c L) (hh : Rs w B m cb H) (hn : n = d + 1) (hm : m = d + 1) (hd : d ≤ 100) (h8 : ∀ h ∈ H, h.length = 0 ∨ h.length = 8)
    (i : Nat) (hid : i < d) {e0 : Ent} (he : L[i]? = some e0) (hl : e0.lost = false) (hhi : H[i]? = some []) {P : List UInt8} (hP : H[d]? = some P)
    {K : List UInt8} (HK : K = if [] ∈ othN L H i d ++ [P] then [] else if (crc (zxs (List.replicate 8 0) (othN L H i d ++ [P])) : Int) = e0.sum then zxs (List.replicate 8 0) (othN L H i d ++ [P]) else []) :
    Calls Try.prog 47 #[.pointer (some ⟨N, 0, none⟩), .int .i64 i] w (KnownPost w K) := by
  obtain ⟨i0, hi0, hz0, hz1, hz2⟩ := info_parts row_info
  subst hn
  subst hm
  have hi : i < d + 1 := by omega
  have hk0 := hk
  obtain ⟨hN, kd, kt, kh⟩ := hk0
  obtain ⟨ad, x, rfl, hadl, hx, _, _, c0, c1, c2⟩ := at_ent ha hi
  have hxe : x = e0 := by rw [he] at hx; injection hx with hx; exact hx.symm
  subst hxe
  rw [hl] at c2
  obtain ⟨bd, l0, A0, n0, c0', rfl, hbdl, hl1, hs0, hcell⟩ := at_row hh hi
  rw [hhi] at hl1
  injection hl1 with hl1
  subst hl1
  have hn0 : n0 = 0 := hs0.len.symm
  subst hn0
  obtain ⟨_, P', A1, n1, c1', hh', _, hP1, hsP, hcellP⟩ := at_row hh (show d < d + 1 by omega)
  cases hh'
  rw [hP] at hP1
  injection hP1 with hP1
  subst hP1
  have hPl := hsP.len
  have e3 : decide ((i : Int) < (d : Int)) = true := by simp; omega
  have hoth := others_any hk ha hh rfl rfl hd i
  have hol := oth_len (L := L) (H := H) (i := i) (n := d)
  have hP8 := h8 P (List.mem_of_getElem? hP)
  have hln : [] ∉ othN L H i d → ∀ l ∈ othN L H i d, l.length = 8 := fun h => oth8 h8 h
  obtain ⟨O, hO⟩ : ∃ O, O = othN L H i d := ⟨_, rfl⟩
  rw [← hO] at hoth HK hol hln
  have HOTH := hide hoth
  have HLN := hide hln
  have HE := hide he
  have HP8 := hide hP8
  have hk0 : (0 : Int) ≤ (d : Int) := Int.natCast_nonneg _
  have hk1 : (d : Int) < (d : Int) + 1 := by omega
  clear hoth hO hhi hx hln h8 hP hP8
  unfold KnownPost
  go_enter Try.func47, Try.ntmps47
  go_wp2_with fail
  refine HOTH.out.mono ?_
  rintro e w1 ⟨hb1, ⟨hno, V1, cv1, rfl, ho1⟩ | ⟨hin, rfl⟩⟩
  · have kd1 := (hb1.cell hN).trans kd
    have kh1 := (hb1.cell hN).trans kh
    have HNO := hide hno
    clear hno
    have hs' : Sl byteR 1 w1 (But w1 0 (.slice V1 O.length cv1)) A1 n1 c1' P := hsP.move byteR_fine (fun q hq => hb1.block q hq) (fun q hq => ⟨Nat.zero_le _, Nat.lt_of_lt_of_le hq hb1.size, fun e => by have h1 := (ho1.lt q e.symm).1; have h2 : q < w.heap.size := hq; omega⟩)
    have hs1 : Sl (slR byteR 1) 1 (w1.alloc (.cells #[.slice A1 n1 c1'] 29)).drew (But (w1.alloc (.cells #[.slice A1 n1 c1'] 29)).drew 0 (.slice V1 O.length cv1)) (some ⟨w1.heap.size, 0, none⟩) 1 1 [P] :=
      (Sl.one_ (R := slR byteR 1) (s := 1) (w := w1) (V := .slice V1 O.length cv1) (lo := 0) (e := 29) (cs := #[.slice A1 n1 c1']) bytesR_fine ⟨_, _, _, rfl, hs'⟩ (fun q hq => (ho1.lt q hq).2) (Nat.zero_le _)).drew bytesR_fine
    have ho3 := (ho1.alloc bytesR_fine (.cells #[.slice A1 n1 c1'] 29)).drew bytesR_fine
    have hb3 : Below w.heap.size w (w1.alloc (.cells #[.slice A1 n1 c1'] 29)).drew := (hb1.alloc hb1.size _).drew
    have kr1 := below_cell hb1 hbdl hcellP
    clear hs'
    go_wp2_with fail
    go_region_held3 (fun w' => w'.cell? ⟨N, 0, none⟩ = some (.int .i64 d) ∧ w'.cell? ⟨N, 2, none⟩ = some (.slice (some bd) (d + 1) cb) ∧ w'.cell? (bd.add d) = some (.slice A1 n1 c1')) (first | go_keep | exact ⟨(hb4.cell hN).trans kd, (hb4.cell hN).trans kh, below_cell hb4 hbdl hcellP⟩) ((refine step_append_ow _ (by rfl) _ _ _ (by rfl) bytesR_fine w.heap.size 0 29 i0 _ 24 Try.underlying27 hi0 hz0 hz1 hz2 rfl (by omega) (.slice V1 O.length cv1) O.length O (by rfl) ho3 _ _ 1 1 [P] (by rfl) hs1 (fun _ _ _ h => h) (by simp only [maxLen]; omega) (by omega) hb3.size ?_; intro V4 w4 ho4 hg4 hat4; have hb4 := hb3.trans (below_grown hg4 ho3.lt hb3.size)))
    obtain ⟨A4, c4, rfl⟩ := ho4.form
    have kd4 := (hb4.cell hN).trans kd
    have kh4 := (hb4.cell hN).trans kh
    have kr4 := below_cell hb4 hbdl hcellP
    by_cases hn1 : n1 = 0
    · subst hn1
      have hP0 : P = [] := List.eq_nil_of_length_eq_zero hPl
      subst hP0
      rw [if_pos (by simp)] at HK
      subst HK
      go_wp2_with fail
      go_quiet (fail)
      go_wp2_with fail
      go_ret2
      exact ⟨hb4.trans ((drewN_below w4 nq).mono hb4.size), none, 0, 0, rfl, Sl.nil_ _⟩
    · have e5 : ((n1 : Int) == 0) = false := by simp; omega
      have hPne : [] ∉ O ++ [P] := fun h => by
        rcases List.mem_append.1 h with h | h
        · exact HNO.out h
        · have h' : P = [] := (List.mem_singleton.1 h).symm
          rw [h'] at hPl
          exact hn1 hPl.symm
      rw [if_neg hPne] at HK
      have hl8 : ∀ l ∈ O ++ [P], l.length = 8 := by
        intro l hl
        rcases List.mem_append.1 hl with hl | hl
        · exact HLN.out HNO.out l hl
        · simp at hl
          subst hl
          rcases HP8.out with h | h
          · omega
          · exact h
      have hr4 := ho4.read bytesR_fine
      clear hPne ho4 ho3 hs1
      go_wp2_with fail
      go_quiet (fail)
      have hbz : Below w.heap.size w (w4.drewN nq) := hb4.trans ((drewN_below w4 nq).mono hb4.size)
      have hrz := hr4.on bytesR_fine (drewN_below w4 nq)
      go_wp2_with fail
      refine (all_ok 8 _ _ _ (O ++ [P]) _ hrz (by omega) (by omega) hl8).mono ?_
      rintro e w5 ⟨V5, c5, rfl, ho5, hb5⟩
      have hbz5 := hbz.trans (hb5.mono hbz.size)
      go_wp2_with fail
      refine (told_any (hk.on hbz5) (ha.on entR_fine hbz5) (ho5.read byteR_fine) (by omega) i hi HE.out).mono ?_
      rintro e w6 ⟨hz, q, rfl⟩
      have hb6 := hbz5.trans ((drewN_below w5 q).mono hbz5.size)
      by_cases hs : (crc (zxs (List.replicate 8 0) (O ++ [P])) : Int) = x.sum
      · rw [if_pos hs] at hz
        subst hz
        rw [if_pos hs] at HK
        go_wp2_with fail
        go_ret2
        rw [HK]
        have h8 : (zxs (List.replicate 8 0) (O ++ [P])).length = 8 := ho5.len
        refine ⟨hb6, V5, 8, c5, by rw [known_dec h8]; rfl, ((ho5.new_ byteR_fine hbz.size hbz.size).new_on byteR_fine (drewN_below _ q))⟩
      · rw [if_neg hs] at hz
        subst hz
        rw [if_neg hs] at HK
        go_wp2_with fail
        go_ret2
        rw [HK]
        exact ⟨hb6, none, 0, 0, rfl, Sl.nil_ _⟩
  · have kd1 := (hb1.cell hN).trans kd
    have kh1 := (hb1.cell hN).trans kh
    rw [if_pos (List.mem_append_left _ hin)] at HK
    subst HK
    clear hin
    have ho1 : Ow (slR byteR 1) 1 w1 w.heap.size 0 29 (.slice none 0 0) 0 [] := Ow.nil_ _ _ _ _
    have hs' : Sl byteR 1 w1 (But w1 0 (.slice none 0 0)) A1 n1 c1' P := hsP.move byteR_fine (fun q hq => hb1.block q hq) (fun q hq => ⟨Nat.zero_le _, Nat.lt_of_lt_of_le hq hb1.size, fun e => by have h1 := (ho1.lt q e.symm).1; have h2 : q < w.heap.size := hq; omega⟩)
    have hs1 : Sl (slR byteR 1) 1 (w1.alloc (.cells #[.slice A1 n1 c1'] 29)).drew (But (w1.alloc (.cells #[.slice A1 n1 c1'] 29)).drew 0 (.slice none 0 0)) (some ⟨w1.heap.size, 0, none⟩) 1 1 [P] :=
      (Sl.one_ (R := slR byteR 1) (s := 1) (w := w1) (V := .slice none 0 0) (lo := 0) (e := 29) (cs := #[.slice A1 n1 c1']) bytesR_fine ⟨_, _, _, rfl, hs'⟩ (fun q hq => (ho1.lt q hq).2) (Nat.zero_le _)).drew bytesR_fine
    have ho3 := (ho1.alloc bytesR_fine (.cells #[.slice A1 n1 c1'] 29)).drew bytesR_fine
    have hb3 : Below w.heap.size w (w1.alloc (.cells #[.slice A1 n1 c1'] 29)).drew := (hb1.alloc hb1.size _).drew
    have kr1 := below_cell hb1 hbdl hcellP
    clear hs'
    go_wp2_with fail
    go_region_held3 (fun w' => w'.cell? ⟨N, 0, none⟩ = some (.int .i64 d) ∧ w'.cell? ⟨N, 2, none⟩ = some (.slice (some bd) (d + 1) cb) ∧ w'.cell? (bd.add d) = some (.slice A1 n1 c1')) (first | go_keep | exact ⟨(hb4.cell hN).trans kd, (hb4.cell hN).trans kh, below_cell hb4 hbdl hcellP⟩) ((refine step_append_ow _ (by rfl) _ _ _ (by rfl) bytesR_fine w.heap.size 0 29 i0 _ 24 Try.underlying27 hi0 hz0 hz1 hz2 rfl (by omega) (.slice none 0 0) 0 [] (by rfl) ho3 _ _ 1 1 [P] (by rfl) hs1 (fun _ _ _ h => h) (by simp only [maxLen]; omega) (by omega) hb3.size ?_; intro V4 w4 ho4 hg4 hat4; have hb4 := hb3.trans (below_grown hg4 ho3.lt hb3.size)))
    obtain ⟨A4, c4, rfl⟩ := ho4.form
    have kd4 := (hb4.cell hN).trans kd
    have kh4 := (hb4.cell hN).trans kh
    have kr4 := below_cell hb4 hbdl hcellP
    go_wp2_with fail
    go_quiet (fail)
    go_wp2_with fail
    go_ret2
    exact ⟨hb4.trans ((drewN_below w4 nq).mono hb4.size), none, 0, 0, rfl, Sl.nil_ _⟩
end

end Go.Proofs.Ytikjhcfalofgaaa
