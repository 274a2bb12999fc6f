/-
  Contract: casemateref08.Known.
-/
import Derived.Test.YtikjhcfalofgaaaZRef2
namespace Go.Proofs.Ytikjhcfalofgaaa
open Go.RowKit
set_option linter.unusedVariables false
set_option maxRecDepth 100000

/-- What the page's Known tells. -/
def RKnown (w : World) (K : List UInt8) (e : Ending) (w' : World) : Prop :=
  Below w.heap.size w w' ∧ ∃ V n cv, e = .returned (.slice V n cv) ∧ Bs w' V n cv K

set_option maxHeartbeats 2000000 in
theorem rknown_any {A B : Option Addr} {n c m cb : Nat} {L : List Ent} {H : List (List UInt8)} {g : Geo} (hg : GeoOk g) {w : World} (ha : Sl entR 3 w (Old w) A n c L) (hh : Rs w B m cb H) (hT : TabOk g.data L) (hH : HadOk g.data H) (i : Nat) (hi : (i : Int) ≤ g.data) :
    Calls Try.prog 43 #[g.v, .agg #[.slice A n c], .slice B m cb, .int .i64 i] w (RKnown w (knownL L H i)) := by
  obtain ⟨z, d, s, l, a⟩ := g
  have hd := hg.2.1
  dsimp only at hd hT hH hi
  obtain ⟨q, hq⟩ : ∃ q : Nat, d = (q : Int) := ⟨d.toNat, by omega⟩
  subst hq
  have hnq : n = q + 1 := by have h1 := hT.1; have h2 := ha.len; omega
  have hmq : m = q + 1 := by have h1 := hH.1; have h2 := hh.len; omega
  have hiq : i < q + 1 := by omega
  have hin : i < n := by omega
  have him : i < m := by omega
  have hqn : q < n := by omega
  have hqm : q < m := by omega
  have hn1 : n ≤ q + 1 := by omega
  have hHl : H.length = q + 1 := by have := hH.1; omega
  have hb0 : Below w.heap.size w ((w.alloc (.cells #[.int .i64 z, .int .i64 q, .int .i64 s, .int .i64 l, .int .i64 a] 23)).alloc (.cells #[.slice A n c] 26)) := (alloc_below w _).alloc (by simp) _
  have ha0 := ha.on entR_fine hb0
  have hh0 := hh.on bytesR_fine hb0
  have bx : ∀ W, Below ((w.alloc (.cells #[.int .i64 z, .int .i64 q, .int .i64 s, .int .i64 l, .int .i64 a] 23)).alloc (.cells #[.slice A n c] 26)).heap.size ((w.alloc (.cells #[.int .i64 z, .int .i64 q, .int .i64 s, .int .i64 l, .int .i64 a] 23)).alloc (.cells #[.slice A n c] 26)) W → W.cell? ⟨w.heap.size, 1, none⟩ = some (.int .i64 q) ∧ W.cell? ⟨w.heap.size + 1, 0, none⟩ = some (.slice A n c) := fun W hW =>
    ⟨box_cell (th (alloc_below _ _) hW) 1 _ rfl, by have h := box_cell hW 0 _ rfl; simpa using h⟩
  have BX := hide bx
  clear bx
  unfold Geo.v RKnown
  dsimp only
  obtain ⟨ad, x, rfl, hadl, hx, _, _, _, c1, c2⟩ := at_ent ha0 hin
  obtain ⟨bd, hb, B1, n1, cb1, rfl, hbdl, hy, hs, hcell⟩ := at_row hh0 him
  have hKE := known_eq hx hy
  obtain ⟨K, hK⟩ : ∃ K, K = knownL L H i := ⟨_, rfl⟩
  rw [← hK] at hKE ⊢
  clear hK
  clear hnq hmq
  cases hxl : x.lost with
  | true =>
    rw [hxl] at c2
    rw [hxl, if_pos rfl] at hKE
    subst hKE
    clear hx hy hxl hT hH hHl
    go_enter Try.func43, Try.ntmps43
    go_wp2_with fail
    go_ret
    exact ⟨hb0, none, 0, 0, rfl, Sl.nil_ _⟩
  | false =>
    rw [hxl] at c2
    rw [hxl, if_neg (by simp)] at hKE
    have hbl := hs.len
    by_cases hne : hb ≠ []
    · rw [if_pos hne] at hKE
      subst hKE
      have hp : 0 < n1 := by rw [← hbl]; exact List.length_pos_iff.2 hne
      have h8 : n1 ≤ 8 := by rcases hH.2 K (List.mem_of_getElem? hy) with h | h <;> omega
      clear hx hy hxl hT hH hHl hne hbl
      go_enter Try.func43, Try.ntmps43
      go_wp2_with fail
      refine (twin_any _ _ _ K _ hs (by omega)).mono ?_
      rintro e w1 ⟨A2, c2', rfl, ho2, hb2⟩
      go_wp2_with fail
      go_ret
      exact ⟨th hb0 hb2, A2, n1, c2', rfl, ho2.read byteR_fine⟩
    · rw [if_neg hne, hHl] at hKE
      have h0 : hb = [] := by simpa using hne
      subst h0
      obtain rfl : n1 = 0 := by simpa using hbl.symm
      obtain ⟨j0, hj0, hz0, hz1, hz2⟩ := info_parts u8_info
      have hmk : ∀ W, (Instr.makeSlice 29 (.int .i64 8) (.int .i64 8)).run Try.prog W = .ok (.slice (some ⟨W.heap.size, 0, none⟩) 8 8) (W.alloc (.cells (madeCells #[.int .u8 0] 8) 5)) := fun W => run_make_all (P := Try.prog) 29 5 j0 _ 1 1 Try.underlying29 hj0 hz0 hz1 hz2 .i64 .i64 8 (by omega) (by omega) W
      have h8 : ∀ h ∈ H, h.length = 0 ∨ h.length = 8 := hH.2
      have HKE := hide hKE
      have HX := hide hx
      have H8 := hide h8
      have HHL := hide hHl
      have hb1 : Below w.heap.size w (((w.alloc (.cells #[.int .i64 z, .int .i64 q, .int .i64 s, .int .i64 l, .int .i64 a] 23)).alloc (.cells #[.slice (some ad) n c] 26)).alloc (.cells (madeCells #[.int .u8 0] 8) 5)) := hb0.alloc hb0.size _
      have hN : ((w.alloc (.cells #[.int .i64 z, .int .i64 q, .int .i64 s, .int .i64 l, .int .i64 a] 23)).alloc (.cells #[.slice (some ad) n c] 26)).heap.size = w.heap.size + 1 + 1 := by simp
      have hmz := (made_zero ((w.alloc (.cells #[.int .i64 z, .int .i64 q, .int .i64 s, .int .i64 l, .int .i64 a] 23)).alloc (.cells #[.slice (some ad) n c] 26)) 5 8 (by omega)).read byteR_fine
      rw [hN] at hmz
      clear hKE hx hy hxl hT hH hHl hne hbl h8 hN
      go_enter Try.func43, Try.ntmps43
      go_wp2_with fail
      go_loopw [9, 10] (fun v j wr => ∃ k : Nat, ∃ V cv, k ≤ q + 1 ∧ j = .int .i64 k ∧ v = .slice V 8 cv ∧ Bs wr V 8 cv (zxs (List.replicate 8 0) (othN L H i k)) ∧ Hid ([] ∉ othN L H i k) ∧ Below ((w.alloc (.cells #[.int .i64 z, .int .i64 q, .int .i64 s, .int .i64 l, .int .i64 a] 23)).alloc (.cells #[.slice (some ad) n c] 26)).heap.size ((w.alloc (.cells #[.int .i64 z, .int .i64 q, .int .i64 s, .int .i64 l, .int .i64 a] 23)).alloc (.cells #[.slice (some ad) n c] 26)) wr) (fun _ j _ => q + 1 - (intOf j).toNat)
      case atStart => exact ⟨0, _, _, Nat.zero_le _, rfl, rfl, hmz, hide (by simp [othN]), alloc_below _ _⟩
      case round =>
        obtain ⟨k, V, cv, hkq, rfl, rfl, ho, hno, hbw⟩ := hrel
        obtain ⟨kd, kt⟩ := BX.out wr hbw
        have har := ha0.on entR_fine hbw
        have hhr := hh0.on bytesR_fine hbw
        by_cases hlt : k < q + 1
        · have hle : (k : Int) ≤ (q : Int) := by omega
          by_cases hki : k = i
          · have e1 : ((k : Int) == (i : Int)) = true := by simp; omega
            have hnx := othN_skip (L := L) (H := H) (i := i) (n := k) (.inl hki)
            have HNX := hide hnx
            clear hnx hki
            go_wp2_with fail
            go_roundw
            case rel => exact ⟨k + 1, V, cv, by omega, by go_num, rfl, by rw [HNX.out]; exact ho, by rw [HNX.out]; exact hno, hbw⟩
            case measure => simp [intOf]; omega
          · have e1 : ((k : Int) == (i : Int)) = false := by simp; omega
            obtain ⟨ad', y, had, hadl', hy, _, _, _, d1, d2⟩ := at_ent har (show k < n by omega)
            injection had with had
            subst had
            have hkn : k < n := by omega
            have hkm : k < m := by omega
            cases hyl : y.lost with
            | true =>
              rw [hyl] at d2
              have hnx := othN_skip (L := L) (H := H) (i := i) (n := k) (.inr (by rw [hy]; simpa using hyl))
              have HNX := hide hnx
              clear hnx hy hyl
              go_wp2_with fail
              go_roundw
              case rel => exact ⟨k + 1, V, cv, by omega, by go_num, rfl, by rw [HNX.out]; exact ho, by rw [HNX.out]; exact hno, hbw⟩
              case measure => simp [intOf]; omega
            | false =>
              rw [hyl] at d2
              obtain ⟨bd', b, A1, n1, cc1, hbd, hbdl', hby, hsb, hcellb⟩ := at_row hhr hkm
              injection hbd with hbd
              subst hbd
              have hb1 := hsb.len
              rcases H8.out b (List.mem_of_getElem? hby) with hb8 | hb8
              · have hl0 : b = [] := List.eq_nil_of_length_eq_zero hb8
                subst hl0
                obtain rfl : n1 = 0 := by simpa using hb1.symm
                have hin := oth_in hlt hki hy hyl hby
                have HK := HKE.out
                rw [if_pos hin] at HK
                subst HK
                clear hin hy hby hyl hb1 hb8
                go_wp2_with fail
                go_ret
                exact ⟨th hb0 hbw, none, 0, 0, rfl, Sl.nil_ _⟩
              · obtain rfl : n1 = 8 := by omega
                have hnx := othN_more hki hy hyl hby
                have hno' : [] ∉ othN L H i (k + 1) := by
                  rw [hnx]
                  intro h
                  rcases List.mem_append.1 h with h | h
                  · exact hno.out h
                  · have h : [] = b := by simpa using h
                    rw [← h] at hb8
                    cases hb8
                have hz : zxs (List.replicate 8 0) (othN L H i (k + 1)) = zx (zxs (List.replicate 8 0) (othN L H i k)) b := by rw [hnx, zxs_snoc]
                have HZ := hide hz
                have HNO := hide hno'
                clear hnx hz hno' hy hby hyl hb1 hb8
                go_wp2_with fail
                refine (rtwo_any _ _ _ _ _ _ _ b _ ho hsb (by omega) rfl).mono ?_
                rintro e w2 ⟨V2, c2', rfl, ho2, hb2⟩
                go_wp2_with fail
                go_roundw
                case rel => exact ⟨k + 1, V2, c2', by omega, by go_num, rfl, by rw [HZ.out]; exact ho2.read byteR_fine, HNO, hbw.trans (hb2.mono hbw.size)⟩
                case measure => simp [intOf]; omega
        · obtain rfl : k = q + 1 := by omega
          obtain ⟨ad', y, had, hadl', hy, _, _, _, d1, d2⟩ := at_ent har hin
          injection had with had
          subst had
          rw [HX.out] at hy
          injection hy with hy
          subst hy
          have hK := HKE.out
          rw [if_neg hno.out] at hK
          have hsum : ∀ r, Calls Try.prog 28 #[.slice V 8 cv] (wr.drewN r) fun e w' => e = .returned (.int .i64 (crc (zxs (List.replicate 8 0) (othN L H i (q + 1))))) ∧ w' = wr.drewN r := fun r =>
            (ref_sum (ho.move byteR_fine (w' := wr.drewN r) (S' := Old _) (fun _ _ => rfl) (fun _ h => h)) (by omega)).mono fun e w' ⟨h1, h2⟩ => ⟨h1, h2.symm⟩
          obtain ⟨Z, hZ⟩ : ∃ Z, Z = zxs (List.replicate 8 0) (othN L H i (q + 1)) := ⟨_, rfl⟩
          rw [← hZ] at hsum ho hK
          obtain ⟨C, hC⟩ : ∃ C, C = crc Z := ⟨_, rfl⟩
          rw [← hC] at hsum hK
          have HSUM := hide hsum
          have hi0 : (0 : Int) ≤ (i : Int) := Int.natCast_nonneg _
          have hi1 : (i : Int) < (n : Int) := by omega
          clear hsum hZ hC HKE
          by_cases hcs : (C : Int) = x.sum
          · have e1 : ((C : Int) != x.sum) = false := by simpa using hcs
            rw [if_pos hcs] at hK
            subst hK
            clear hcs
            go_wp2_with fail
            go_quiet ((go_at_call 28; exact Calls.quiet_of_same (HSUM.out _)))
            go_wp2_with fail
            go_ret
            exact ⟨th hb0 (hbw.trans ((drewN_below _ _).mono hbw.size)), V, 8, cv, rfl, ho.on byteR_fine (drewN_below _ _)⟩
          · have e1 : ((C : Int) != x.sum) = true := by simpa using hcs
            rw [if_neg hcs] at hK
            subst hK
            clear hcs
            go_wp2_with fail
            go_quiet ((go_at_call 28; exact Calls.quiet_of_same (HSUM.out _)))
            go_wp2_with fail
            go_ret
            exact ⟨th hb0 (hbw.trans ((drewN_below _ _).mono hbw.size)), none, 0, 0, rfl, Sl.nil_ _⟩

end Go.Proofs.Ytikjhcfalofgaaa
