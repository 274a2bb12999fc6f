/-
  Contracts: casematekeep.TwinTable, Table, Bools, Rows; casematelaw13.Heavy.
-/
import Derived.Test.YtikjhcfalofgaaaTabC
import Derived.Test.YtikjhcfalofgaaaRowsK
namespace Go.Proofs.Ytikjhcfalofgaaa
open Go.RowKit
set_option linter.unusedVariables false
set_option maxRecDepth 100000

theorem at_bool {w : World} {S : Nat → Prop} {A : Option Addr} {n c : Nat} {l : List Bool} (h : Sl boolR 1 w S A n c l) {k : Nat} (hk : k < n) : ∃ ad x, A = some ad ∧ S ad.block ∧ l[k]? = some x ∧ w.cell? (ad.add k) = some (.bool x) := by
  obtain ⟨ad, x, cs, rfl, hS, hx, hr, hat⟩ := h.at_ hk
  have hr : cs = [.bool x] := hr
  subst hr
  refine ⟨ad, x, rfl, hS, hx, ?_⟩
  have h0 := hat 0 _ rfl
  rwa [Nat.mul_one, add_zero'] at h0


theorem blk_set (w : World) (p : Addr) (v : Value) (b : Nat) (h : b ≠ p.block) : (w.setCell p v).heap[b]? = w.heap[b]? := Below.heap_setCell _ _ _ _ h
theorem grownBy_set (w : World) (p : Addr) (v : Value) : w.grownBy (w.setCell p v) (some p.block) := ⟨rfl, rfl, rfl, by simp [World.setCell], fun k hk hne => blk_set w p v k (fun e => hne (by rw [e]))⟩
theorem ent_info : (Try.prog.info? 61).map (fun i => (i.zero, i.size, i.bytes)) = some (some (.agg #[.int .i64 0, .int .i64 0, .bool false]), 3, 24) := by kernel_rfl

set_option maxHeartbeats 400000 in
theorem twintable_any (A : Option Addr) (n c : Nat) (L : List Ent) (w : World) (ha : Sl entR 3 w (Old w) A n c L) (hn : n ≤ 65536) :
    Calls Try.prog 9 #[.agg #[.slice A n c]] w fun e w' => ∃ A' c', e = .returned (.agg #[.slice A' n c']) ∧ Ow entR 3 w' w.heap.size w.heap.size 61 (.slice A' n c') n L ∧ Below w.heap.size w w' := by
  obtain ⟨i0, hi0, hz0, hz1, hz2⟩ := info_parts ent_info
  have hb0 : Below w.heap.size w ((w.alloc (.cells #[.slice A n c] 26)).alloc (.cells #[.slice none 0 0] 26)) := (alloc_below w _).alloc (by simp) _
  have ha0 := ha.on entR_fine hb0
  have hN : ((w.alloc (.cells #[.slice A n c] 26)).alloc (.cells #[.slice none 0 0] 26)).heap.size = w.heap.size + 1 + 1 := by simp
  go_enter Try.func9, Try.ntmps9
  have hbx : ∀ w1, Below (w.heap.size + 1 + 1) ((w.alloc (.cells #[.slice A n c] 26)).alloc (.cells #[.slice none 0 0] 26)) w1 → w1.frozen? ⟨w.heap.size + 1, 0, none⟩ = false ∧ w1.cell? ⟨w.heap.size + 1, 0, none⟩ = some (.slice none 0 0) := fun w1 hb1 => by
    have hb1' : Below ((w.alloc (.cells #[.slice A n c] 26)).alloc (.cells #[.slice none 0 0] 26)).heap.size ((w.alloc (.cells #[.slice A n c] 26)).alloc (.cells #[.slice none 0 0] 26)) w1 := by rw [hN]; exact hb1
    exact ⟨by have h := box_free hb1' 0; simpa using h, by have h := box_cell hb1' 0 _ rfl; simpa using h⟩
  go_wp2_with (at_builtin; refine wpList_append_ow _ rfl (.tmp 4) (.tmp 6) _ rfl entR_fine (w.heap.size + 1 + 1) (w.heap.size + 1 + 1) 61 i0 _ 24 Try.underlying24 hi0 hz0 hz1 hz2 rfl (by omega) (.slice none 0 0) 0 [] rfl (Ow.nil_ _ _ _ _) (Old _) A n c L rfl ha0 (fun _ _ _ h => h) (by simp only [maxLen]; omega) (by omega) (by rw [hN]; omega) ?_; intro v1 w1 hown1 hg1 hat1; obtain ⟨A', c', rfl⟩ := hown1.form; have hb1 := below_grown (base := w.heap.size + 1 + 1) hg1 (by simp [Value.ownBlock]) (by rw [hN]; omega); obtain ⟨f1, k1⟩ := hbx w1 hb1)
  rw [Nat.zero_add, List.nil_append] at hown1
  refine bodyPost_ret (v := .agg #[.slice A' n c']) (by simp [results, Try.results9, go_sem, k1]) rfl ⟨A', c', rfl, ?_, ?_⟩
  · refine (hown1.kept (rw := some (w.heap.size + 1)) entR_fine (grownBy_set w1 _ _) (.inr fun e => ?_) (fun b hb => ?_)).less entR_fine (by omega) (by omega)
    · have h := (hown1.lt _ e).1
      omega
    · have h : w.heap.size + 1 + 1 ≤ b := hb.1
      exact blk_set w1 _ _ _ (by show b ≠ w.heap.size + 1; omega)
  · exact (hb0.trans (hb1.mono (by omega))).setCell (by show w.heap.size ≤ w.heap.size + 1; omega) _

set_option maxHeartbeats 1000000 in
theorem table_any (A B : Option Addr) (n c m d : Nat) (L L' : List Ent) (w : World) (ha : Sl entR 3 w (Old w) A n c L) (hb : Sl entR 3 w (Old w) B m d L') (hn : n ≤ 65536) :
    Calls Try.prog 13 #[.agg #[.slice A n c], .agg #[.slice B m d]] w fun e w' => e = .returned (.bool (decide (L = L'))) ∧ Below w.heap.size w w' := by
  have hb0 : Below w.heap.size w ((w.alloc (.cells #[.slice A n c] 26)).alloc (.cells #[.slice B m d] 26)) := (alloc_below w _).alloc (by simp) _
  have ha0 := ha.on entR_fine hb0
  have hc0 := hb.on entR_fine hb0
  have hla := ha.len
  have hlb := hb.len
  obtain ⟨D, hD⟩ : ∃ D, D = decide (L = L') := ⟨_, rfl⟩
  rw [← hD]
  by_cases hnm : n = m
  · subst hnm
    have hT : L = L' → D = true := fun h => hD.trans (decide_eq_true h)
    have hF : L ≠ L' → D = false := fun h => hD.trans (decide_eq_false h)
    have HT := hide hT
    have HF := hide hF
    have HA := hide hla
    have HB := hide hlb
    clear hT hF hD hla hlb
    have kA : ((w.alloc (.cells #[.slice A n c] 26)).alloc (.cells #[.slice B n d] 26)).cell? ⟨w.heap.size, 0, none⟩ = some (.slice A n c) := box_cell (alloc_below _ _) 0 _ rfl
    have kB : ((w.alloc (.cells #[.slice A n c] 26)).alloc (.cells #[.slice B n d] 26)).cell? ⟨w.heap.size + 1, 0, none⟩ = some (.slice B n d) := by simp
    go_enter Try.func13, Try.ntmps13
    go_wp2_with fail
    go_loopw [5] (fun i wr => ∃ k q : Nat, k ≤ n ∧ i = .int .i64 k ∧ Hid (L.take k = L'.take k) ∧ wr = ((w.alloc (.cells #[.slice A n c] 26)).alloc (.cells #[.slice B n d] 26)).drewN q) (fun i _ => n - (intOf i).toNat)
    case atStart => exact ⟨0, 0, Nat.zero_le _, rfl, rfl, rfl⟩
    case round =>
      obtain ⟨k, q, hk, rfl, ht, rfl⟩ := hrel
      by_cases hlt : k < n
      · obtain ⟨ad, x, rfl, hadl, hx, _, _, c0, c1, c2⟩ := at_ent ha0 hlt
        obtain ⟨bd, y, rfl, hbdl, hy, _, _, d0, d1, d2⟩ := at_ent hc0 hlt
        have HX := hide hx
        have HY := hide hy
        clear hx hy
        obtain ⟨s, u, l⟩ := x
        obtain ⟨s', u', l'⟩ := y
        dsimp only at c0 c1 c2 d0 d1 d2
        by_cases h1 : s = s'
        · by_cases h2 : u = u'
          · by_cases h3 : l = l'
            · subst h1; subst h2; subst h3
              have hnext : L.take (k + 1) = L'.take (k + 1) := by
                obtain ⟨h1, e1⟩ := List.getElem?_eq_some_iff.1 HX.out
                obtain ⟨h2, e2⟩ := List.getElem?_eq_some_iff.1 HY.out
                exact take_eq_step h1 h2 ht.out (by rw [e1, e2])
              have HN := hide hnext
              clear hnext
              go_wp2_with fail
              go_quiet (fail)
              go_wp2_with fail
              go_roundw
              case rel => exact ⟨k + 1, _, by omega, by go_num, HN, rfl⟩
              case measure => simp [intOf]; omega
            · subst h1; subst h2
              have hne : L ≠ L' := by
                rintro rfl
                have h := HX.out.symm.trans HY.out
                injection h with h
                injection h with g1 g2 g3
                exact h3 g3
              obtain rfl := HF.out hne
              clear hne
              go_wp2_with fail
              go_quiet (fail)
              go_wp2_with fail
              go_ret
              exact ⟨rfl, th hb0 (th (drewN_below _ _) (drewN_below _ _))⟩
          · subst h1
            have hne : L ≠ L' := by
              rintro rfl
              have h := HX.out.symm.trans HY.out
              injection h with h
              injection h with g1 g2 g3
              exact h2 g2
            obtain rfl := HF.out hne
            clear hne
            go_wp2_with fail
            go_quiet (fail)
            go_wp2_with fail
            go_ret
            exact ⟨rfl, th hb0 (th (drewN_below _ _) (drewN_below _ _))⟩
        · have hne : L ≠ L' := by
            rintro rfl
            have h := HX.out.symm.trans HY.out
            injection h with h
            injection h with g1 g2 g3
            exact h1 g1
          obtain rfl := HF.out hne
          clear hne
          go_wp2_with fail
          go_quiet (fail)
          go_wp2_with fail
          go_ret
          exact ⟨rfl, th hb0 (th (drewN_below _ _) (drewN_below _ _))⟩
      · have h := ht.out
        rw [List.take_of_length_le (by rw [HA.out]; omega), List.take_of_length_le (by rw [HB.out]; omega)] at h
        obtain rfl := HT.out h
        clear h
        go_wp2_with fail
        go_ret
        exact ⟨rfl, th hb0 (drewN_below _ _)⟩
  · have hne : L ≠ L' := by rintro rfl; exact hnm (hla.symm.trans hlb)
    obtain rfl := hD.trans (decide_eq_false hne)
    have e1 : ((n : Int) != (m : Int)) = true := by simp; omega
    clear hD hne hla hlb
    go_enter Try.func13, Try.ntmps13
    go_wp2_with fail
    go_ret
    exact ⟨rfl, hb0⟩

set_option maxHeartbeats 400000 in
theorem rows_any (A B : Option Addr) (n c m d : Nat) (L L' : List (List UInt8)) (w : World) (ha : Rs w A n c L) (hb : Rs w B m d L') (hn : n ≤ 65536) (hl : ∀ l ∈ L, l.length ≤ 65536) :
    Calls Try.prog 14 #[.slice A n c, .slice B m d] w fun e w' => e = .returned (.bool (decide (L = L'))) ∧ Below w.heap.size w w' := by
  have HL := hide hl
  have hla := ha.len
  have hlb := hb.len
  obtain ⟨D, hD⟩ : ∃ D, D = decide (L = L') := ⟨_, rfl⟩
  rw [← hD]
  by_cases hnm : n = m
  · subst hnm
    have hT : L = L' → D = true := fun h => hD.trans (decide_eq_true h)
    have hF : L ≠ L' → D = false := fun h => hD.trans (decide_eq_false h)
    have HT := hide hT
    have HF := hide hF
    have HA := hide hla
    have HB := hide hlb
    clear hT hF hD hla hlb hl
    go_enter Try.func14, Try.ntmps14
    go_wp2_with fail
    go_loopw [5] (fun i wr => ∃ k : Nat, k ≤ n ∧ i = .int .i64 k ∧ Hid (L.take k = L'.take k) ∧ Hid (∃ q, wr = w.drewN q)) (fun i _ => n - (intOf i).toNat)
    case atStart => exact ⟨0, Nat.zero_le _, rfl, rfl, 0, rfl⟩
    case round =>
      obtain ⟨k, hk, rfl, ht, hq⟩ := hrel
      have hbw : Below w.heap.size w wr := by obtain ⟨q, rfl⟩ := hq; exact drewN_below _ _
      by_cases hlt : k < n
      · have har := ha.on bytesR_fine hbw
        have hbr := hb.on bytesR_fine hbw
        obtain ⟨ad, l, A1, n1, c1, rfl, _, hx, hs, hcell⟩ := at_row har hlt
        obtain ⟨bd, l', B1, m1, d1, rfl, _, hx', hs', hcell'⟩ := at_row hbr hlt
        have hn1 : n1 ≤ 65536 := by rw [← hs.len]; exact HL.out l (List.mem_of_getElem? hx)
        have hc : ∀ r, Calls Try.prog 24 #[.slice A1 n1 c1, .slice B1 m1 d1] (wr.drewN r) fun e w' => e = .returned (.bool (decide (l = l'))) ∧ ∃ m, w' = (wr.drewN r).drewN m := fun r =>
          bytes_any A1 B1 n1 c1 m1 d1 l l' (wr.drewN r) (hs.move byteR_fine (fun _ _ => rfl) (fun _ h => h)) (hs'.move byteR_fine (fun _ _ => rfl) (fun _ h => h)) hn1
        by_cases hll : l = l'
        · subst hll
          have hnext : L.take (k + 1) = L'.take (k + 1) := by
            obtain ⟨h1, e1⟩ := List.getElem?_eq_some_iff.1 hx
            obtain ⟨h2, e2⟩ := List.getElem?_eq_some_iff.1 hx'
            exact take_eq_step h1 h2 ht.out (by rw [e1, e2])
          rw [decide_eq_true rfl] at hc
          have HN := hide hnext
          have HC := hide hc
          clear hc hnext hx hx'
          go_wp2_with fail
          go_quiet ((go_at_call 24; exact Calls.quiet_of (HC.out _)))
          go_wp2_with fail
          go_roundw
          case rel => exact ⟨k + 1, by omega, by go_num, HN, by obtain ⟨q, rfl⟩ := hq; exact ⟨_, World.drewN_drewN _ _ _⟩⟩
          case measure => simp [intOf]; omega
        · have hne : L ≠ L' := by
            rintro rfl
            have h := hx.symm.trans hx'
            injection h with h
            exact hll h
          obtain rfl := HF.out hne
          rw [decide_eq_false hll] at hc
          have HC := hide hc
          clear hne hc hx hx' hll
          go_wp2_with fail
          go_quiet ((go_at_call 24; exact Calls.quiet_of (HC.out _)))
          go_wp2_with fail
          go_ret
          exact ⟨rfl, th hbw (drewN_below _ _)⟩
      · have h := ht.out
        rw [List.take_of_length_le (by rw [HA.out]; omega), List.take_of_length_le (by rw [HB.out]; omega)] at h
        obtain rfl := HT.out h
        clear h
        go_wp2_with fail
        go_ret
        exact ⟨rfl, hbw⟩
  · have hne : L ≠ L' := by rintro rfl; exact hnm (hla.symm.trans hlb)
    obtain rfl := hD.trans (decide_eq_false hne)
    have e1 : ((n : Int) != (m : Int)) = true := by simp; omega
    clear hD hne hla hlb hl
    go_enter Try.func14, Try.ntmps14
    go_wp2_with fail
    go_ret
    exact ⟨rfl, Below.refl _ _⟩

end Go.Proofs.Ytikjhcfalofgaaa
