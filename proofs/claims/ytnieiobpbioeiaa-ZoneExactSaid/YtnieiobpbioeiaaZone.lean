/-
  Contracts: the zone's look: known, all cases; zone.Block.
-/
import Derived.Test.YtnieiobpbioeiaaKnown2
namespace Go.Proofs.Ytnieiobpbioeiaa
open Go.RowKit
set_option linter.unusedVariables false
set_option maxRecDepth 100000

theorem known_any {A B : Option Addr} {n c m cb N d : Nat} {L : List Ent} {H : List (List UInt8)} {w : World} (hk : Look w N d (.slice A n c) (.slice B m cb)) (ha : Sl entR 3 w (Old w) A n c L) (hh : Rs w B m cb H) (hd : d ≤ 100)
    (ht : TabOk d L) (hho : HadOk d H) (i : Nat) (hi : i ≤ d) :
    Calls Try.prog 74 #[.pointer (some ⟨N, 0, none⟩), .int .i64 i] w (KnownPost w (knownL L H i)) := by
  have hn : n = d + 1 := by have := ha.len; have := ht.1; omega
  have hm : m = d + 1 := by have := hh.len; have := hho.1; omega
  have hHl : H.length = d + 1 := by have := hho.1; omega
  obtain ⟨e, he⟩ : ∃ e, L[i]? = some e := ⟨_, List.getElem?_eq_getElem (by rw [ha.len]; omega)⟩
  obtain ⟨h, hhi⟩ : ∃ h, H[i]? = some h := ⟨_, List.getElem?_eq_getElem (by omega)⟩
  rw [known_eq he hhi]
  cases hl : e.lost with
  | true =>
    rw [if_pos rfl]
    exact known_lost hk ha i (by omega) he hl
  | false =>
    rw [if_neg (by simp)]
    by_cases hne : h ≠ []
    · rw [if_pos hne]
      refine known_had hk ha hh i (by omega) (by omega) he hl hhi hne ?_
      rcases hho.2 h (List.mem_of_getElem? hhi) with h1 | h1 <;> omega
    · rw [if_neg hne]
      have h0 : h = [] := Decidable.not_not.1 hne
      subst h0
      rw [hHl]
      by_cases hid : i = d
      · refine known_last hk ha hh hn hm hd hho.2 i (by omega) (by omega) hid he hl hhi ?_
        rw [show othN L H i (d + 1) = othN L H i d from othN_skip (.inl hid.symm)]
      · obtain ⟨P, hP⟩ : ∃ P, H[d]? = some P := ⟨_, List.getElem?_eq_getElem (by omega)⟩
        obtain ⟨ed, hed⟩ : ∃ ed, L[d]? = some ed := ⟨_, List.getElem?_eq_getElem (by rw [ha.len]; omega)⟩
        have hel : ed.lost = false := ht.2.2 ed (by rw [show ((d : Int)).toNat = d from rfl]; exact hed)
        refine known_mid hk ha hh hn hm hd hho.2 i (by omega) he hl hhi hP ?_
        rw [show othN L H i (d + 1) = othN L H i d ++ [P] from othN_more (fun h => hid h.symm) hed hel hP]

/-- What zone.Block tells. -/
def BlockQ (g : Geo) (L : List Ent) (H : List (List UInt8)) (at_ : Int) (l : List UInt8) (err : Int) : Prop :=
  (¬ (GeoOk g ∧ TabOk g.data L) ∧ err = 1 ∧ l = []) ∨
   ((GeoOk g ∧ TabOk g.data L) ∧ ¬ HadOk g.data H ∧ err = 2 ∧ l = []) ∨
   ((GeoOk g ∧ TabOk g.data L) ∧ HadOk g.data H ∧ ¬ (-1 ≤ at_ ∧ at_ < g.data) ∧ err = 1 ∧ l = []) ∨
   ((GeoOk g ∧ TabOk g.data L) ∧ HadOk g.data H ∧ (-1 ≤ at_ ∧ at_ < g.data) ∧ l = knownL L H (if at_ = -1 then g.data.toNat else at_.toNat) ∧ err = if l = [] then 13 else 0)
def BlockPost (w : World) (g : Geo) (L : List Ent) (H : List (List UInt8)) (at_ : Int) (e : Ending) (w' : World) : Prop :=
  Below w.heap.size w w' ∧ ∃ V n cv l err, e = .returned (.tuple #[.slice V n cv, .int .i64 err]) ∧ Bs w' V n cv l ∧ BlockQ g L H at_ l err

set_option maxHeartbeats 1000000 in
theorem block_any (A B : Option Addr) (n c m cb : Nat) (L : List Ent) (H : List (List UInt8)) (g : Geo) (w : World) (ha : Sl entR 3 w (Old w) A n c L) (hh : Rs w B m cb H) (hn : n ≤ 65536) (hm : m ≤ 65536) (at_ : Int) :
    Calls Try.prog 28 #[g.v, .agg #[.slice A n c], .slice B m cb, .int .i64 at_] w (BlockPost w g L H at_) := by
  obtain ⟨z, q, s, l, a⟩ := g
  have hb0 : Below w.heap.size w ((w.alloc (.cells #[.int .i64 z, .int .i64 q, .int .i64 s, .int .i64 l, .int .i64 a] 23)).alloc (.cells #[.slice A n c] 26)) := (alloc_below w _).alloc (by simp) _
  have hbg := begin_any A B n c m cb L H ⟨z, q, s, l, a⟩ _ (ha.on entR_fine hb0) (hh.on bytesR_fine hb0) hn hm
  unfold BlockPost
  unfold BeginPost at hbg
  unfold Geo.v at hbg ⊢
  dsimp only at hbg ⊢
  have bx : ∀ W, Below ((w.alloc (.cells #[.int .i64 z, .int .i64 q, .int .i64 s, .int .i64 l, .int .i64 a] 23)).alloc (.cells #[.slice A n c] 26)).heap.size ((w.alloc (.cells #[.int .i64 z, .int .i64 q, .int .i64 s, .int .i64 l, .int .i64 a] 23)).alloc (.cells #[.slice A n c] 26)) W →
      W.cell? ⟨w.heap.size, 1, none⟩ = some (.int .i64 q) := fun W hW => box_cell (th (alloc_below _ _) hW) 1 _ rfl
  have BX := hide bx
  have HBG := hide hbg
  clear bx hbg
  have ha0 := ha.on entR_fine hb0
  have hh0 := hh.on bytesR_fine hb0
  go_enter Try.func28, Try.ntmps28
  go_wp2_with fail
  refine HBG.out.mono ?_
  rintro e w1 ⟨hb1, ⟨h1, rfl⟩ | ⟨h1, h2, rfl⟩ | ⟨h1, h2, N, hN, rfl, hlk⟩⟩
  · have H1 := hide h1
    clear h1
    go_wp2_with fail
    go_ret2
    refine ⟨th hb0 hb1, none, 0, 0, [], 1, rfl, Sl.nil_ _, ?_⟩
    unfold BlockQ
    exact .inl ⟨H1.out, rfl, rfl⟩
  · have H1 := hide h1
    have H2 := hide h2
    clear h1 h2
    go_wp2_with fail
    go_ret2
    refine ⟨th hb0 hb1, none, 0, 0, [], 2, rfl, Sl.nil_ _, ?_⟩
    unfold BlockQ
    exact .inr (.inl ⟨H1.out, H2.out, rfl, rfl⟩)
  · have hd := h1.1.2.1
    dsimp only at hd
    obtain ⟨d, hq⟩ : ∃ d : Nat, q = (d : Int) := ⟨q.toNat, by omega⟩
    subst hq
    have hlk : Look w1 N d (.slice A n c) (.slice B m cb) := hlk
    have k1 := BX.out w1 hb1
    have ha1 := ha0.on entR_fine hb1
    have hh1 := hh0.on bytesR_fine hb1
    have hkn := fun i hi => known_any hlk ha1 hh1 (by omega) h1.2 h2 i hi
    unfold KnownPost at hkn
    have H1 := hide h1
    have H2 := hide h2
    clear h1 h2
    by_cases hlo : at_ < -1
    · go_wp2_with fail
      go_ret2
      refine ⟨th hb0 hb1, none, 0, 0, [], 1, rfl, Sl.nil_ _, ?_⟩
      unfold BlockQ
      exact .inr (.inr (.inl ⟨H1.out, H2.out, (by show ¬ (-1 ≤ _ ∧ _ < (d : Int)); omega), rfl, rfl⟩))
    by_cases hhi : (d : Int) ≤ at_
    · go_wp2_with fail
      go_ret2
      refine ⟨th hb0 hb1, none, 0, 0, [], 1, rfl, Sl.nil_ _, ?_⟩
      unfold BlockQ
      exact .inr (.inr (.inl ⟨H1.out, H2.out, (by show ¬ (-1 ≤ _ ∧ _ < (d : Int)); omega), rfl, rfl⟩))
    by_cases hp : at_ = -1
    · subst hp
      have hkd := hkn d (Nat.le_refl _)
      have hK : knownL L H (if (-1 : Int) = -1 then ((d : Int)).toNat else (-1 : Int).toNat) = knownL L H d := rfl
      obtain ⟨K, hKK⟩ : ∃ K, K = knownL L H d := ⟨_, rfl⟩
      rw [← hKK] at hkd hK
      have HKK := hide hK
      have HKD := hide hkd
      clear hkn hkd hK hKK
      by_cases hne : K = []
      · have hdec : decide (K ≠ []) = false := decide_eq_false (fun h => h hne)
        have HKD := HKD.out
        rw [hdec] at HKD
        have HNE := hide hne
        have HKD := hide HKD
        clear hne hdec
        go_wp2_with fail
        refine HKD.out.mono ?_
        rintro e w2 ⟨hb2, V, n2, c2, rfl, hs2⟩
        go_wp2_with fail
        go_ret2
        refine ⟨th hb0 (th hb1 hb2), none, 0, 0, [], 13, rfl, Sl.nil_ _, ?_⟩
        unfold BlockQ
        exact .inr (.inr (.inr ⟨H1.out, H2.out, (by show -1 ≤ _ ∧ _ < (d : Int); omega), (HKK.out.trans HNE.out).symm, rfl⟩))
      · have hdec : decide (K ≠ []) = true := decide_eq_true hne
        have HKD := HKD.out
        rw [hdec] at HKD
        have HNE := hide hne
        have HKD := hide HKD
        clear hne hdec
        go_wp2_with fail
        refine HKD.out.mono ?_
        rintro e w2 ⟨hb2, V, n2, c2, rfl, hs2⟩
        go_wp2_with fail
        go_ret2
        refine ⟨th hb0 (th hb1 hb2), V, n2, c2, K, 0, rfl, hs2.old_ byteR_fine, ?_⟩
        unfold BlockQ
        exact .inr (.inr (.inr ⟨H1.out, H2.out, (by show -1 ≤ _ ∧ _ < (d : Int); omega), HKK.out.symm, (if_neg HNE.out).symm⟩))
    · obtain ⟨i, hi⟩ : ∃ i : Nat, at_ = (i : Int) := ⟨at_.toNat, by omega⟩
      subst hi
      have hkd := hkn i (by omega)
      have hK : knownL L H (if (i : Int) = -1 then ((d : Int)).toNat else ((i : Int)).toNat) = knownL L H i := by rw [if_neg (by omega)]; rfl
      obtain ⟨K, hKK⟩ : ∃ K, K = knownL L H i := ⟨_, rfl⟩
      rw [← hKK] at hkd hK
      have HKK := hide hK
      have HKD := hide hkd
      have hpe : ((i : Int) == -1) = false := by simp <;> omega
      clear hkn hkd hK hKK hp
      by_cases hne : K = []
      · have hdec : decide (K ≠ []) = false := decide_eq_false (fun h => h hne)
        have HKD := HKD.out
        rw [hdec] at HKD
        have HNE := hide hne
        have HKD := hide HKD
        clear hne hdec
        go_wp2_with fail
        refine HKD.out.mono ?_
        rintro e w2 ⟨hb2, V, n2, c2, rfl, hs2⟩
        go_wp2_with fail
        go_ret2
        refine ⟨th hb0 (th hb1 hb2), none, 0, 0, [], 13, rfl, Sl.nil_ _, ?_⟩
        unfold BlockQ
        exact .inr (.inr (.inr ⟨H1.out, H2.out, (by show -1 ≤ _ ∧ _ < (d : Int); omega), (HKK.out.trans HNE.out).symm, rfl⟩))
      · have hdec : decide (K ≠ []) = true := decide_eq_true hne
        have HKD := HKD.out
        rw [hdec] at HKD
        have HNE := hide hne
        have HKD := hide HKD
        clear hne hdec
        go_wp2_with fail
        refine HKD.out.mono ?_
        rintro e w2 ⟨hb2, V, n2, c2, rfl, hs2⟩
        go_wp2_with fail
        go_ret2
        refine ⟨th hb0 (th hb1 hb2), V, n2, c2, K, 0, rfl, hs2.old_ byteR_fine, ?_⟩
        unfold BlockQ
        exact .inr (.inr (.inr ⟨H1.out, H2.out, (by show -1 ≤ _ ∧ _ < (d : Int); omega), HKK.out.symm, (if_neg HNE.out).symm⟩))

end Go.Proofs.Ytnieiobpbioeiaa
