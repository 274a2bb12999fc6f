/-
  Contracts: casematekeep.TwinInts, TwinAnchor.
-/
import Derived.Test.YtamgpbkakmffiaaDoorAncY
namespace Go.Proofs.YtamgpbkakmffiaaDoor
open Go.RowKit Go.Lib
set_option linter.unusedVariables false
set_option maxRecDepth 100000

set_option maxHeartbeats 400000 in
theorem twini_any (A : Option Addr) (n c : Nat) (l : List Int) (w : World) (ha : Is w A n c l) (hn : n ≤ 65536) :
    Calls Tryd.prog 56 #[.slice A n c] w fun e w' => ∃ A' c', e = .returned (.slice A' n c') ∧ Ow intR 1 w' w.heap.size w.heap.size 3 (.slice A' n c') n l ∧ Below w.heap.size w w' := by
  obtain ⟨i0, hi0, hz0, hz1, hz2⟩ := info_parts int_info
  go_enter Tryd.func56, Tryd.ntmps56
  go_wp2_with (at_builtin; refine wpList_append_ow _ rfl (.tmp 4) (.tmp 5) _ rfl intR_fine w.heap.size w.heap.size 3 i0 _ 8 Tryd.underlying42 hi0 hz0 hz1 hz2 rfl (by omega) (.slice none 0 0) 0 [] rfl (Ow.nil_ _ _ _ _) (Old w) A n c l rfl ha (fun _ _ _ h => h) (by simp only [maxLen]; omega) (by omega) (Nat.le_refl _) ?_; intro v1 w1 hown1 hg1 hat1)
  go_ret
  rw [Nat.zero_add, List.nil_append] at hown1
  obtain ⟨A', c', rfl⟩ := hown1.form
  exact ⟨A', c', rfl, hown1, below_grown hg1 (by simp [Value.ownBlock]) (Nat.le_refl _)⟩

/-- A home in a box, its places owned. -/
theorem lit_homO {w : World} {S : Nat → Prop} {e eI : TypeId} {U : Option Addr} {m cu : Nat} {x : Hom} {o : Option Nat} (hU : Ow intR 1 (w.alloc (.cells #[.slice U m cu, .int .i64 x.next, .int .i64 x.root] e)) 0 0 eI (.slice U m cu) m x.places) (ho : (Value.slice U m cu).ownBlock = o) (h1 : InI x.next) (h2 : InI x.root) (hS : S w.heap.size) (hSo : ∀ k, o = some k → S k) :
    Sl (homO eI) 3 (w.alloc (.cells #[.slice U m cu, .int .i64 x.next, .int .i64 x.root] e)) S (some ⟨w.heap.size, 0, none⟩) 1 1 [(x, o)] := by
  refine ⟨rfl, Nat.le_refl _, fun _ => ⟨_, rfl, hS, fun i y hi => ⟨[.slice U m cu, .int .i64 x.next, .int .i64 x.root], ?_, ?_⟩⟩⟩
  · obtain rfl : i = 0 := by have := (List.getElem?_eq_some_iff.1 hi).1; simp at this; omega
    simp at hi
    subst hi
    exact ⟨U, m, cu, rfl, h1, h2, hU, ho, hSo⟩
  · obtain rfl : i = 0 := by have := (List.getElem?_eq_some_iff.1 hi).1; simp at this; omega
    intro j u hu
    rw [Nat.zero_mul, add_zero']
    exact World.news_of_block (heap_alloc_new w _) j u hu
theorem homOPut {w : World} {B : Nat} {e eI : TypeId} {V : Value} {n : Nat} {L : List (Hom × Option Nat)} (h : Ow (homO eI) 3 w B B e V n L) (p : Addr) (v : Value) (hp : p.block < B) : Ow (homO eI) 3 (w.setCell p v) B B e V n L :=
  h.kept (rw := some p.block) (homO_fine eI) (put_grown w p v) (.inr fun e => by have := (h.lt _ e).1; omega) (fun b hb => put_blk _ _ _ _ (by have := hb.1; omega))
theorem zip_snoc {L : List Hom} {t : List (Option Nat)} {k : Nat} {x : Hom} {o : Option Nat} (ht : t.length = k) (hx : L[k]? = some x) : (L.take k).zip t ++ [(x, o)] = (L.take (k + 1)).zip (t ++ [o]) := by
  obtain ⟨hk, e⟩ := List.getElem?_eq_some_iff.1 hx
  rw [List.take_succ_eq_append_getElem hk, e, List.zip_append (by rw [List.length_take]; omega)]
  rfl

set_option maxHeartbeats 4000000 in
theorem katwin_any (a : Anc) (A : Option Addr) (n c : Nat) (w : World) (ha : Sl homR 3 w (Old w) A n c a.homes) (hn : n ≤ 6000) (hpl : ∀ h ∈ a.homes, h.places.length ≤ 6000) :
    Calls Tryd.prog 17 #[a.v (.slice A n c)] w (ATwinPost w a n) := by
  obtain ⟨e0, he0, ee0, ee1, ee2⟩ := info_parts hom_info
  obtain ⟨gen, epoch, pos, seq, last, label, L⟩ := a
  unfold ATwinPost Anc.v
  dsimp only at *
  obtain ⟨W0, hW0⟩ : ∃ W0, W0 = (w.alloc (.cells #[.int .i64 gen, .int .i64 epoch, .int .i64 pos, .int .i64 seq, .int .i64 last, .string label, .slice A n c] 26)).alloc (.cells #[.int .i64 0, .int .i64 0, .int .i64 0, .int .i64 0, .int .i64 0, .string ⟨#[]⟩, .slice none 0 0] 26) := ⟨_, rfl⟩
  have hs0 : W0.heap.size = w.heap.size + 2 := by rw [hW0]; simp
  have hb0 : Below w.heap.size w W0 := by rw [hW0]; exact (alloc_below w _).alloc (by simp) _
  have hsA : Sev W0 w.heap.size (.int .i64 gen) (.int .i64 epoch) (.int .i64 pos) (.int .i64 seq) (.int .i64 last) (.string label) (.slice A n c) := by rw [hW0]; exact (Sev.new rfl (Below.refl _ _)).on (by simp) (alloc_below _ _)
  have hsZ : Sev W0 (w.heap.size + 1) (.int .i64 0) (.int .i64 0) (.int .i64 0) (.int .i64 0) (.int .i64 0) (.string ⟨#[]⟩) (.slice none 0 0) := by rw [hW0]; exact Sev.new (by simp) (Below.refl _ _)
  have hfA : ∀ k, W0.frozen? ⟨w.heap.size, k, none⟩ = false := fun k => by rw [hW0]; exact box_free (alloc_below _ _) k
  have hfZ : ∀ k, W0.frozen? ⟨w.heap.size + 1, k, none⟩ = false := fun k => by rw [hW0]; exact bx_free2 (by simp) (Below.refl _ _) k
  obtain ⟨W1, hW1⟩ : ∃ W1, W1 = (w.alloc (.cells #[.int .i64 gen, .int .i64 epoch, .int .i64 pos, .int .i64 seq, .int .i64 last, .string label, .slice none 0 0] 26)).alloc (.cells #[.int .i64 0, .int .i64 0, .int .i64 0, .int .i64 0, .int .i64 0, .string ⟨#[]⟩, .slice none 0 0] 26) := ⟨_, rfl⟩
  have hs1 : W1.heap.size = w.heap.size + 2 := by rw [hW1]; simp
  have hb1 : Below w.heap.size w W1 := by rw [hW1]; exact (alloc_below w _).alloc (by simp) _
  have hsA1 : Sev W1 w.heap.size (.int .i64 gen) (.int .i64 epoch) (.int .i64 pos) (.int .i64 seq) (.int .i64 last) (.string label) (.slice none 0 0) := by rw [hW1]; exact (Sev.new rfl (Below.refl _ _)).on (by simp) (alloc_below _ _)
  have hne : w.heap.size + 1 ≠ w.heap.size := by omega
  have hsZ1 : Sev W1 (w.heap.size + 1) (.int .i64 0) (.int .i64 0) (.int .i64 0) (.int .i64 0) (.int .i64 0) (.string ⟨#[]⟩) (.slice none 0 0) := by rw [hW1]; exact Sev.new (by simp) (Below.refl _ _)
  have hfA1 : W1.frozen? ⟨w.heap.size, 6, none⟩ = false := by rw [hW1]; exact box_free (alloc_below _ _) 6
  have hfZ1 : ∀ k, W1.frozen? ⟨w.heap.size + 1, k, none⟩ = false := fun k => by rw [hW1]; exact bx_free2 (by simp) (Below.refl _ _) k
  have HPL := hide hpl
  have HLEN := hide ha.len
  have HSA1 := hide hsA1
  have HSZ1 := hide hsZ1
  have HFA1 := hide hfA1
  have HFZ1 := hide hfZ1
  obtain ⟨_, _, _, _, _, _, q6⟩ := hsA
  have f6 := hfA 6
  have HW1 := hide hW1
  clear hsZ hfA hfZ hpl hsA1 hsZ1 hfA1 hfZ1 hW1
  go_enter Tryd.func17, Tryd.ntmps17
  rw [hW0] at q6 f6
  go_wp2_with fail
  rw [← HW1.out]
  clear q6 f6 hW0
  go_loopw [4] (fun i wr => ∃ k : Nat, ∃ V cv t, k ≤ n ∧ i = .int .i64 k ∧ t.length = k ∧ Ow (homO 3) 3 wr (w.heap.size + 2) (w.heap.size + 2) 44 (.slice V k cv) k ((L.take k).zip t) ∧ Hid (PartedH t) ∧ Hid (∀ b, some b ∈ t → b < wr.heap.size) ∧ Hid (Sev wr w.heap.size (.int .i64 gen) (.int .i64 epoch) (.int .i64 pos) (.int .i64 seq) (.int .i64 last) (.string label) (.slice V k cv)) ∧ Hid (wr.frozen? ⟨w.heap.size, 6, none⟩ = false) ∧ Hid (Sev wr (w.heap.size + 1) (.int .i64 0) (.int .i64 0) (.int .i64 0) (.int .i64 0) (.int .i64 0) (.string ⟨#[]⟩) (.slice none 0 0)) ∧ Hid (∀ j, wr.frozen? ⟨w.heap.size + 1, j, none⟩ = false) ∧ Below w.heap.size w wr ∧ w.heap.size + 2 ≤ wr.heap.size) (fun i _ => n - (RowKit.intOf i).toNat)
  case atStart => exact ⟨0, none, 0, [], Nat.zero_le _, rfl, rfl, Ow.nil_ _ _ _ _, hide PartedH.nil_, hide (fun b hb => by simp at hb), HSA1, HFA1, HSZ1, HFZ1, hb1, Nat.le_of_eq hs1.symm⟩
  case round =>
    obtain ⟨k, V, cv, t, hk, rfl, htl, ho, hpt, hbt, hsv, hfr, hzv, hfz, hbw, hsz⟩ := hrel
    by_cases hlt : k < n
    · obtain ⟨ad, x, A', m, c', rfl, hadl, hx, i1, i2, hs, d0, d1, d2⟩ := at_hom (ha.on homR_fine hbw) hlt
      have hm : m ≤ 65536 := by have h1 := HPL.out x (List.mem_of_getElem? hx); have h2 := hs.len; omega
      have HTW := hide (fun W (hW : Below wr.heap.size wr W) => twini_any A' m c' x.places W (hs.on intR_fine hW) hm)
      have ablk : (ad.add (k * 3)).block = ad.block := by unfold Addr.add; split <;> rfl
      have HX : Hid (L[k]? = some x) := hide hx
      have HI := hide (And.intro i1 i2)
      have d1' : wr.cell? ⟨(ad.add (k * 3)).block, (ad.add (k * 3)).off + 1, none⟩ = some (.int .i64 x.next) := d1
      have d2' : wr.cell? ⟨(ad.add (k * 3)).block, (ad.add (k * 3)).off + 2, none⟩ = some (.int .i64 x.root) := d2
      have HC : Hid (∀ W, Below wr.heap.size wr W → W.cell? ⟨w.heap.size, 6, none⟩ = some (.slice V k cv) ∧ W.cell? (ad.add (k * 3)) = some (.slice A' m c') ∧ W.cell? ⟨(ad.add (k * 3)).block, (ad.add (k * 3)).off + 1, none⟩ = some (.int .i64 x.next) ∧ W.cell? ⟨(ad.add (k * 3)).block, (ad.add (k * 3)).off + 2, none⟩ = some (.int .i64 x.root)) := hide fun W hW =>
        ⟨(hW.cell (by show w.heap.size < _; omega)).trans hsv.out.2.2.2.2.2.2, below_cell hW hadl d0, (hW.cell (p := ⟨(ad.add (k * 3)).block, (ad.add (k * 3)).off + 1, none⟩) (by show (ad.add (k * 3)).block < _; rw [ablk]; exact hadl)).trans d1', (hW.cell (p := ⟨(ad.add (k * 3)).block, (ad.add (k * 3)).off + 2, none⟩) (by show (ad.add (k * 3)).block < _; rw [ablk]; exact hadl)).trans d2'⟩
      obtain ⟨c6, c0, c1, c2⟩ := HC.out wr (Below.refl _ _)
      have I0 : (0 : Int) ≤ (k : Int) := by omega
      have I1 : (k : Int) < (n : Int) := by omega
      have HO := hide ho
      have HSVW := hsv
      clear d0 d1 d2 d1' d2' hx ablk i1 i2 ho
      go_upto_region 6 with fail
      go_region_law (first
          | (refine step_append_ow _ (by rfl) _ _ _ (by rfl) (homO_fine 3) (w.heap.size + 2) (w.heap.size + 2) 44 e0 _ 40 Tryd.underlying24 he0 ee0 ee1 ee2 rfl (by omega) (.slice V k cv) k _ (by rfl) ho6 _ _ 1 1 _ (by rfl) hlit (fun _ _ _ h => h) (by simp only [maxLen]; omega) (by omega) hs6 ?_; intro V8 w8 ho8 hg8 hat8; obtain ⟨A8, c8, rfl⟩ := ho8.form; have hb8 := below_grown (base := w.heap.size + 2) hg8 ho6.lt hs6; have ct8 : w8.cell? ⟨w.heap.size, 6, none⟩ = some (.slice V k cv) := (hb8.cell (by simp)).trans (HC.out _ hb6).1; have ft8 : w8.frozen? ⟨w.heap.size, 6, none⟩ = false := (hb8.frozen (by simp)).trans ((hb6.frozen (by show w.heap.size < _; omega)).trans hfr.out))
          | (go_simp; go_at_call 56; refine (HTW.out _ (by first | exact Below.refl _ _ | exact (Below.refl _ _).drew)).mono ?_; rintro e w5 ⟨U, cu, rfl, hoU, hb5⟩; go_loud (have hb5' : Below wr.heap.size wr w5 := th (by first | exact Below.refl _ _ | exact (Below.refl _ _).drew) hb5; have hE6 := alloc_below w5 (.cells #[.slice U m cu, .int .i64 x.next, .int .i64 x.root] 44); have hb6 := th hb5' hE6; have ho6 := HO.out.below (homO_fine 3) hb6; have hs6 : w.heap.size + 2 ≤ (w5.alloc (.cells #[.slice U m cu, .int .i64 x.next, .int .i64 x.root] 44)).heap.size := Nat.le_trans hsz hb6.size; have hltU := hoU.lt; have hnV : ∀ b, wr.heap.size ≤ b → b < (w5.alloc (.cells #[.slice U m cu, .int .i64 x.next, .int .i64 x.root] 44)).heap.size → But (w5.alloc (.cells #[.slice U m cu, .int .i64 x.next, .int .i64 x.root] 44)) (w.heap.size + 2) (.slice V k cv) b := fun b h1 h2 => ⟨by omega, h2, fun e => by have := (HO.out.lt b e.symm).2; omega⟩; have hlit := lit_homO (e := 44) (eI := 3) (x := x) (o := (Value.slice U m cu).ownBlock) ((hoU.less intR_fine (Nat.zero_le _) (Nat.zero_le _)).below intR_fine hE6) rfl HI.out.1 HI.out.2 (hnV _ hb5'.size (by simp)) (fun b e => hnV b (hltU b e).1 (by have := (hltU b e).2; simp; omega)); have hC5 := HC.out w5 hb5'; have hC6 := HC.out _ hb6)))
      all_goals go_wp2_with fail
      all_goals
        go_roundw
        case rel =>
          refine ⟨k + 1, A8, c8, t ++ [(Value.slice U m cu).ownBlock], by omega, by go_num, by simp [htl], ?_, ?_, ?_, ?_, ?_, ?_, ?_, ?_, ?_⟩
          · rw [← zip_snoc htl HX.out]; exact homOPut ho8 _ _ (by simp)
          · exact hide (hpt.out.snoc fun b e h => by have h1 : wr.heap.size ≤ b := (hltU b e).1; have h2 := hbt.out b h; omega)
          · refine hide fun b h => ?_
            rw [set_size]
            have g1 := hg8.size
            have g2 := hb6.size
            rcases List.mem_append.1 h with h | h
            · have h1 := hbt.out b h; omega
            · have h1 := (hltU b (List.mem_singleton.1 h).symm).2; have h3 := hE6.size; omega
          · exact hide (((hsv.out.on (by omega) hb6).onB (by simp) hb8).six _)
          · exact hide ((put_free _ _ _ _).trans ft8)
          · refine hide ?_
            obtain ⟨z0, z1, z2, z3, z4, z5, z6⟩ := (hzv.out.on (by omega) hb6).onB (by simp) hb8
            exact ⟨put_cell_other hne z0, put_cell_other hne z1, put_cell_other hne z2, put_cell_other hne z3, put_cell_other hne z4, put_cell_other hne z5, put_cell_other hne z6⟩
          · exact hide fun j => (put_free _ _ _ _).trans ((hb8.frozen (by simp)).trans ((hb6.frozen (by show w.heap.size + 1 < _; omega)).trans (hfz.out j)))
          · exact (hbw.trans ((hb6.mono (show w.heap.size ≤ wr.heap.size by omega)).trans (hb8.mono (by omega)))).setCell (Nat.le_refl _) _
          · rw [set_size]; exact Nat.le_trans hs6 hg8.size
        case measure => (first | omega | (simp [RowKit.intOf]; omega) | go_num)
    · obtain rfl : k = n := by omega
      have hown : HOwn 44 3 wr (w.heap.size + 2) (.slice V k cv) k L := by
        refine ⟨t, by rw [htl, HLEN.out], ?_, hpt.out⟩
        have e : L.take k = L := List.take_of_length_le (by rw [HLEN.out]; omega)
        rwa [e] at ho
      have hzu := put7_sev hzv.out (.int .i64 gen) (.int .i64 epoch) (.int .i64 pos) (.int .i64 seq) (.int .i64 last) (.string label) (.slice V k cv)
      unfold put7 at hzu
      have HZU := hide hzu
      have g0 := hfz.out 0
      have g1 := hfz.out 1
      have g2 := hfz.out 2
      have g3 := hfz.out 3
      have g4 := hfz.out 4
      have g5 := hfz.out 5
      have g6 := hfz.out 6
      obtain ⟨y0, y1, y2, y3, y4, y5, y6⟩ := hzv.out
      obtain ⟨v0, v1, v2, v3, v4, v5, v6⟩ := hsv.out
      have HOW := hide (hown.put7 (N := w.heap.size + 1) (by omega) (.int .i64 gen) (.int .i64 epoch) (.int .i64 pos) (.int .i64 seq) (.int .i64 last) (.string label) (.slice V k cv))
      clear hzu hown
      go_wp2_with fail
      obtain ⟨u0, u1, u2, u3, u4, u5, u6⟩ := HZU.out
      exact bodyPost_ret (v := .agg #[.int .i64 gen, .int .i64 epoch, .int .i64 pos, .int .i64 seq, .int .i64 last, .string label, .slice V k cv]) (by simp [results, Tryd.results17, go_sem, u0, u1, u2, u3, u4, u5, u6]) rfl ⟨put7_below hbw (by omega) _ _ _ _ _ _ _, V, cv, rfl, HOW.out⟩

end Go.Proofs.YtamgpbkakmffiaaDoor
