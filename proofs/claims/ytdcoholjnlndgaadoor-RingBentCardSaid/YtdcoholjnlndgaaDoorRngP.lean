/-
  Contracts: casematekeep.TwinImages, TwinTxns.
  Plain: stores into transactions that the call owns whole; a right log with one of them spoilt is none.
  The walk of RingBent.
-/
import Derived.Test.YtdcoholjnlndgaaDoorRngJ
import Derived.Deep.RegionLaw
import Derived.Test.YtdcoholjnlndgaaDoorAncA
namespace Go.Proofs.YtdcoholjnlndgaaDoor
open Go.RowKit Go.Lib
set_option linter.unusedVariables false
set_option maxRecDepth 100000

theorem newdrew {α : Type} {R : Rp α} {s B n : Nat} {w : World} {A : Option Addr} {c : Nat} {L : List α} (hF : Fine R s) (h : Sl R s w (New B w) A n c L) : Sl R s w.drew (New B w.drew) A n c L := h.new_drew hF
theorem lit_txnR {w : World} {S : Nat → Prop} {e : TypeId} {A : Option Addr} {n c : Nat} {x : Txn} (hs : Sl secR 3 (w.alloc (.cells #[.int .i64 x.num, .int .i64 x.at_, .int .i64 x.len, .slice A n c] e)) S A n c x.ims) (h1 : InI x.num) (h2 : InI x.at_) (h3 : InI x.len) (hS : S w.heap.size) :
    Sl txnR 4 (w.alloc (.cells #[.int .i64 x.num, .int .i64 x.at_, .int .i64 x.len, .slice A n c] e)) S (some ⟨w.heap.size, 0, none⟩) 1 1 [x] := by
  refine ⟨rfl, Nat.le_refl _, fun _ => ⟨_, rfl, hS, fun i y hi => ⟨[.int .i64 x.num, .int .i64 x.at_, .int .i64 x.len, .slice A n c], ?_, ?_⟩⟩⟩
  · obtain rfl : i = 0 := by have := (List.getElem?_eq_some_iff.1 hi).1; simp at this; omega
    simp at hi
    subst hi
    exact ⟨A, n, c, rfl, h1, h2, h3, hs⟩
  · obtain rfl : i = 0 := by have := (List.getElem?_eq_some_iff.1 hi).1; simp at this; omega
    intro j u hu
    rw [Nat.zero_mul, add_zero']
    exact World.news_of_block (heap_alloc_new w _) j u hu

set_option maxHeartbeats 4000000 in
theorem twims_any (A : Option Addr) (n c : Nat) (L : List Sec) (w : World) (ha : Sl secR 3 w (Old w) A n c L) (hn : n ≤ 6000) (hh : ∀ x ∈ L, x.load.length ≤ 6000) :
    Calls Tryd.prog 31 #[.slice A n c] w fun e w' => ∃ A' c', e = .returned (.slice A' n c') ∧ Sl secR 3 w' (New w.heap.size w') A' n c' L ∧ Below w.heap.size w w' := by
  obtain ⟨i0, hi0, hz0, hz1, hz2⟩ := info_parts (show (Tryd.prog.info? 56).map (fun i => (i.zero, i.size, i.bytes)) = some (some (.agg #[.int .i64 0, .int .i64 0, .slice none 0 0]), 3, 40) by kernel_rfl)
  have hlen := ha.len
  have HLEN := hide hlen
  have HH := hide hh
  clear hlen hh
  go_enter Tryd.func31, Tryd.ntmps31
  go_wp2_with fail
  go_loopw [3, 4] (fun v i wr => ∃ k : Nat, ∃ Vs cs, k ≤ n ∧ i = .int .i64 k ∧ v = .slice Vs k cs ∧ Ow secR 3 wr w.heap.size w.heap.size 56 (.slice Vs k cs) k (L.take k) ∧ Below w.heap.size w wr) (fun _ i _ => n - (RowKit.intOf i).toNat)
  case atStart => exact ⟨0, none, 0, Nat.zero_le _, rfl, rfl, Ow.nil_ _ _ _ _, Below.refl _ _⟩
  case round =>
    obtain ⟨k, Vs, cs, hk, rfl, rfl, ho, hbr⟩ := hrel
    have hltV : ∀ j, (Value.slice Vs k cs).ownBlock = some j → w.heap.size ≤ j ∧ j < wr.heap.size := fun j e => ho.lt j e
    have HLV := hide hltV
    by_cases hlt : k < n
    · have hlI : (k : Int) < (n : Int) := by omega
      have k0 : (0 : Int) ≤ (k : Int) := by omega
      obtain ⟨ad, x, A', n', c', rfl, hadl, hx, i1, i2, hs, e0, e1, e2⟩ := at_sec ha hlt
      have himg : L.take (k + 1) = L.take k ++ [x] := by
        obtain ⟨h1, e1⟩ := List.getElem?_eq_some_iff.1 hx
        rw [List.take_succ_eq_append_getElem h1, e1]
      have HIM := hide himg
      have hxh := HH.out x (List.mem_of_getElem? hx)
      have hxn := hs.len
      obtain ⟨zo, wh, l⟩ := x
      dsimp only at *
      have hn' : n' ≤ 60000 := by omega
      have HS : Hid (∀ W, Below w.heap.size w W → W.cell? (ad.add (k * 3)) = some (.int .i64 zo) ∧ W.cell? ⟨(ad.add (k * 3)).block, (ad.add (k * 3)).off + 1, none⟩ = some (.int .i64 wh) ∧ W.cell? ⟨(ad.add (k * 3)).block, (ad.add (k * 3)).off + 2, none⟩ = some (.slice A' n' c')) := hide fun W hW => ⟨(hW.cell (by rw [block_of_add]; exact hadl)).trans e0, (hW.cell (by show (ad.add (k * 3)).block < _; rw [block_of_add]; exact hadl)).trans e1, (hW.cell (by show (ad.add (k * 3)).block < _; rw [block_of_add]; exact hadl)).trans e2⟩
      have HTB2 : Hid (∀ W, Below wr.heap.size wr W → Calls Tryd.prog 46 #[.slice A' n' c'] W fun e w' => ∃ A'' c'', e = .returned (.slice A'' n' c'') ∧ Sl byteR 1 w' (New wr.heap.size w') A'' n' c'' l ∧ Below W.heap.size W w') := hide fun W hW => (twin_any A' n' c' l W (hs.on byteR_fine (th hbr hW)) (by omega)).mono fun e w' ⟨A'', c'', h1, h2, h3⟩ => ⟨A'', c'', h1, h2.new_ byteR_fine hW.size hW.size, h3⟩
      have HO := hide fun W (hW : Below wr.heap.size wr W) => ho.below secR_fine hW
      have HLIT : Hid (∀ W A7 c7, Below wr.heap.size wr W → Sl byteR 1 W (New wr.heap.size W) A7 n' c7 l → Sl secR 3 (W.alloc (.cells #[.int .i64 zo, .int .i64 wh, .slice A7 n' c7] 56)) (But (W.alloc (.cells #[.int .i64 zo, .int .i64 wh, .slice A7 n' c7] 56)) w.heap.size (.slice Vs k cs)) (some ⟨W.heap.size, 0, none⟩) 1 1 [⟨zo, wh, l⟩]) := hide fun W A7 c7 hW h7 =>
        lit_sec (x := ⟨zo, wh, l⟩) (h7.move byteR_fine (fun b hb => (alloc_below W (.cells #[.int .i64 zo, .int .i64 wh, .slice A7 n' c7] 56)).block b hb.2) (fun y hy => ⟨Nat.le_trans hbr.size hy.1, Nat.lt_of_lt_of_le hy.2 (alloc_below W _).size, fun e => by have h1 := (HLV.out y e.symm).2; have h2 := hy.1; omega⟩)) i1 i2 ⟨Nat.le_trans hbr.size hW.size, by simp, fun e => by have h1 := (HLV.out _ e.symm).2; have h2 := hW.size; omega⟩
      have hcur := Below.refl wr.heap.size wr
      have hsz0 : w.heap.size ≤ wr.heap.size := hbr.size
      clear hx himg hltV hs
      go_wp2_with fail
      go_region_held3 (fun W => W.cell? (ad.add (k * 3)) = some (.int .i64 zo) ∧ W.cell? ⟨(ad.add (k * 3)).block, (ad.add (k * 3)).off + 1, none⟩ = some (.int .i64 wh) ∧ W.cell? ⟨(ad.add (k * 3)).block, (ad.add (k * 3)).off + 2, none⟩ = some (.slice A' n' c')) (first | exact HS.out _ (th hbr hcur) | exact HS.out _ (th hbr hcur.drew) | exact HS.out _ (th hbr (bal1 hcur _)) | exact HS.out _ (th hbr (bal1 hcur.drew _)) | exact HS.out _ (th hbr (bal1 hcur _).drew) | exact HS.out _ (th hbr (bal1 hcur.drew _).drew) | exact HS.out _ hb8 | exact HS.out _ hb8.drew) (first
        | (go_at_call 46; (with_reducible refine (HTB2.out _ (by first | exact hcur | exact hcur.drew)).mono ?_); rintro e w7 ⟨A7, c7, rfl, hr7, hz7⟩; have hcur := th (by first | exact hcur | exact hcur.drew) hz7; have hr7d := newdrew byteR_fine hr7)
        | (refine step_append_ow _ (by rfl) _ _ _ (by rfl) secR_fine w.heap.size w.heap.size 56 i0 _ 40 Tryd.underlying38 hi0 hz0 hz1 hz2 rfl (by omega) (.slice Vs k cs) k _ (by rfl) (by first | exact HO.out _ (bal1 hcur _) | exact HO.out _ (bal1 hcur.drew _) | exact HO.out _ (bal1 hcur _).drew | exact HO.out _ (bal1 hcur.drew _).drew) _ _ 1 1 _ (by rfl) (by first | exact HLIT.out _ _ _ hcur hr7 | exact HLIT.out _ _ _ hcur.drew hr7d | exact (HLIT.out _ _ _ hcur hr7).drew secR_fine | exact (HLIT.out _ _ _ hcur.drew hr7d).drew secR_fine) (fun _ _ _ h => h) (by simp only [maxLen]; omega) (by omega) (by first | exact Nat.le_trans hsz0 (bal1 hcur _).size | exact Nat.le_trans hsz0 (bal1 hcur.drew _).size | exact Nat.le_trans hsz0 (bal1 hcur _).drew.size | exact Nat.le_trans hsz0 (bal1 hcur.drew _).drew.size) ?_; intro V8 w8 ho8 hg8 hat8; obtain ⟨A8, c8, rfl⟩ := ho8.form; have hb8 : Below w.heap.size w w8 := Below.trans (by first | exact th hbr (bal1 hcur _) | exact th hbr (bal1 hcur.drew _) | exact th hbr (bal1 hcur _).drew | exact th hbr (bal1 hcur.drew _).drew) (below_grown2 hg8 (fun j e => (HLV.out j e).1) (by first | exact Nat.le_trans hsz0 (bal1 hcur _).size | exact Nat.le_trans hsz0 (bal1 hcur.drew _).size | exact Nat.le_trans hsz0 (bal1 hcur _).drew.size | exact Nat.le_trans hsz0 (bal1 hcur.drew _).drew.size))))
      all_goals
        go_wp2_with fail
        rw [← HIM.out] at ho8
        go_roundw
        case rel => first | exact ⟨k + 1, A8, c8, by omega, by go_num, rfl, ho8, hb8⟩ | exact ⟨k + 1, A8, c8, by omega, by go_num, rfl, ho8.drew secR_fine, hb8.drew⟩
        case measure => simp [RowKit.intOf]; omega
    · obtain rfl : k = n := by omega
      have hr := ho.new_ secR_fine (Nat.le_refl _) (Nat.le_refl _)
      rw [List.take_of_length_le (by rw [HLEN.out]; exact Nat.le_refl _)] at hr
      have HR := hide hr
      clear hr ho hltV
      go_wp2_with fail
      go_ret
      exact ⟨Vs, cs, rfl, HR.out, hbr⟩

set_option maxHeartbeats 4000000 in
theorem twtx_any (A : Option Addr) (n c : Nat) (L : List Txn) (w : World) (ha : Sl txnR 4 w (Old w) A n c L) (hn : n ≤ 6000) (hh : ∀ t ∈ L, t.ims.length ≤ 6000 ∧ ∀ x ∈ t.ims, x.load.length ≤ 6000) :
    Calls Tryd.prog 17 #[.slice A n c] w fun e w' => ∃ A' c', e = .returned (.slice A' n c') ∧ Sl txnR 4 w' (New w.heap.size w') A' n c' L ∧ Below w.heap.size w w' := by
  obtain ⟨i0, hi0, hz0, hz1, hz2⟩ := info_parts (show (Tryd.prog.info? 40).map (fun i => (i.zero, i.size, i.bytes)) = some (some (.agg #[.int .i64 0, .int .i64 0, .int .i64 0, .slice none 0 0]), 4, 48) by kernel_rfl)
  have hlen := ha.len
  have HLEN := hide hlen
  have HH := hide hh
  clear hlen hh
  go_enter Tryd.func17, Tryd.ntmps17
  go_wp2_with fail
  go_loopw [3, 4] (fun v i wr => ∃ k : Nat, ∃ Vs cs, k ≤ n ∧ i = .int .i64 k ∧ v = .slice Vs k cs ∧ Ow txnR 4 wr w.heap.size w.heap.size 40 (.slice Vs k cs) k (L.take k) ∧ Below w.heap.size w wr) (fun _ i _ => n - (RowKit.intOf i).toNat)
  case atStart => exact ⟨0, none, 0, Nat.zero_le _, rfl, rfl, Ow.nil_ _ _ _ _, Below.refl _ _⟩
  case round =>
    obtain ⟨k, Vs, cs, hk, rfl, rfl, ho, hbr⟩ := hrel
    have hltV : ∀ j, (Value.slice Vs k cs).ownBlock = some j → w.heap.size ≤ j ∧ j < wr.heap.size := fun j e => ho.lt j e
    have HLV := hide hltV
    by_cases hlt : k < n
    · have hlI : (k : Int) < (n : Int) := by omega
      have k0 : (0 : Int) ≤ (k : Int) := by omega
      obtain ⟨ad, x, A', n', c', rfl, hadl, hx, i1, i2, i3, hs, e0, e1, e2, e3⟩ := at_txn ha hlt
      have himg : L.take (k + 1) = L.take k ++ [x] := by
        obtain ⟨h1, e1⟩ := List.getElem?_eq_some_iff.1 hx
        rw [List.take_succ_eq_append_getElem h1, e1]
      have HIM := hide himg
      have hxh := HH.out x (List.mem_of_getElem? hx)
      have hxn := hs.len
      obtain ⟨num, at_, len, ims⟩ := x
      dsimp only at *
      have hn' : n' ≤ 60000 := by have := hxh.1; omega
      have HS : Hid (∀ W, Below w.heap.size w W → W.cell? (ad.add (k * 4)) = some (.int .i64 num) ∧ W.cell? ⟨(ad.add (k * 4)).block, (ad.add (k * 4)).off + 1, none⟩ = some (.int .i64 at_) ∧ W.cell? ⟨(ad.add (k * 4)).block, (ad.add (k * 4)).off + 2, none⟩ = some (.int .i64 len) ∧ W.cell? ⟨(ad.add (k * 4)).block, (ad.add (k * 4)).off + 3, none⟩ = some (.slice A' n' c')) := hide fun W hW => ⟨(hW.cell (by rw [block_of_add]; exact hadl)).trans e0, (hW.cell (by show (ad.add (k * 4)).block < _; rw [block_of_add]; exact hadl)).trans e1, (hW.cell (by show (ad.add (k * 4)).block < _; rw [block_of_add]; exact hadl)).trans e2, (hW.cell (by show (ad.add (k * 4)).block < _; rw [block_of_add]; exact hadl)).trans e3⟩
      have HTB2 : Hid (∀ W, Below wr.heap.size wr W → Calls Tryd.prog 31 #[.slice A' n' c'] W fun e w' => ∃ A'' c'', e = .returned (.slice A'' n' c'') ∧ Sl secR 3 w' (New wr.heap.size w') A'' n' c'' ims ∧ Below W.heap.size W w') := hide fun W hW => (twims_any A' n' c' ims W (hs.on secR_fine (th hbr hW)) (by have := hxh.1; omega) hxh.2).mono fun e w' ⟨A'', c'', h1, h2, h3⟩ => ⟨A'', c'', h1, h2.new_less secR_fine hW.size, h3⟩
      have HO := hide fun W (hW : Below wr.heap.size wr W) => ho.below txnR_fine hW
      have HLIT : Hid (∀ W A7 c7, Below wr.heap.size wr W → Sl secR 3 W (New wr.heap.size W) A7 n' c7 ims → Sl txnR 4 (W.alloc (.cells #[.int .i64 num, .int .i64 at_, .int .i64 len, .slice A7 n' c7] 40)) (But (W.alloc (.cells #[.int .i64 num, .int .i64 at_, .int .i64 len, .slice A7 n' c7] 40)) w.heap.size (.slice Vs k cs)) (some ⟨W.heap.size, 0, none⟩) 1 1 [⟨num, at_, len, ims⟩]) := hide fun W A7 c7 hW h7 =>
        lit_txnR (x := ⟨num, at_, len, ims⟩) (h7.move secR_fine (fun b hb => (alloc_below W (.cells #[.int .i64 num, .int .i64 at_, .int .i64 len, .slice A7 n' c7] 40)).block b hb.2) (fun y hy => ⟨Nat.le_trans hbr.size hy.1, Nat.lt_of_lt_of_le hy.2 (alloc_below W _).size, fun e => by have h1 := (HLV.out y e.symm).2; have h2 := hy.1; omega⟩)) i1 i2 i3 ⟨Nat.le_trans hbr.size hW.size, by simp, fun e => by have h1 := (HLV.out _ e.symm).2; have h2 := hW.size; omega⟩
      have hcur := Below.refl wr.heap.size wr
      have hsz0 : w.heap.size ≤ wr.heap.size := hbr.size
      clear hx himg hltV hs
      go_wp2_with fail
      go_region_held3 (fun W => W.cell? (ad.add (k * 4)) = some (.int .i64 num) ∧ W.cell? ⟨(ad.add (k * 4)).block, (ad.add (k * 4)).off + 1, none⟩ = some (.int .i64 at_) ∧ W.cell? ⟨(ad.add (k * 4)).block, (ad.add (k * 4)).off + 2, none⟩ = some (.int .i64 len) ∧ W.cell? ⟨(ad.add (k * 4)).block, (ad.add (k * 4)).off + 3, none⟩ = some (.slice A' n' c')) (first | exact HS.out _ (th hbr hcur) | exact HS.out _ (th hbr hcur.drew) | exact HS.out _ (th hbr (bal1 hcur _)) | exact HS.out _ (th hbr (bal1 hcur.drew _)) | exact HS.out _ (th hbr (bal1 hcur _).drew) | exact HS.out _ (th hbr (bal1 hcur.drew _).drew) | exact HS.out _ hb8 | exact HS.out _ hb8.drew) (first
        | (go_at_call 31; (with_reducible refine (HTB2.out _ (by first | exact hcur | exact hcur.drew)).mono ?_); rintro e w7 ⟨A7, c7, rfl, hr7, hz7⟩; have hcur := th (by first | exact hcur | exact hcur.drew) hz7; have hr7d := newdrew secR_fine hr7)
        | (refine step_append_ow _ (by rfl) _ _ _ (by rfl) txnR_fine w.heap.size w.heap.size 40 i0 _ 48 Tryd.underlying31 hi0 hz0 hz1 hz2 rfl (by omega) (.slice Vs k cs) k _ (by rfl) (by first | exact HO.out _ (bal1 hcur _) | exact HO.out _ (bal1 hcur.drew _) | exact HO.out _ (bal1 hcur _).drew | exact HO.out _ (bal1 hcur.drew _).drew) _ _ 1 1 _ (by rfl) (by first | exact HLIT.out _ _ _ hcur hr7 | exact HLIT.out _ _ _ hcur.drew hr7d | exact (HLIT.out _ _ _ hcur hr7).drew txnR_fine | exact (HLIT.out _ _ _ hcur.drew hr7d).drew txnR_fine) (fun _ _ _ h => h) (by simp only [maxLen]; omega) (by omega) (by first | exact Nat.le_trans hsz0 (bal1 hcur _).size | exact Nat.le_trans hsz0 (bal1 hcur.drew _).size | exact Nat.le_trans hsz0 (bal1 hcur _).drew.size | exact Nat.le_trans hsz0 (bal1 hcur.drew _).drew.size) ?_; intro V8 w8 ho8 hg8 hat8; obtain ⟨A8, c8, rfl⟩ := ho8.form; have hb8 : Below w.heap.size w w8 := Below.trans (by first | exact th hbr (bal1 hcur _) | exact th hbr (bal1 hcur.drew _) | exact th hbr (bal1 hcur _).drew | exact th hbr (bal1 hcur.drew _).drew) (below_grown2 hg8 (fun j e => (HLV.out j e).1) (by first | exact Nat.le_trans hsz0 (bal1 hcur _).size | exact Nat.le_trans hsz0 (bal1 hcur.drew _).size | exact Nat.le_trans hsz0 (bal1 hcur _).drew.size | exact Nat.le_trans hsz0 (bal1 hcur.drew _).drew.size))))
      all_goals
        go_wp2_with fail
        rw [← HIM.out] at ho8
        go_roundw
        case rel => first | exact ⟨k + 1, A8, c8, by omega, by go_num, rfl, ho8, hb8⟩ | exact ⟨k + 1, A8, c8, by omega, by go_num, rfl, ho8.drew txnR_fine, hb8.drew⟩
        case measure => simp [RowKit.intOf]; omega
    · obtain rfl : k = n := by omega
      have hr := ho.new_ txnR_fine (Nat.le_refl _) (Nat.le_refl _)
      rw [List.take_of_length_le (by rw [HLEN.out]; exact Nat.le_refl _)] at hr
      have HR := hide hr
      clear hr ho hltV
      go_wp2_with fail
      go_ret
      exact ⟨Vs, cs, rfl, HR.out, hbr⟩

end Go.Proofs.YtdcoholjnlndgaaDoor

namespace Go.Proofs.YtdcoholjnlndgaaDoor
open Go.RowKit
set_option linter.unusedVariables false
set_option maxRecDepth 100000

theorem zip_setT {α β : Type} {L : List α} {t : List β} {k : Nat} {a : α} {o : β} (h : t[k]? = some o) : (L.zip t).set k (a, o) = (L.set k a).zip t := by
  refine List.ext_getElem? fun i => ?_
  by_cases hi : i = k
  · subst hi
    by_cases hl : i < L.length
    · have ht := (List.getElem?_eq_some_iff.1 h).1
      rw [List.getElem?_set_self (by rw [List.length_zip]; omega)]
      exact (List.getElem?_zip_eq_some.2 ⟨List.getElem?_set_self hl, h⟩).symm
    · rw [List.getElem?_eq_none (by simp; omega), List.getElem?_eq_none (by simp; omega)]
  · rw [List.getElem?_set_ne (by omega)]
    unfold List.zip
    rw [List.getElem?_zipWith, List.getElem?_zipWith, List.getElem?_set_ne (by omega)]
theorem TOwn.num {eT eI : TypeId} {w : World} {B n c : Nat} {A : Option Addr} {L : List Txn} (h : TOwn eT eI w B (.slice A n c) n L) {k : Nat} (hk : k < n) : ∃ g x, A = some ⟨g, 0, none⟩ ∧ B ≤ g ∧ g < w.heap.size ∧ L[k]? = some x ∧ InI x.num ∧ w.cell? ⟨g, k * 4 + 0, none⟩ = some (.int .i64 x.num) ∧ w.frozen? ⟨g, k * 4 + 0, none⟩ = false ∧
    ∀ v, InI v → TOwn eT eI (w.setCell ⟨g, k * 4 + 0, none⟩ (.int .i64 v)) B (.slice A n c) n (L.set k { x with num := v }) := by
  obtain ⟨ts, ht, ho, hp, hs⟩ := h
  obtain ⟨g, ⟨x, o⟩, cs, u, rfl, hg, hgl, hy, hr, hu, hcell, hfr, hst⟩ := ho.spotN (txnO_fine eI) hk (show 0 < 4 by omega)
  obtain ⟨hLk, htk⟩ := List.getElem?_zip_eq_some.1 hy
  dsimp only at hLk htk
  obtain ⟨A1, n1, c1, rfl, i1, i2, i3, how, hS⟩ := hr
  dsimp only at i1 i2 i3 how hS
  simp only [List.getElem?_cons_zero] at hu
  injection hu with hu
  subst hu
  refine ⟨g, x, rfl, hg, hgl, hLk, i1, hcell, hfr, fun v hv => ⟨ts, by rw [List.length_set]; exact ht, ?_, hp, fun t h1 => by rw [set_size]; exact hs t h1⟩⟩
  have hfin := hst (.int .i64 v) ({ x with num := v }, o) rfl ⟨A1, n1, c1, rfl, hv, i2, i3, how, hS⟩
  rw [zip_setT htk] at hfin
  exact hfin
theorem TOwn.place {eT eI : TypeId} {w : World} {B n c : Nat} {A : Option Addr} {L : List Txn} (h : TOwn eT eI w B (.slice A n c) n L) {k : Nat} (hk : k < n) : ∃ g x, A = some ⟨g, 0, none⟩ ∧ B ≤ g ∧ g < w.heap.size ∧ L[k]? = some x ∧ InI x.at_ ∧ w.cell? ⟨g, k * 4 + 1, none⟩ = some (.int .i64 x.at_) ∧ w.frozen? ⟨g, k * 4 + 1, none⟩ = false ∧
    ∀ v, InI v → TOwn eT eI (w.setCell ⟨g, k * 4 + 1, none⟩ (.int .i64 v)) B (.slice A n c) n (L.set k { x with at_ := v }) := by
  obtain ⟨ts, ht, ho, hp, hs⟩ := h
  obtain ⟨g, ⟨x, o⟩, cs, u, rfl, hg, hgl, hy, hr, hu, hcell, hfr, hst⟩ := ho.spotN (txnO_fine eI) hk (show 1 < 4 by omega)
  obtain ⟨hLk, htk⟩ := List.getElem?_zip_eq_some.1 hy
  dsimp only at hLk htk
  obtain ⟨A1, n1, c1, rfl, i1, i2, i3, how, hS⟩ := hr
  dsimp only at i1 i2 i3 how hS
  simp only [List.getElem?_cons_zero, List.getElem?_cons_succ] at hu
  injection hu with hu
  subst hu
  refine ⟨g, x, rfl, hg, hgl, hLk, i2, hcell, hfr, fun v hv => ⟨ts, by rw [List.length_set]; exact ht, ?_, hp, fun t h1 => by rw [set_size]; exact hs t h1⟩⟩
  have hfin := hst (.int .i64 v) ({ x with at_ := v }, o) rfl ⟨A1, n1, c1, rfl, i1, hv, i3, how, hS⟩
  rw [zip_setT htk] at hfin
  exact hfin
theorem TOwn.length {eT eI : TypeId} {w : World} {B n c : Nat} {A : Option Addr} {L : List Txn} (h : TOwn eT eI w B (.slice A n c) n L) {k : Nat} (hk : k < n) : ∃ g x, A = some ⟨g, 0, none⟩ ∧ B ≤ g ∧ g < w.heap.size ∧ L[k]? = some x ∧ InI x.len ∧ w.cell? ⟨g, k * 4 + 2, none⟩ = some (.int .i64 x.len) ∧ w.frozen? ⟨g, k * 4 + 2, none⟩ = false ∧
    ∀ v, InI v → TOwn eT eI (w.setCell ⟨g, k * 4 + 2, none⟩ (.int .i64 v)) B (.slice A n c) n (L.set k { x with len := v }) := by
  obtain ⟨ts, ht, ho, hp, hs⟩ := h
  obtain ⟨g, ⟨x, o⟩, cs, u, rfl, hg, hgl, hy, hr, hu, hcell, hfr, hst⟩ := ho.spotN (txnO_fine eI) hk (show 2 < 4 by omega)
  obtain ⟨hLk, htk⟩ := List.getElem?_zip_eq_some.1 hy
  dsimp only at hLk htk
  obtain ⟨A1, n1, c1, rfl, i1, i2, i3, how, hS⟩ := hr
  dsimp only at i1 i2 i3 how hS
  simp only [List.getElem?_cons_zero, List.getElem?_cons_succ] at hu
  injection hu with hu
  subst hu
  refine ⟨g, x, rfl, hg, hgl, hLk, i3, hcell, hfr, fun v hv => ⟨ts, by rw [List.length_set]; exact ht, ?_, hp, fun t h1 => by rw [set_size]; exact hs t h1⟩⟩
  have hfin := hst (.int .i64 v) ({ x with len := v }, o) rfl ⟨A1, n1, c1, rfl, i1, i2, hv, how, hS⟩
  rw [zip_setT htk] at hfin
  exact hfin

/-- Its images taken away. -/
theorem TOwn.bare {eT eI : TypeId} {w : World} {B n c : Nat} {A : Option Addr} {L : List Txn} (h : TOwn eT eI w B (.slice A n c) n L) {k : Nat} (hk : k < n) : ∃ g x u, A = some ⟨g, 0, none⟩ ∧ B ≤ g ∧ g < w.heap.size ∧ L[k]? = some x ∧ w.cell? ⟨g, k * 4 + 3, none⟩ = some u ∧ w.frozen? ⟨g, k * 4 + 3, none⟩ = false ∧
    TOwn eT eI (w.setCell ⟨g, k * 4 + 3, none⟩ (.slice none 0 0)) B (.slice A n c) n (L.set k { x with ims := [] }) := by
  obtain ⟨ts, ht, ho, hp, hs⟩ := h
  obtain ⟨g, ⟨x, o⟩, cs, u, rfl, hg, hgl, hy, hr, hu, hcell, hfr, hst⟩ := ho.spotN (txnO_fine eI) hk (show 3 < 4 by omega)
  obtain ⟨hLk, htk⟩ := List.getElem?_zip_eq_some.1 hy
  dsimp only at hLk htk
  obtain ⟨A1, n1, c1, rfl, i1, i2, i3, ⟨w0, hw0, how, he⟩, hS⟩ := hr
  dsimp only at i1 i2 i3 how hS hw0 he
  refine ⟨g, x, u, rfl, hg, hgl, hLk, hcell, hfr, ⟨ts, by rw [List.length_set]; exact ht, ?_, hp, fun t h1 => by rw [set_size]; exact hs t h1⟩⟩
  have hfin := hst (.slice none 0 0) ({ x with ims := [] }, o) rfl ⟨none, 0, 0, rfl, i1, i2, i3, ⟨w0, hw0, Ow.nil_ _ _ _ _, he⟩, hS⟩
  rw [zip_setT htk] at hfin
  exact hfin
theorem set_blk_same {w w0 : World} {p : Addr} {v : Value} (h : w.heap[p.block]? = w0.heap[p.block]?) : (w.setCell p v).heap[p.block]? = (w0.setCell p v).heap[p.block]? := by
  unfold World.setCell
  dsimp only
  rw [Array.getElem?_modify, Array.getElem?_modify, if_pos rfl, if_pos rfl, h]
/-- Its first image's zone. -/
theorem TOwn.first {eT eI : TypeId} {w : World} {B n c : Nat} {A : Option Addr} {L : List Txn} (h : TOwn eT eI w B (.slice A n c) n L) {k : Nat} (hk : k < n) {x : Txn} (hx : L[k]? = some x) (h0 : 0 < x.ims.length) : ∃ g g' y n' c', A = some ⟨g, 0, none⟩ ∧ B ≤ g' ∧ g' < w.heap.size ∧ x.ims[0]? = some y ∧ x.ims.length = n' ∧ w.cell? ⟨g, k * 4 + 3, none⟩ = some (.slice (some ⟨g', 0, none⟩) n' c') ∧ w.cell? ⟨g', 0, none⟩ = some (.int .i64 y.addr) ∧ w.frozen? ⟨g', 0, none⟩ = false ∧
    ∀ v, InI v → TOwn eT eI (w.setCell ⟨g', 0, none⟩ (.int .i64 v)) B (.slice A n c) n (L.set k { x with ims := x.ims.set 0 { y with addr := v } }) := by
  obtain ⟨ts, ht, ho, hp, hs⟩ := h
  obtain ⟨g, ⟨x', o⟩, cs, u, rfl, hg, hgl, hy, hr, hu, hcell, hfr, hst⟩ := ho.spotN (txnO_fine eI) hk (show 3 < 4 by omega)
  obtain ⟨hLk, htk⟩ := List.getElem?_zip_eq_some.1 hy
  dsimp only at hLk htk
  obtain rfl : x' = x := by rw [hx] at hLk; injection hLk with h; exact h.symm
  obtain ⟨A1, n1, c1, rfl, i1, i2, i3, ⟨w0, hw0, how, he⟩, hS⟩ := hr
  dsimp only at i1 i2 i3 how hS hw0 he
  simp only [List.getElem?_cons_zero, List.getElem?_cons_succ] at hu
  injection hu with hu
  subst hu
  obtain ⟨g', y, cs', u', rfl, hg', hgl', hy', hr', hu', hcell', hfr', hst'⟩ := how.spotN secR_fine (show 0 < n1 by have := how.len; omega) (show 0 < 3 by omega)
  obtain ⟨A2, n2, c2, rfl, j1, j2, hsl⟩ := hr'
  simp only [List.getElem?_cons_zero] at hu'
  injection hu' with hu'
  subst hu'
  simp only [Nat.zero_mul, Nat.add_zero] at hcell' hfr' hst'
  have hin : o.1 ≤ g' ∧ g' < o.2 := ⟨hg', by omega⟩
  have hSg := hS g' hin.1 hin.2
  have hblk := he g' hin.1 hin.2
  have hgg : g' ≠ g := fun e => hSg.2.2 (by rw [e]; rfl)
  refine ⟨g, g', y, n1, c1, rfl, hSg.1, hSg.2.1, hy', how.len, hcell, (World.cell?_of_block (a := ⟨g', 0, none⟩) hblk).trans hcell', ?_, fun v hv => ⟨ts, by rw [List.length_set]; exact ht, ?_, hp, fun t h1 => by rw [set_size]; exact hs t h1⟩⟩
  · have e1 : w.frozen? ⟨g', 0, none⟩ = w0.frozen? ⟨g', 0, none⟩ := by
      unfold World.frozen?
      dsimp only
      rw [hblk]
    rw [e1]
    exact hfr'
  · have hnew := hst' (.int .i64 v) { y with addr := v } rfl ⟨A2, n2, c2, rfl, hv, j2, hsl⟩
    obtain ⟨hl, xs, hxs, h1, hel⟩ := ho
    have hlt : k < L.length := (List.getElem?_eq_some_iff.1 hx).1
    refine ⟨by rw [List.length_zip, List.length_set]; rw [List.length_zip] at hl; exact hl, xs, hxs.kept (put_grown w ⟨g', 0, none⟩ (.int .i64 v)) (.inr fun e => by have h : some g = some g' := e; injection h with h; exact hgg h.symm), h1, fun i z hi => ?_⟩
    obtain ⟨z, oz⟩ := z
    rw [List.getElem?_zip_eq_some] at hi
    obtain ⟨hzi, hti⟩ := hi
    dsimp only at hzi hti
    by_cases hik : i = k
    · subst hik
      rw [List.getElem?_set_self hlt] at hzi
      injection hzi with hzi
      subst hzi
      rw [htk] at hti
      injection hti with hti
      subst hti
      obtain ⟨A3, n3, c3, e3, _, _, _, _, hS3⟩ := hel i (x', o) (List.getElem?_zip_eq_some.2 ⟨hx, htk⟩)
      have hc3 := hxs.cellAt (g := g) (i * 4 + 3) (by omega)
      have hw3 : xs[i * 4 + 3]? = some (.slice A3 n3 c3) := by
        have := congrArg (fun l => l[3]?) e3
        simp only [List.getElem?_cons_zero, List.getElem?_cons_succ] at this
        rw [List.getElem?_take, if_pos (by omega), List.getElem?_drop] at this
        exact this
      have hsame : (some (Value.slice A3 n3 c3)) = some (.slice (some ⟨g', 0, none⟩) n1 c1) := by
        rw [← hw3]
        exact hc3.symm.trans hcell
      injection hsame with hsame
      rw [hsame] at e3
      refine ⟨some ⟨g', 0, none⟩, n1, c1, e3, i1, i2, i3, ⟨w0.setCell ⟨g', 0, none⟩ (.int .i64 v), by rw [set_size]; exact hw0, hnew, fun b hb1 hb2 => ?_⟩, fun b hb1 hb2 => ?_⟩
      · by_cases e : b = g'
        · subst e
          exact set_blk_same (p := ⟨b, 0, none⟩) hblk
        · rw [put_blk _ _ _ _ e, put_blk _ _ _ _ e]
          exact he b hb1 hb2
      · have := hS b hb1 hb2
        exact ⟨this.1, by rw [set_size]; exact this.2.1, this.2.2⟩
    · rw [List.getElem?_set_ne (by omega)] at hzi
      obtain ⟨A3, n3, c3, e3, k1, k2, k3, ⟨w3, hw3, how3, he3⟩, hS3⟩ := hel i (z, oz) (List.getElem?_zip_eq_some.2 ⟨hzi, hti⟩)
      dsimp only at k1 k2 k3 hw3 how3 he3 hS3
      refine ⟨A3, n3, c3, e3, k1, k2, k3, ⟨w3, hw3, how3, fun b hb1 hb2 => ?_⟩, fun b hb1 hb2 => ?_⟩
      · refine (put_blk _ _ _ _ (fun e => ?_)).trans (he3 b hb1 hb2)
        obtain ⟨a1, e1⟩ := List.getElem?_eq_some_iff.1 hti
        obtain ⟨a2, e2⟩ := List.getElem?_eq_some_iff.1 htk
        have hpw := List.pairwise_iff_getElem.1 hp
        have hbg : b = g' := e
        dsimp only at hb1 hb2
        rcases Nat.lt_or_gt_of_ne hik with hlt | hlt
        · have := hpw i k a1 a2 hlt
          rw [e1, e2] at this
          omega
        · have := hpw k i a2 a1 hlt
          rw [e1, e2] at this
          omega
      · have := hS3 b hb1 hb2
        exact ⟨this.1, by rw [set_size]; exact this.2.1, this.2.2⟩

theorem log_bent {g : Geo} {P Q R : Int} {L : List Txn} {t t' : Txn} {i : Nat} (hP : 0 ≤ P ∧ P < g.slots) (h : LogOk g P Q R L) (hi : L[i]? = some t) (hbad : ∀ P' Q' R', TxnOk g P' Q' R' t → ¬ TxnOk g P' Q' R' t') : ¬ LogOk g P Q R (L.set i t') := fun h2 => by
  have h3 := log_at hP h hi
  have hil := (List.getElem?_eq_some_iff.1 hi).1
  have h4 := log_at (t := t') (k := i) hP h2 (List.getElem?_set_self hil)
  rw [List.take_set_of_le (Nat.le_refl _)] at h4
  exact hbad _ _ _ h3 h4

end Go.Proofs.YtdcoholjnlndgaaDoor

namespace Go.Proofs.YtdcoholjnlndgaaDoor
open Go.RowKit
set_option linter.unusedVariables false
set_option maxRecDepth 100000

set_option maxHeartbeats 6000000 in
theorem walk_ringBent {w : World} (hT : Tabs w) (g : Geo) (a : Anc) (A : Option Addr) (n c : Nat) (hs : Sl homR 3 w (Old w) A n c a.homes) (hin : a.In) (B : Option Addr) (ns cs : Nat) (Z : List Int) (hz : Is w B ns cs Z) (i how : Int) :
    Calls Tryd.prog 5 #[g.v, a.v (.slice A n c), .slice B ns cs, .int .i64 i, .int .i64 how] w fun e w' => e = .returned (.bool true) ∧ Below w.heap.size w w' := by
  have hhv := fun w ha => heavya_any a A n c w ha
  have hge := fun w => rgeo_any g w
  have han := fun hG w ha hl => ranchor_any g hG a A n c w ha hin hl
  obtain ⟨bH, hbH⟩ : ∃ b, b = heavyA a := ⟨_, rfl⟩
  obtain ⟨bG, hbG⟩ : ∃ b, b = decide (GeoOk g) := ⟨_, rfl⟩
  obtain ⟨bA, hbA⟩ : ∃ b, b = decide (AncOk g a) := ⟨_, rfl⟩
  rw [← hbH] at hhv
  rw [← hbG] at hge
  rw [← hbA] at han
  have HBH := hide hbH
  have HBG := hide hbG
  have HBA := hide hbA
  clear hbH hbG hbA
  have HIN := hide hin
  obtain ⟨gen, epoch, pos, seq, last, label, homes⟩ := a
  obtain ⟨z, d, s, sl, an⟩ := g
  unfold Geo.v Anc.v at *
  dsimp only at *
  obtain ⟨W0, hW0⟩ : ∃ W0, W0 = (w.alloc (.cells #[.int .i64 z, .int .i64 d, .int .i64 s, .int .i64 sl, .int .i64 an] 23)).alloc (.cells #[.int .i64 gen, .int .i64 epoch, .int .i64 pos, .int .i64 seq, .int .i64 last, .string label, .slice A n c] 26) := ⟨_, rfl⟩
  have hS0 : (w.alloc (.cells #[.int .i64 z, .int .i64 d, .int .i64 s, .int .i64 sl, .int .i64 an] 23)).heap.size = w.heap.size + 1 := by simp
  have hb0 : Below w.heap.size w W0 := by rw [hW0]; exact (alloc_below w _).alloc (by simp) _
  have hgb : GeoAt W0 w.heap.size ⟨z, d, s, sl, an⟩ := by rw [hW0]; exact (GeoAt.new w ⟨z, d, s, sl, an⟩ 23).on (alloc_below _ _)
  have hsv : ∀ W, Below W0.heap.size W0 W → Sev W (w.heap.size + 1) (.int .i64 gen) (.int .i64 epoch) (.int .i64 pos) (.int .i64 seq) (.int .i64 last) (.string label) (.slice A n c) := fun W hW => by
    subst hW0
    exact Sev.new hS0 hW
  have HCE := hide (fun W (hW : Below W0.heap.size W0 W) => And.intro (hgb.on hW).2 (hsv W hW))
  dsimp only at HCE
  have hs0 := hs.on homR_fine hb0
  have HHV := hide (hhv W0 hs0)
  have HGE := hide hge
  have HAN := hide (fun hG W (hW : Below W0.heap.size W0 W) hl => han hG W (hs0.on homR_fine hW) hl)
  have hz0 := hz.on intR_fine hb0
  clear hS0 hgb hsv hhv hge han hs hz hin
  cases bH with
  | true =>
    go_enter Tryd.func5, Tryd.ntmps5
    go_wp2_with fail
    rw [← hW0]
    clear hW0
    (with_reducible refine HHV.out.mono ?_)
    rintro e w1 ⟨rfl, hb1⟩
    obtain ⟨⟨p0, p1, p2, p3, p4⟩, q0, q1, q2, q3, q4, q5, q6⟩ := HCE.out _ hb1
    go_wp2_with fail
    go_ret
    exact ⟨rfl, th hb0 hb1⟩
  | false =>
    obtain ⟨l1, l2, l3⟩ := heavyA_no HBH.out.symm
    dsimp only at l1 l2 l3
    have hlt : Light ⟨gen, epoch, pos, seq, last, label, homes⟩ := ⟨by show label.size ≤ 60000; omega, by show homes.length ≤ 6000; omega, fun h hm => by have := l3 h hm; omega⟩
    by_cases h40 : ns ≤ 40
    · have hn40 : ¬ (40 : Int) < (ns : Int) := by omega
      have d40 : decide ((40 : Int) < (ns : Int)) = false := decide_eq_false hn40
      cases bG with
      | false =>
        go_enter Tryd.func5, Tryd.ntmps5
        go_wp2_with fail
        rw [← hW0]
        clear hW0
        (with_reducible refine HHV.out.mono ?_)
        rintro e w1 ⟨rfl, hb1⟩
        obtain ⟨⟨p0, p1, p2, p3, p4⟩, q0, q1, q2, q3, q4, q5, q6⟩ := HCE.out _ hb1
        go_wp2_with fail
        (with_reducible refine (HGE.out _).mono ?_)
        rintro e w2 ⟨rfl, hb2⟩
        have hb02 := th hb1 hb2
        obtain ⟨⟨p0, p1, p2, p3, p4⟩, q0, q1, q2, q3, q4, q5, q6⟩ := HCE.out _ hb02
        go_wp2_with fail
        go_ret
        exact ⟨rfl, th hb0 hb02⟩
      | true =>
        have hG : GeoOk ⟨z, d, s, sl, an⟩ := of_decide_eq_true HBG.out.symm
        cases bA with
        | false =>
          go_enter Tryd.func5, Tryd.ntmps5
          go_wp2_with fail
          rw [← hW0]
          clear hW0
          (with_reducible refine HHV.out.mono ?_)
          rintro e w1 ⟨rfl, hb1⟩
          obtain ⟨⟨p0, p1, p2, p3, p4⟩, q0, q1, q2, q3, q4, q5, q6⟩ := HCE.out _ hb1
          go_wp2_with fail
          (with_reducible refine (HGE.out _).mono ?_)
          rintro e w2 ⟨rfl, hb2⟩
          have hb02 := th hb1 hb2
          obtain ⟨⟨p0, p1, p2, p3, p4⟩, q0, q1, q2, q3, q4, q5, q6⟩ := HCE.out _ hb02
          go_wp2_with fail
          (with_reducible refine (HAN.out hG _ hb02 hlt).mono ?_)
          rintro e w3 ⟨rfl, hb3⟩
          have hb03 := th hb02 hb3
          obtain ⟨⟨p0, p1, p2, p3, p4⟩, q0, q1, q2, q3, q4, q5, q6⟩ := HCE.out _ hb03
          go_wp2_with fail
          go_ret
          exact ⟨rfl, th hb0 hb03⟩
        | true =>
          have hA : AncOk ⟨z, d, s, sl, an⟩ ⟨gen, epoch, pos, seq, last, label, homes⟩ := of_decide_eq_true HBA.out.symm
          by_cases hq6 : seq ≤ 1000000
          · have hnq : ¬ (1000000 : Int) < seq := by omega
            have dq : decide ((1000000 : Int) < seq) = false := decide_eq_false hnq
            have hsl : 14 ≤ sl ∧ sl ≤ 30 := hG.2.2.2.1
            have hpo : 0 ≤ pos ∧ pos ≤ sl - 1 := hA.1.2.2.2.2.2.2
            have hse : 1 ≤ seq := hA.1.2.2.2.2.1
            obtain ⟨hsl1, hsl2⟩ := hsl
            obtain ⟨hpo1, hpo2⟩ := hpo
            have hlog := fun W (hW : Below W0.heap.size W0 W) => log_any ⟨z, d, s, sl, an⟩ hG ⟨gen, epoch, pos, seq, last, label, homes⟩ A n c B ns cs Z 1 W ⟨hpo1, by show pos < sl; omega⟩ ⟨hse, hq6⟩ (hz0.on intR_fine hW) h40
            unfold LogPost Geo.v Anc.v at hlog
            dsimp only at hlog
            have h1b : (((1 : UInt8).toNat : Nat) : Int) = 1 := rfl
            simp only [h1b] at hlog
            have HLOG := hide hlog
            have HG := hide hG
            have HA := hide hA
            clear hlog h1b
            go_enter Tryd.func5, Tryd.ntmps5
            go_wp2_with fail
            rw [← hW0]
            clear hW0
            (with_reducible refine HHV.out.mono ?_)
            rintro e w1 ⟨rfl, hb1⟩
            obtain ⟨⟨p0, p1, p2, p3, p4⟩, q0, q1, q2, q3, q4, q5, q6⟩ := HCE.out _ hb1
            go_wp2_with fail
            (with_reducible refine (HGE.out _).mono ?_)
            rintro e w2 ⟨rfl, hb2⟩
            have hb02 := th hb1 hb2
            obtain ⟨⟨p0, p1, p2, p3, p4⟩, q0, q1, q2, q3, q4, q5, q6⟩ := HCE.out _ hb02
            go_wp2_with fail
            (with_reducible refine (HAN.out hG _ hb02 hlt).mono ?_)
            rintro e w3 ⟨rfl, hb3⟩
            have hb03 := th hb02 hb3
            obtain ⟨⟨p0, p1, p2, p3, p4⟩, q0, q1, q2, q3, q4, q5, q6⟩ := HCE.out _ hb03
            go_wp2_with fail
            (with_reducible refine (HLOG.out _ hb03).mono ?_)
            rintro e w4 ⟨hb4, AL, m, cL, L, rfl, hTO, hlk, hlens, hsm⟩
            have hb04 := th hb03 hb4
            have hsz3 := hb03.size
            have hL4 := (hTO.read).old_ txnR_fine
            have hml := hL4.len
            have hls := log_sum (show sl ≤ 30 from hsl2) hlk
            have hm15 : 2 * (m : Int) ≤ 30 := by
              rcases hls.2.1 with h | h
              · rw [← hml, h]; simp
              · have := hls.2.2; omega
            by_cases hm0 : m = 0
            · have e1 : ((m : Int) == 0) = true := by simpa using hm0
              have HW := hide (wakes16 w4 (hT.below (th hb0 hb04)))
              clear hm0 hls hml hL4 hTO hlk hlens hsm
              go_wp2_with fail
              (with_reducible refine HW.out.mono ?_)
              rintro e w5 ⟨rfl, hb5⟩
              go_wp2_with fail
              go_ret
              exact ⟨rfl, th hb0 (th hb04 hb5)⟩
            · have e1 : ((m : Int) == 0) = false := by simpa using hm0
              obtain ⟨I, hI, hIm⟩ := um_is i m (by omega) (by omega)
              obtain ⟨r1, r2⟩ := um_rawR hI (by omega) (by omega)
              have hmU : IntKind.u64.wrap (m : Int) = (m : Int) := by rw [IntKind.wrap_u64]; omega
              have hm00 : ¬ (m : Int) = 0 := by omega
              obtain ⟨g, x, rfl, hgB, hgl, hx, _, _, _, _⟩ := hTO.num hIm
              have htx := log_at (show 0 ≤ pos ∧ pos < sl from ⟨hpo1, by omega⟩) hlk hx
              have hsm2 : ∀ t ∈ L, t.ims.length ≤ 6000 ∧ ∀ x ∈ t.ims, x.load.length ≤ 6000 := fun t ht => ⟨by have := (hsm t ht).1; omega, fun x hx => by have := (hsm t ht).2 x hx; omega⟩
              obtain ⟨num, at_, len, ims⟩ := x
              obtain ⟨b1, b2, b3, b4, b5, b6, _⟩ := htx
              dsimp only at b1 b2 b3 b4 b5 b6
              have hat0 : 0 ≤ at_ := by rw [b3]; exact Int.emod_nonneg _ (by omega)
              have hat1 : at_ < sl := by rw [b3]; exact Int.emod_lt_of_pos _ (by omega)
              have hnum0 : 1 ≤ num := by omega
              have hil : 1 ≤ ims.length := by omega
              have hlen1 : len ≤ 30 := by
                have := hls.2.2
                have h9 := (hsm _ (List.mem_of_getElem? hx)).1
                dsimp only at h9
                omega
              have hlen0 : 2 ≤ len := b4
              clear b1 b3 b5 b6
              have htw := fun W (hW : Below w4.heap.size w4 W) => twtx_any (some ⟨g, 0, none⟩) m cL L W (hL4.on txnR_fine hW) (by omega) hsm2
              have hck := fun W A' c' (hW : Below w4.heap.size w4 W) (hr : Sl txnR 4 W (Old W) A' m c' L) => rcheck_any ⟨z, d, s, sl, an⟩ ⟨gen, epoch, pos, seq, last, label, homes⟩ A n c A' m c' L W (hT.below (th hb0 (th hb04 hW))) (hs0.on homR_fine (th hb04 hW)) HIN.out hlt hr (by omega) hsm2 0 (fun _ => rfl) (fun h => absurd ⟨HG.out, HA.out, hlk⟩ h)
              unfold Geo.v Anc.v at hck
              dsimp only at hck
              have HTW := hide htw
              have HCK := hide hck
              have HTO := hide hTO
              have HX := hide hx
              have HLK := hide hlk
              have HSM := hide hsm2
              obtain ⟨Rh, hRh, hR5⟩ := um_is how 5 (by omega) (by omega)
              obtain ⟨s1, s2⟩ := um_rawR (n := 5) (show um how 5 = (Rh : Int) from hRh) (by omega) (by omega)
              have hcur := Below.refl w4.heap.size w4
              obtain ⟨⟨p0, p1, p2, p3, p4⟩, q0, q1, q2, q3, q4, q5, q6⟩ := HCE.out _ hb04
              have hI1 : (0 : Int) ≤ (I : Int) := by omega
              have hI2 : (I : Int) < (m : Int) := by omega
              have S1H := hide s1
              have S2H := hide s2
              clear hI hRh hm0 hls hml hL4 hTO hlk hlens hsm hsm2 htw hck hx s1 s2
              go_wp2_with fail
              go_upto_region 7 with fail
              go_cut [58] (fun v wc => v = .bool false ∧ Below w4.heap.size w4 wc)
              case first =>
                go_region_held3 (fun W => (W.cell? ⟨w.heap.size, 0, none⟩ = some (.int .i64 z) ∧ W.cell? ⟨w.heap.size, 1, none⟩ = some (.int .i64 d) ∧ W.cell? ⟨w.heap.size, 2, none⟩ = some (.int .i64 s) ∧ W.cell? ⟨w.heap.size, 3, none⟩ = some (.int .i64 sl) ∧ W.cell? ⟨w.heap.size, 4, none⟩ = some (.int .i64 an)) ∧ W.cell? ⟨w.heap.size + 1, 0, none⟩ = some (.int .i64 gen) ∧ W.cell? ⟨w.heap.size + 1, 1, none⟩ = some (.int .i64 epoch) ∧ W.cell? ⟨w.heap.size + 1, 2, none⟩ = some (.int .i64 pos) ∧ W.cell? ⟨w.heap.size + 1, 3, none⟩ = some (.int .i64 seq) ∧ W.cell? ⟨w.heap.size + 1, 4, none⟩ = some (.int .i64 last) ∧ W.cell? ⟨w.heap.size + 1, 5, none⟩ = some (.string label) ∧ W.cell? ⟨w.heap.size + 1, 6, none⟩ = some (.slice A n c)) (first | exact HCE.out _ (th hb04 hcur) | exact HCE.out _ (th hb04 hcur.drew)) (first
                  | (go_at_call 17; (with_reducible refine (HTW.out _ (by first | exact hcur | exact hcur.drew)).mono ?_); rintro e wA ⟨A5, c5, rfl, hs5, hz5⟩; have hcur := th (by first | exact hcur | exact hcur.drew) hz5; have hs5 := hs5.old_ txnR_fine)
                  | (go_at_call 10; (with_reducible refine (HCK.out _ _ _ (by first | exact hcur | exact hcur.drew) (by first | exact hs5 | exact hs5.on txnR_fine (Below.refl _ _).drew)).mono ?_); rintro e wB ⟨rfl, hz6⟩; have hcur := th (by first | exact hcur | exact hcur.drew) hz6))
                all_goals (go_wp2_with fail; go_meet; exact ⟨rfl, by first | exact hcur | exact hcur.drew⟩)
              case rest =>
                obtain ⟨rfl, hb8⟩ := hcut
                obtain ⟨w8, rfl⟩ : ∃ w8 : World, w8 = wc := ⟨_, rfl⟩
                have s1 := S1H.out
                have s2 := S2H.out
                have h5 : Rh = 0 ∨ Rh = 1 ∨ Rh = 2 ∨ Rh = 3 ∨ Rh = 4 := by omega
                clear S1H S2H HTW HCK hcur
                rcases h5 with rfl | rfl | rfl | rfl | rfl
                · have s1' : (IntKind.u64.wrap how).tmod 5 = 0 := s1
                  have s2' : IntKind.u64.wrap how % 5 = 0 := s2
                  clear s1 s2
                  obtain ⟨g2, x2, eg, hgB2, hgl2, hx2, _, hc, hf, hput⟩ := (HTO.out.below hb8).num hIm
                  obtain rfl : g = g2 := by injection eg with eg; injection eg
                  obtain rfl : (⟨num, at_, len, ims⟩ : Txn) = x2 := by rw [HX.out] at hx2; injection hx2
                  dsimp only at hc hput
                  have hput9 := hput (num + 1) ⟨by omega, by omega⟩
                  obtain ⟨W9, hW9⟩ : ∃ W9, W9 = w8.setCell ⟨g, I * 4, none⟩ (.int .i64 (num + 1)) := ⟨_, rfl⟩
                  have hL9 : Sl txnR 4 W9 (Old W9) (some ⟨g, 0, none⟩) m cL (L.set I ⟨num + 1, at_, len, ims⟩) := by rw [hW9]; exact (hput9.read).old_ txnR_fine
                  have hbad : ¬ LogOk ⟨z, d, s, sl, an⟩ pos seq sl (L.set I ⟨num + 1, at_, len, ims⟩) := log_bent ⟨hpo1, by show pos < sl; omega⟩ HLK.out HX.out (fun P' Q' R' h h2 => by
                    have h3 : num = Q' := h.1
                    have h4 : num + 1 = Q' := h2.1
                    omega)
                  have hsm9 : ∀ t ∈ L.set I ⟨num + 1, at_, len, ims⟩, t.ims.length ≤ 6000 ∧ ∀ x ∈ t.ims, x.load.length ≤ 6000 := fun t ht => by
                    rcases List.mem_or_eq_of_mem_set ht with ht | rfl
                    · exact HSM.out t ht
                    · have h := HSM.out _ (List.mem_of_getElem? HX.out)
                      exact h
                  have hB9 : Below W0.heap.size W0 W9 := by rw [hW9]; exact ((th hb04 hb8).setCell (by show W0.heap.size ≤ g; omega) _)
                  have hc' : w8.cell? ⟨g, I * 4, none⟩ = some (.int .i64 num) := hc
                  have hf' : w8.frozen? ⟨g, I * 4, none⟩ = false := hf
                  have HCB := hide (rcheck_any ⟨z, d, s, sl, an⟩ ⟨gen, epoch, pos, seq, last, label, homes⟩ A n c (some ⟨g, 0, none⟩) m cL _ W9 (hT.below (th hb0 (hB9.trans (Below.refl _ _)))) (hs0.on homR_fine hB9) HIN.out hlt hL9 (by omega) hsm9 1 (fun h => absurd h.2.2 hbad) (fun _ => rfl))
                  unfold Geo.v Anc.v at HCB
                  dsimp only at HCB
                  have HC9 := HCE.out _ hB9
                  rw [hW9] at HC9
                  obtain ⟨⟨p0, p1, p2, p3, p4⟩, q0, q1, q2, q3, q4, q5, q6⟩ := HC9
                  have HW9 := hide hW9
                  have HB9 := hide hB9
                  clear hL9 hbad hsm9 hW9 hB9 hput9 hput hc hf hx2 eg
                  go_wp2_with fail
                  rw [← HW9.out]
                  (with_reducible refine HCB.out.mono ?_)
                  rintro e w10 ⟨rfl, hb10⟩
                  go_wp2_with fail
                  (with_reducible refine (wakes16 _ (hT.below (th hb0 (th HB9.out hb10)))).mono ?_)
                  rintro e w11 ⟨rfl, hb11⟩
                  go_wp2_with fail
                  go_ret
                  exact ⟨rfl, th hb0 (th HB9.out (th hb10 hb11))⟩
                · have s1' : (IntKind.u64.wrap how).tmod 5 = 1 := s1
                  have s2' : IntKind.u64.wrap how % 5 = 1 := s2
                  clear s1 s2
                  obtain ⟨N1, hN1⟩ : ∃ N1, N1 = (at_ + 1) % sl := ⟨_, rfl⟩
                  have hn0 : 0 ≤ N1 := by rw [hN1]; exact Int.emod_nonneg _ (by omega)
                  have hn1 : N1 < sl := by rw [hN1]; exact Int.emod_lt_of_pos _ (by omega)
                  have hne : N1 ≠ at_ := fun e => by
                    rw [hN1] at e
                    by_cases h : at_ + 1 < sl
                    · rw [Int.emod_eq_of_lt (by omega) h] at e
                      omega
                    · have h5 : at_ + 1 = sl := by omega
                      rw [h5, Int.emod_self] at e
                      omega
                  have t1 : (at_ + 1) % sl = N1 := hN1.symm
                  have t2 : (at_ + 1).tmod sl = N1 := by rw [Int.tmod_eq_emod_of_nonneg (by omega), hN1]
                  have t3 : IntKind.i64.wrap (at_ + 1) = at_ + 1 := IntWalk.i64_in _ ⟨by omega, by omega⟩
                  have hsl0 : ¬ sl = 0 := by omega
                  clear hN1
                  obtain ⟨g2, x2, eg, hgB2, hgl2, hx2, _, hc, hf, hput⟩ := (HTO.out.below hb8).place hIm
                  obtain rfl : g = g2 := by injection eg with eg; injection eg
                  obtain rfl : (⟨num, at_, len, ims⟩ : Txn) = x2 := by rw [HX.out] at hx2; injection hx2
                  dsimp only at hc hput
                  have hput9 := hput (N1) ⟨by omega, by omega⟩
                  obtain ⟨W9, hW9⟩ : ∃ W9, W9 = w8.setCell ⟨g, I * 4 + 1, none⟩ (.int .i64 (N1)) := ⟨_, rfl⟩
                  have hL9 : Sl txnR 4 W9 (Old W9) (some ⟨g, 0, none⟩) m cL (L.set I ⟨num, N1, len, ims⟩) := by rw [hW9]; exact (hput9.read).old_ txnR_fine
                  have hbad : ¬ LogOk ⟨z, d, s, sl, an⟩ pos seq sl (L.set I ⟨num, N1, len, ims⟩) := log_bent ⟨hpo1, by show pos < sl; omega⟩ HLK.out HX.out (fun P' Q' R' h h2 => by
                    have h3 : at_ = P' := h.2.2.1
                    have h4 : N1 = P' := h2.2.2.1
                    exact hne (by omega))
                  have hsm9 : ∀ t ∈ L.set I ⟨num, N1, len, ims⟩, t.ims.length ≤ 6000 ∧ ∀ x ∈ t.ims, x.load.length ≤ 6000 := fun t ht => by
                    rcases List.mem_or_eq_of_mem_set ht with ht | rfl
                    · exact HSM.out t ht
                    · have h := HSM.out _ (List.mem_of_getElem? HX.out)
                      exact h
                  have hB9 : Below W0.heap.size W0 W9 := by rw [hW9]; exact ((th hb04 hb8).setCell (by show W0.heap.size ≤ g; omega) _)
                  have hc' : w8.cell? ⟨g, I * 4 + 1, none⟩ = some (.int .i64 at_) := hc
                  have hf' : w8.frozen? ⟨g, I * 4 + 1, none⟩ = false := hf
                  obtain ⟨⟨y0, y1, y2, y3, y4⟩, _⟩ := HCE.out _ (th hb04 hb8)
                  subst hW9
                  have HL9 := hide hL9
                  have HB9 := hide hB9
                  have HBAD := hide hbad
                  have HSM9 := hide hsm9
                  have HCB : Hid (∀ W, Sl txnR 4 W (Old W) (some ⟨g, 0, none⟩) m cL (L.set I ⟨num, N1, len, ims⟩) → Below W0.heap.size W0 W → Calls Tryd.prog 10 #[.agg #[.int .i64 z, .int .i64 d, .int .i64 s, .int .i64 sl, .int .i64 an], .agg #[.int .i64 gen, .int .i64 epoch, .int .i64 pos, .int .i64 seq, .int .i64 last, .string label, .slice A n c], .slice (some ⟨g, 0, none⟩) m cL] W fun e w' => e = .returned (.int .i64 1) ∧ Below W.heap.size W w') := hide fun W h1 h2 => by
                    have h := rcheck_any ⟨z, d, s, sl, an⟩ ⟨gen, epoch, pos, seq, last, label, homes⟩ A n c (some ⟨g, 0, none⟩) m cL _ W (hT.below (th hb0 h2)) (hs0.on homR_fine h2) HIN.out hlt h1 (by omega) HSM9.out 1 (fun h => absurd h.2.2 HBAD.out) (fun _ => rfl)
                    unfold Geo.v Anc.v at h
                    dsimp only at h
                    exact h
                  obtain ⟨⟨p0, p1, p2, p3, p4⟩, q0, q1, q2, q3, q4, q5, q6⟩ := HCE.out _ hB9
                  clear hL9 hB9 hbad hsm9 hput9 hput hc hf hx2 eg
                  go_wp2_with fail
                  go_region
                  all_goals
                    go_wp2_with fail
                    first
                      | (with_reducible refine (HCB.out _ HL9.out HB9.out).mono ?_)
                      | (with_reducible refine (HCB.out _ (HL9.out.on txnR_fine (Below.refl _ _).drew) (HB9.out.trans (Below.refl _ _).drew)).mono ?_)
                    rintro e w10 ⟨rfl, hb10⟩
                    have hbX := th (by first | exact HB9.out | exact HB9.out.trans (Below.refl _ _).drew) hb10
                    go_wp2_with fail
                    (with_reducible refine (wakes16 _ (hT.below (th hb0 hbX))).mono ?_)
                    rintro e w11 ⟨rfl, hb11⟩
                    go_wp2_with fail
                    go_ret
                    exact ⟨rfl, th hb0 (th hbX hb11)⟩
                · have s1' : (IntKind.u64.wrap how).tmod 5 = 2 := s1
                  have s2' : IntKind.u64.wrap how % 5 = 2 := s2
                  clear s1 s2
                  obtain ⟨g2, x2, eg, hgB2, hgl2, hx2, _, hc, hf, hput⟩ := (HTO.out.below hb8).length hIm
                  obtain rfl : g = g2 := by injection eg with eg; injection eg
                  obtain rfl : (⟨num, at_, len, ims⟩ : Txn) = x2 := by rw [HX.out] at hx2; injection hx2
                  dsimp only at hc hput
                  have hput9 := hput (len + 1) ⟨by omega, by omega⟩
                  obtain ⟨W9, hW9⟩ : ∃ W9, W9 = w8.setCell ⟨g, I * 4 + 2, none⟩ (.int .i64 (len + 1)) := ⟨_, rfl⟩
                  have hL9 : Sl txnR 4 W9 (Old W9) (some ⟨g, 0, none⟩) m cL (L.set I ⟨num, at_, len + 1, ims⟩) := by rw [hW9]; exact (hput9.read).old_ txnR_fine
                  have hbad : ¬ LogOk ⟨z, d, s, sl, an⟩ pos seq sl (L.set I ⟨num, at_, len + 1, ims⟩) := log_bent ⟨hpo1, by show pos < sl; omega⟩ HLK.out HX.out (fun P' Q' R' h h2 => by
                    have h3 : len = (ims.length : Int) + 1 := h.2.2.2.2.2.1
                    have h4 : len + 1 = (ims.length : Int) + 1 := h2.2.2.2.2.2.1
                    omega)
                  have hsm9 : ∀ t ∈ L.set I ⟨num, at_, len + 1, ims⟩, t.ims.length ≤ 6000 ∧ ∀ x ∈ t.ims, x.load.length ≤ 6000 := fun t ht => by
                    rcases List.mem_or_eq_of_mem_set ht with ht | rfl
                    · exact HSM.out t ht
                    · have h := HSM.out _ (List.mem_of_getElem? HX.out)
                      exact h
                  have hB9 : Below W0.heap.size W0 W9 := by rw [hW9]; exact ((th hb04 hb8).setCell (by show W0.heap.size ≤ g; omega) _)
                  have hc' : w8.cell? ⟨g, I * 4 + 2, none⟩ = some (.int .i64 len) := hc
                  have hf' : w8.frozen? ⟨g, I * 4 + 2, none⟩ = false := hf
                  have HCB := hide (rcheck_any ⟨z, d, s, sl, an⟩ ⟨gen, epoch, pos, seq, last, label, homes⟩ A n c (some ⟨g, 0, none⟩) m cL _ W9 (hT.below (th hb0 (hB9.trans (Below.refl _ _)))) (hs0.on homR_fine hB9) HIN.out hlt hL9 (by omega) hsm9 1 (fun h => absurd h.2.2 hbad) (fun _ => rfl))
                  unfold Geo.v Anc.v at HCB
                  dsimp only at HCB
                  have HC9 := HCE.out _ hB9
                  rw [hW9] at HC9
                  obtain ⟨⟨p0, p1, p2, p3, p4⟩, q0, q1, q2, q3, q4, q5, q6⟩ := HC9
                  have HW9 := hide hW9
                  have HB9 := hide hB9
                  clear hL9 hbad hsm9 hW9 hB9 hput9 hput hc hf hx2 eg
                  go_wp2_with fail
                  rw [← HW9.out]
                  (with_reducible refine HCB.out.mono ?_)
                  rintro e w10 ⟨rfl, hb10⟩
                  go_wp2_with fail
                  (with_reducible refine (wakes16 _ (hT.below (th hb0 (th HB9.out hb10)))).mono ?_)
                  rintro e w11 ⟨rfl, hb11⟩
                  go_wp2_with fail
                  go_ret
                  exact ⟨rfl, th hb0 (th HB9.out (th hb10 hb11))⟩
                · have s1' : (IntKind.u64.wrap how).tmod 5 = 3 := s1
                  have s2' : IntKind.u64.wrap how % 5 = 3 := s2
                  clear s1 s2
                  have hz14 : 1 ≤ z ∧ z ≤ 4 := HG.out.1
                  obtain ⟨g2, g', y, n', c', eg, hgB2, hgl2, hy, hyl, hc3, hc, hf, hput⟩ := (HTO.out.below hb8).first hIm HX.out (by show 0 < ims.length; omega)
                  obtain rfl : g = g2 := by injection eg with eg; injection eg
                  dsimp only at hy hyl hput
                  have hput9 := hput z ⟨by omega, by omega⟩
                  obtain ⟨W9, hW9⟩ : ∃ W9, W9 = w8.setCell ⟨g', 0, none⟩ (.int .i64 z) := ⟨_, rfl⟩
                  have hL9 : Sl txnR 4 W9 (Old W9) (some ⟨g, 0, none⟩) m cL (L.set I ⟨num, at_, len, ims.set 0 { y with addr := z }⟩) := by rw [hW9]; exact (hput9.read).old_ txnR_fine
                  have hi0 : 0 < ims.length := by omega
                  have hbad : ¬ LogOk ⟨z, d, s, sl, an⟩ pos seq sl (L.set I ⟨num, at_, len, ims.set 0 { y with addr := z }⟩) := log_bent ⟨hpo1, by show pos < sl; omega⟩ HLK.out HX.out (fun P' Q' R' h h2 => by
                    have h4 := h2.2.2.2.2.2.2 { y with addr := z } (List.mem_of_getElem? (i := 0) (List.getElem?_set_self hi0))
                    have h5 : z ≤ z - 1 := h4.2.1.2
                    omega)
                  have hsm9 : ∀ t ∈ L.set I ⟨num, at_, len, ims.set 0 { y with addr := z }⟩, t.ims.length ≤ 6000 ∧ ∀ x ∈ t.ims, x.load.length ≤ 6000 := fun t ht => by
                    rcases List.mem_or_eq_of_mem_set ht with ht | rfl
                    · exact HSM.out t ht
                    · have h := HSM.out _ (List.mem_of_getElem? HX.out)
                      dsimp only at h ⊢
                      refine ⟨by rw [List.length_set]; exact h.1, fun v hv => ?_⟩
                      rcases List.mem_or_eq_of_mem_set hv with hv | rfl
                      · exact h.2 v hv
                      · exact h.2 y (List.mem_of_getElem? hy)
                  have hB9 : Below W0.heap.size W0 W9 := by rw [hW9]; exact ((th hb04 hb8).setCell (by show W0.heap.size ≤ g'; omega) _)
                  have hn' : (0 : Int) < (n' : Int) := by omega
                  obtain ⟨⟨y0, y1, y2, y3, y4⟩, _⟩ := HCE.out _ (th hb04 hb8)
                  subst hW9
                  have HL9 := hide hL9
                  have HB9 := hide hB9
                  have HBAD := hide hbad
                  have HSM9 := hide hsm9
                  have HCB : Hid (∀ W, Sl txnR 4 W (Old W) (some ⟨g, 0, none⟩) m cL (L.set I ⟨num, at_, len, ims.set 0 { y with addr := z }⟩) → Below W0.heap.size W0 W → Calls Tryd.prog 10 #[.agg #[.int .i64 z, .int .i64 d, .int .i64 s, .int .i64 sl, .int .i64 an], .agg #[.int .i64 gen, .int .i64 epoch, .int .i64 pos, .int .i64 seq, .int .i64 last, .string label, .slice A n c], .slice (some ⟨g, 0, none⟩) m cL] W fun e w' => e = .returned (.int .i64 1) ∧ Below W.heap.size W w') := hide fun W h1 h2 => by
                    have h := rcheck_any ⟨z, d, s, sl, an⟩ ⟨gen, epoch, pos, seq, last, label, homes⟩ A n c (some ⟨g, 0, none⟩) m cL _ W (hT.below (th hb0 h2)) (hs0.on homR_fine h2) HIN.out hlt h1 (by omega) HSM9.out 1 (fun h => absurd h.2.2 HBAD.out) (fun _ => rfl)
                    unfold Geo.v Anc.v at h
                    dsimp only at h
                    exact h
                  obtain ⟨⟨p0, p1, p2, p3, p4⟩, q0, q1, q2, q3, q4, q5, q6⟩ := HCE.out _ hB9
                  clear hL9 hB9 hbad hsm9 hput9 hput eg hy hyl
                  go_wp2_with fail
                  go_region
                  all_goals
                    go_wp2_with fail
                    first
                      | (with_reducible refine (HCB.out _ HL9.out HB9.out).mono ?_)
                      | (with_reducible refine (HCB.out _ (HL9.out.on txnR_fine (Below.refl _ _).drew) (HB9.out.trans (Below.refl _ _).drew)).mono ?_)
                    rintro e w10 ⟨rfl, hb10⟩
                    have hbX := th (by first | exact HB9.out | exact HB9.out.trans (Below.refl _ _).drew) hb10
                    go_wp2_with fail
                    (with_reducible refine (wakes16 _ (hT.below (th hb0 hbX))).mono ?_)
                    rintro e w11 ⟨rfl, hb11⟩
                    go_wp2_with fail
                    go_ret
                    exact ⟨rfl, th hb0 (th hbX hb11)⟩
                · have s1' : (IntKind.u64.wrap how).tmod 5 = 4 := s1
                  have s2' : IntKind.u64.wrap how % 5 = 4 := s2
                  clear s1 s2
                  obtain ⟨g2, x2, u2, eg, hgB2, hgl2, hx2, hc, hf, hbare⟩ := (HTO.out.below hb8).bare hIm
                  obtain rfl : g = g2 := by injection eg with eg; injection eg
                  obtain rfl : (⟨num, at_, len, ims⟩ : Txn) = x2 := by rw [HX.out] at hx2; injection hx2
                  obtain ⟨g3, x3, eg3, _, _, hx3, _, hc3, hf3, hput⟩ := hbare.length hIm
                  obtain rfl : g = g3 := by injection eg3 with eg3; injection eg3
                  have hlt2 := (List.getElem?_eq_some_iff.1 HX.out).1
                  obtain rfl : (⟨num, at_, len, []⟩ : Txn) = x3 := by rw [List.getElem?_set_self hlt2] at hx3; injection hx3
                  dsimp only at hput hc3
                  have hput9 := hput 1 ⟨by omega, by omega⟩
                  rw [List.set_set] at hput9
                  obtain ⟨W9, hW9⟩ : ∃ W9, W9 = (w8.setCell ⟨g, I * 4 + 3, none⟩ (.slice none 0 0)).setCell ⟨g, I * 4 + 2, none⟩ (.int .i64 1) := ⟨_, rfl⟩
                  have hL9 : Sl txnR 4 W9 (Old W9) (some ⟨g, 0, none⟩) m cL (L.set I ⟨num, at_, 1, []⟩) := by rw [hW9]; exact (hput9.read).old_ txnR_fine
                  have hbad : ¬ LogOk ⟨z, d, s, sl, an⟩ pos seq sl (L.set I ⟨num, at_, 1, []⟩) := log_bent ⟨hpo1, by show pos < sl; omega⟩ HLK.out HX.out (fun P' Q' R' h h2 => by
                    have h4 : (2 : Int) ≤ 1 := h2.2.2.2.1
                    omega)
                  have hsm9 : ∀ t ∈ L.set I ⟨num, at_, 1, []⟩, t.ims.length ≤ 6000 ∧ ∀ x ∈ t.ims, x.load.length ≤ 6000 := fun t ht => by
                    rcases List.mem_or_eq_of_mem_set ht with ht | rfl
                    · exact HSM.out t ht
                    · simp
                  have hB9 : Below W0.heap.size W0 W9 := by rw [hW9]; exact (((th hb04 hb8).setCell (by show W0.heap.size ≤ g; omega) _).setCell (by show W0.heap.size ≤ g; omega) _)
                  have HCB := hide (rcheck_any ⟨z, d, s, sl, an⟩ ⟨gen, epoch, pos, seq, last, label, homes⟩ A n c (some ⟨g, 0, none⟩) m cL _ W9 (hT.below (th hb0 (hB9.trans (Below.refl _ _)))) (hs0.on homR_fine hB9) HIN.out hlt hL9 (by omega) hsm9 1 (fun h => absurd h.2.2 hbad) (fun _ => rfl))
                  unfold Geo.v Anc.v at HCB
                  dsimp only at HCB
                  have HC9 := HCE.out _ hB9
                  rw [hW9] at HC9
                  obtain ⟨⟨p0, p1, p2, p3, p4⟩, q0, q1, q2, q3, q4, q5, q6⟩ := HC9
                  have HW9 := hide hW9
                  have HB9 := hide hB9
                  clear hL9 hbad hsm9 hW9 hB9 hput9 hput eg hx2 hbare eg3 hx3 hlt2
                  go_wp2_with fail
                  rw [← HW9.out]
                  (with_reducible refine HCB.out.mono ?_)
                  rintro e w10 ⟨rfl, hb10⟩
                  go_wp2_with fail
                  (with_reducible refine (wakes16 _ (hT.below (th hb0 (th HB9.out hb10)))).mono ?_)
                  rintro e w11 ⟨rfl, hb11⟩
                  go_wp2_with fail
                  go_ret
                  exact ⟨rfl, th hb0 (th HB9.out (th hb10 hb11))⟩
          · have hnq : (1000000 : Int) < seq := by omega
            have dq : decide ((1000000 : Int) < seq) = true := decide_eq_true hnq
            go_enter Tryd.func5, Tryd.ntmps5
            go_wp2_with fail
            rw [← hW0]
            clear hW0
            (with_reducible refine HHV.out.mono ?_)
            rintro e w1 ⟨rfl, hb1⟩
            obtain ⟨⟨p0, p1, p2, p3, p4⟩, q0, q1, q2, q3, q4, q5, q6⟩ := HCE.out _ hb1
            go_wp2_with fail
            (with_reducible refine (HGE.out _).mono ?_)
            rintro e w2 ⟨rfl, hb2⟩
            have hb02 := th hb1 hb2
            obtain ⟨⟨p0, p1, p2, p3, p4⟩, q0, q1, q2, q3, q4, q5, q6⟩ := HCE.out _ hb02
            go_wp2_with fail
            (with_reducible refine (HAN.out hG _ hb02 hlt).mono ?_)
            rintro e w3 ⟨rfl, hb3⟩
            have hb03 := th hb02 hb3
            obtain ⟨⟨p0, p1, p2, p3, p4⟩, q0, q1, q2, q3, q4, q5, q6⟩ := HCE.out _ hb03
            go_wp2_with fail
            go_ret
            exact ⟨rfl, th hb0 hb03⟩
    · have hn40 : (40 : Int) < (ns : Int) := by omega
      have d40 : decide ((40 : Int) < (ns : Int)) = true := decide_eq_true hn40
      go_enter Tryd.func5, Tryd.ntmps5
      go_wp2_with fail
      rw [← hW0]
      clear hW0
      (with_reducible refine HHV.out.mono ?_)
      rintro e w1 ⟨rfl, hb1⟩
      obtain ⟨⟨p0, p1, p2, p3, p4⟩, q0, q1, q2, q3, q4, q5, q6⟩ := HCE.out _ hb1
      go_wp2_with fail
      go_ret
      exact ⟨rfl, th hb0 hb1⟩

theorem law_ringBent {w : World} (hT : Tabs w) {v0 v1 : Value} {g : Geo} {a : Anc} (hg : ArgR geoR w v0 g) (ha : ArgR ancR w v1 a) {B : Option Addr} {ns cs : Nat} {Z : List Int} (hz : Is w B ns cs Z) (i : Int) (hi : InI i) (how : Int) (hh : InI how) :
    Calls Tryd.prog 5 #[v0, v1, .slice B ns cs, .int .i64 i, .int .i64 how] w fun e w' => e = .returned (.bool true) ∧ Below w.heap.size w w' := by
  obtain ⟨rfl, _⟩ := geo_form hg
  obtain ⟨A, n, c, rfl, hin, hs⟩ := anc_form ha
  exact walk_ringBent hT g a A n c hs hin B ns cs Z hz i how

end Go.Proofs.YtdcoholjnlndgaaDoor
