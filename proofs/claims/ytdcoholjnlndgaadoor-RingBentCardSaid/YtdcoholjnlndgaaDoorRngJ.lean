/-
  Plain: right logs, step by step; transactions that the call owns whole, each with its own images.
  Contract: casematelaw16.Log.
  Contract: casematelaw16.wakes.
-/
import Derived.Test.YtdcoholjnlndgaaDoorRngG
import Derived.Test.YtdcoholjnlndgaaDoorAncT
import Derived.Test.YtdcoholjnlndgaaDoorLawT1
import Derived.Test.YtdcoholjnlndgaaDoorTabR
import Derived.Test.YtdcoholjnlndgaaDoorTabI
import Derived.Deep.RegionHeld3
import Derived.Test.YtdcoholjnlndgaaDoorAncG
namespace Go.Proofs.YtdcoholjnlndgaaDoor
open Go.RowKit
set_option linter.unusedVariables false
set_option maxRecDepth 100000

def sumL : List Txn → Int
  | [] => 0
  | t :: L => t.len + sumL L
theorem sumL_snoc (L : List Txn) (t : Txn) : sumL (L ++ [t]) = sumL L + t.len := by
  induction L with
  | nil => simp [sumL]
  | cons a L ih => simp only [List.cons_append, sumL, ih]; omega
theorem sumL_step {L : List Txn} {k : Nat} {t : Txn} (h : L[k]? = some t) : sumL (L.take (k + 1)) = sumL (L.take k) + t.len := by
  obtain ⟨h1, e1⟩ := List.getElem?_eq_some_iff.1 h
  rw [List.take_succ_eq_append_getElem h1, e1, sumL_snoc]
theorem log_sum {g : Geo} {P Q R : Int} {L : List Txn} (hR : R ≤ 30) (h : LogOk g P Q R L) : (usedL L : Int) = sumL L ∧ (L = [] ∨ sumL L ≤ R) ∧ 2 * (L.length : Int) ≤ sumL L := by
  induction L generalizing P Q R with
  | nil => exact ⟨rfl, .inl rfl, by simp [sumL]⟩
  | cons t L ih =>
    obtain ⟨⟨_, _, _, h4, h5, _⟩, h2⟩ := h
    obtain ⟨i1, i2, i3⟩ := ih (by omega) h2
    refine ⟨?_, .inr ?_, ?_⟩
    · rw [usedL, if_pos (by omega), sumL]
      omega
    · rw [sumL]
      rcases i2 with rfl | i2
      · simp [sumL]; omega
      · omega
    · rw [sumL, List.length_cons]; omega
theorem log_snoc {g : Geo} {P Q R : Int} {L : List Txn} {t : Txn} (hP : 0 ≤ P ∧ P < g.slots) (h : LogOk g P Q R L) (ht : TxnOk g ((P + sumL L) % g.slots) (Q + L.length) (R - sumL L) t) : LogOk g P Q R (L ++ [t]) := by
  induction L generalizing P Q R with
  | nil =>
    refine ⟨?_, trivial⟩
    simpa [sumL, Int.emod_eq_of_lt hP.1 hP.2] using ht
  | cons a L ih =>
    refine ⟨h.1, ih ⟨Int.emod_nonneg _ (by omega), Int.emod_lt_of_pos _ (by omega)⟩ h.2 ?_⟩
    rw [sumL, List.length_cons] at ht
    rw [Int.emod_add_emod, show P + a.len + sumL L = P + (a.len + sumL L) by omega, show Q + 1 + (L.length : Int) = Q + ((L.length + 1 : Nat) : Int) by omega, show R - a.len - sumL L = R - (a.len + sumL L) by omega]
    exact ht
theorem log_at {g : Geo} {P Q R : Int} {L : List Txn} {t : Txn} {k : Nat} (hP : 0 ≤ P ∧ P < g.slots) (h : LogOk g P Q R L) (hk : L[k]? = some t) : TxnOk g ((P + sumL (L.take k)) % g.slots) (Q + k) (R - sumL (L.take k)) t := by
  induction L generalizing P Q R k with
  | nil => simp at hk
  | cons a L ih =>
    cases k with
    | zero =>
      simp at hk
      subst hk
      simpa [sumL, Int.emod_eq_of_lt hP.1 hP.2] using h.1
    | succ k =>
      have h1 := ih ⟨Int.emod_nonneg _ (by omega), Int.emod_lt_of_pos _ (by omega)⟩ h.2 (by simpa using hk)
      rw [Int.emod_add_emod] at h1
      rw [List.take_succ_cons, sumL, show P + (a.len + sumL (L.take k)) = P + a.len + sumL (L.take k) by omega, show Q + ((k + 1 : Nat) : Int) = Q + 1 + k by omega, show R - (a.len + sumL (L.take k)) = R - a.len - sumL (L.take k) by omega]
      exact h1

/-- The lengths that Log picks. -/
def picks (sl : Int) : Int → List Int → List Int
  | _, [] => []
  | u, x :: S => if u + (1 + um x 5) + 1 > sl then [] else ((1 + um x 5) + 1) :: picks sl (u + (1 + um x 5) + 1) S

/-- A transaction whose images are the call's own: all that they lead to lies from lo up to hi, and stands as it stood when hi was the heap's end. -/
def txnO (eI : TypeId) : Rp (Txn × Nat × Nat) := fun w S cs x => ∃ A n c, cs = [.int .i64 x.1.num, .int .i64 x.1.at_, .int .i64 x.1.len, .slice A n c] ∧ InI x.1.num ∧ InI x.1.at_ ∧ InI x.1.len ∧
  (∃ w0 : World, w0.heap.size = x.2.2 ∧ Ow secR 3 w0 x.2.1 x.2.1 eI (.slice A n c) n x.1.ims ∧ ∀ b, x.2.1 ≤ b → b < x.2.2 → w.heap[b]? = w0.heap[b]?) ∧ ∀ b, x.2.1 ≤ b → b < x.2.2 → S b
theorem txnO_fine (eI : TypeId) : Fine (txnO eI) 4 where
  size := by rintro _ _ _ _ ⟨A, n, c, rfl, _⟩; rfl
  one := by rintro _ _ _ _ ⟨A, n, c, rfl, _⟩ u hu; simp at hu; rcases hu with rfl | rfl | rfl | rfl <;> rfl
  move := by
    rintro w w' S S' _ x ⟨A, n, c, rfl, h1, h2, h3, ⟨w0, hs, ho, he⟩, hk⟩ hm hS
    exact ⟨A, n, c, rfl, h1, h2, h3, ⟨w0, hs, ho, fun b hb1 hb2 => (hm b (hk b hb1 hb2)).trans (he b hb1 hb2)⟩, fun b hb1 hb2 => hS b (hk b hb1 hb2)⟩
theorem txnO_read {eI : TypeId} {w : World} {S : Nat → Prop} {cs : List Value} {x : Txn} {p : Nat × Nat} (h : txnO eI w S cs (x, p)) : txnR w S cs x := by
  obtain ⟨A, n, c, rfl, h1, h2, h3, ⟨w0, hs, ho, he⟩, hk⟩ := h
  refine ⟨A, n, c, rfl, h1, h2, h3, (ho.new_ secR_fine (Nat.le_refl _) (Nat.le_refl _)).move secR_fine (fun b hb => he b hb.1 (by rw [← hs]; exact hb.2)) (fun b hb => hk b hb.1 (by rw [← hs]; exact hb.2))⟩

/-- Transactions that the call owns whole, from block B on. -/
def TOwn (eT eI : TypeId) (w : World) (B : Nat) (V : Value) (n : Nat) (L : List Txn) : Prop := ∃ ts : List (Nat × Nat), ts.length = L.length ∧ Ow (txnO eI) 4 w B B eT V n (L.zip ts) ∧ ts.Pairwise (fun a b => a.2 ≤ b.1) ∧ ∀ t ∈ ts, t.2 ≤ w.heap.size
section
variable {eT eI : TypeId} {w w' : World} {B B' n c : Nat} {V : Value} {A : Option Addr} {L : List Txn}
theorem TOwn.nil_ (eT eI : TypeId) (w : World) (B : Nat) : TOwn eT eI w B (.slice none 0 0) 0 [] := ⟨[], rfl, Ow.nil_ _ _ _ _, List.Pairwise.nil, by simp⟩
theorem TOwn.form (h : TOwn eT eI w B V n L) : ∃ A c, V = .slice A n c := by
  obtain ⟨ts, ht, ho, _⟩ := h
  exact ho.form
theorem TOwn.lt (h : TOwn eT eI w B V n L) : ∀ k, V.ownBlock = some k → B ≤ k ∧ k < w.heap.size := by
  obtain ⟨ts, ht, ho, _⟩ := h
  exact ho.lt
theorem TOwn.below (h : TOwn eT eI w B V n L) (hb : Below w.heap.size w w') : TOwn eT eI w' B V n L := by
  obtain ⟨ts, ht, ho, hp, hs⟩ := h
  exact ⟨ts, ht, ho.below (txnO_fine eI) hb, hp, fun t h1 => Nat.le_trans (hs t h1) hb.size⟩
theorem TOwn.len (h : TOwn eT eI w B V n L) : L.length = n := by
  obtain ⟨ts, ht, ho, _⟩ := h
  have := ho.len
  rw [List.length_zip, ht] at this
  omega
theorem zip_fstT {L : List Txn} {ts : List (Nat × Nat)} (ht : ts.length = L.length) {i : Nat} {x : Txn} (hi : L[i]? = some x) : ∃ o, ts[i]? = some o ∧ (L.zip ts)[i]? = some (x, o) := by
  have hl := (List.getElem?_eq_some_iff.1 hi).1
  obtain ⟨o, ho⟩ : ∃ o, ts[i]? = some o := ⟨_, List.getElem?_eq_getElem (by omega)⟩
  exact ⟨o, ho, by rw [List.getElem?_zip_eq_some]; exact ⟨hi, ho⟩⟩
theorem ow_readT {ts : List (Nat × Nat)} (ht : ts.length = L.length) (ho : Ow (txnO eI) 4 w B B eT (.slice A n c) n (L.zip ts)) : Sl txnR 4 w (New B w) A n c L := by
  have hr := ho.new_ (txnO_fine eI) (Nat.le_refl _) (Nat.le_refl _)
  have hl : L.length = n := by have := hr.len; rw [List.length_zip, ht] at this; omega
  refine ⟨hl, hr.cap, fun hn => ?_⟩
  obtain ⟨ad, e, hb, hc⟩ := hr.at0 hn
  refine ⟨ad, e, hb, fun i x hx => ?_⟩
  obtain ⟨o, _, ho2⟩ := zip_fstT ht hx
  obtain ⟨cs, h1, hat⟩ := hc i (x, o) ho2
  exact ⟨cs, txnO_read h1, hat⟩
theorem TOwn.read (h : TOwn eT eI w B (.slice A n c) n L) : Sl txnR 4 w (New B w) A n c L := by
  obtain ⟨ts, ht, ho, _⟩ := h
  exact ow_readT ht ho
/-- A transaction's literal, on its way into an append. -/
theorem lit_txn {S : Nat → Prop} {e : TypeId} {x : Txn} {lo : Nat} (ho : Ow secR 3 w lo lo eI (.slice A n c) n x.ims) (h1 : InI x.num) (h2 : InI x.at_) (h3 : InI x.len) (hS : S w.heap.size) (hS2 : ∀ b, lo ≤ b → b < w.heap.size → S b) :
    Sl (txnO eI) 4 (w.alloc (.cells #[.int .i64 x.num, .int .i64 x.at_, .int .i64 x.len, .slice A n c] e)) S (some ⟨w.heap.size, 0, none⟩) 1 1 [(x, lo, w.heap.size)] := by
  refine ⟨rfl, Nat.le_refl _, fun _ => ⟨_, rfl, hS, fun i y hi => ⟨[.int .i64 x.num, .int .i64 x.at_, .int .i64 x.len, .slice A n c], ?_, ?_⟩⟩⟩
  · obtain rfl : i = 0 := by have := (List.getElem?_eq_some_iff.1 hi).1; simp at this; omega
    simp at hi
    subst hi
    exact ⟨A, n, c, rfl, h1, h2, h3, ⟨w, rfl, ho, fun b _ hb => Below.heap_alloc _ _ _ hb⟩, hS2⟩
  · obtain rfl : i = 0 := by have := (List.getElem?_eq_some_iff.1 hi).1; simp at this; omega
    intro j u hu
    rw [Nat.zero_mul, add_zero']
    exact World.news_of_block (heap_alloc_new w _) j u hu
/-- An image's literal. -/
theorem lit_sec {S : Nat → Prop} {e : TypeId} {x : Sec} (hs : Sl byteR 1 (w.alloc (.cells #[.int .i64 x.addr, .int .i64 x.stamp, .slice A n c] e)) S A n c x.load) (h1 : InI x.addr) (h2 : InI x.stamp) (hS : S w.heap.size) :
    Sl secR 3 (w.alloc (.cells #[.int .i64 x.addr, .int .i64 x.stamp, .slice A n c] e)) S (some ⟨w.heap.size, 0, none⟩) 1 1 [x] := by
  refine ⟨rfl, Nat.le_refl _, fun _ => ⟨_, rfl, hS, fun i y hi => ⟨[.int .i64 x.addr, .int .i64 x.stamp, .slice A n c], ?_, ?_⟩⟩⟩
  · obtain rfl : i = 0 := by have := (List.getElem?_eq_some_iff.1 hi).1; simp at this; omega
    simp at hi
    subst hi
    exact ⟨A, n, c, rfl, h1, h2, hs⟩
  · obtain rfl : i = 0 := by have := (List.getElem?_eq_some_iff.1 hi).1; simp at this; omega
    intro j u hu
    rw [Nat.zero_mul, add_zero']
    exact World.news_of_block (heap_alloc_new w _) j u hu
end

end Go.Proofs.YtdcoholjnlndgaaDoor

namespace Go.Proofs.YtdcoholjnlndgaaDoor
open Go.RowKit
set_option linter.unusedVariables false
set_option maxRecDepth 100000

theorem um_rawR {i n : Int} {k : Nat} (h : um i n = (k : Int)) (hn : 1 ≤ n) (hn' : n ≤ 4294967296) : (IntKind.u64.wrap i).tmod n = (k : Int) ∧ IntKind.u64.wrap i % n = (k : Int) := by
  have h0 : 0 ≤ IntKind.u64.wrap i := by rw [IntKind.wrap_u64]; exact Int.emod_nonneg _ (by omega)
  have h1 : (IntKind.u64.wrap i).tmod n = IntKind.u64.wrap i % n := Int.tmod_eq_emod_of_nonneg h0
  have h2 : 0 ≤ IntKind.u64.wrap i % n := Int.emod_nonneg _ (by omega)
  have h3 : IntKind.u64.wrap i % n < n := Int.emod_lt_of_pos _ (by omega)
  unfold um at h
  rw [h1, IntWalk.wrap64_in _ ⟨by omega, by omega⟩] at h
  exact ⟨by rw [h1, h], h⟩

theorem bal1 {w W : World} (h : Below w.heap.size w W) (o : Obj) : Below w.heap.size w (W.alloc o) := h.alloc h.size o
/-- A right image in a box, made since wr. -/
def ImgAt (g : Geo) (wr : World) (v : Value) (wc : World) : Prop := ∃ (Y : Nat) (x : Sec) (A : Option Addr) (n c : Nat), v = .pointer (some ⟨Y, 0, none⟩) ∧ wr.heap.size ≤ Y ∧ Y < wc.heap.size ∧ wc.cell? ⟨Y, 0, none⟩ = some (.int .i64 x.addr) ∧ wc.cell? ⟨Y, 1, none⟩ = some (.int .i64 x.stamp) ∧ wc.cell? ⟨Y, 2, none⟩ = some (.slice A n c) ∧ (∀ k, wc.frozen? ⟨Y, k, none⟩ = false) ∧ InI x.addr ∧ InI x.stamp ∧ Sl byteR 1 wc (New wr.heap.size wc) A n c x.load ∧ ImgOk g x ∧ x.load.length ≤ 45 ∧ Below wr.heap.size wr wc
/-- What Log has made so far. -/
structure LogIs (g : Geo) (pos seq : Int) (S : List Int) (L : List Txn) (p u : Int) (k : Nat) : Prop where
  ok : LogOk g pos seq g.slots L
  sum : sumL L = u
  at_ : p = (pos + u) % g.slots
  len : L.map (·.len) ++ picks g.slots u (S.drop k) = picks g.slots 0 S
  small : ∀ t ∈ L, t.ims.length ≤ 5 ∧ ∀ x ∈ t.ims, x.load.length ≤ 45
/-- What Log hands back. -/
def LogPost (g : Geo) (pos seq : Int) (S : List Int) (w : World) (e : Ending) (w' : World) : Prop := Below w.heap.size w w' ∧ ∃ (A : Option Addr) (n c : Nat) (L : List Txn), e = .returned (.slice A n c) ∧ TOwn 40 56 w' w.heap.size (.slice A n c) n L ∧ LogOk g pos seq g.slots L ∧ L.map (·.len) = picks g.slots 0 S ∧ ∀ t ∈ L, t.ims.length ≤ 5 ∧ ∀ x ∈ t.ims, x.load.length ≤ 45

theorem sl_newB {w : World} {B : Nat} {ad : Addr} {n c : Nat} {l : List UInt8} (h : Bs w (some ad) n c l) (hB : B ≤ ad.block) : Sl byteR 1 w (New B w) (some ad) n c l := by
  refine ⟨h.len, h.cap, fun hn => ?_⟩
  obtain ⟨ad', e, hb, hc⟩ := h.at0 hn
  injection e with e
  subst e
  exact ⟨_, rfl, ⟨hB, hb⟩, fun i x hx => hc i x hx⟩
theorem ImgAt.drew {g : Geo} {wr : World} {v : Value} {wc : World} (h : ImgAt g wr v wc) : ImgAt g wr v wc.drew := by
  obtain ⟨Y, x, A, n, c, rfl, h1, h2, h3, h4, h5, h6, h7, h8, h9, h10, h11, h12⟩ := h
  exact ⟨Y, x, A, n, c, rfl, h1, h2, h3, h4, h5, h6, h7, h8, h9.new_drew byteR_fine, h10, h11, h12.trans (Below.refl _ _).drew⟩
/-- The bytes first, then the box; and the other way. -/
theorem img_two1 {g : Geo} {wr : World} {zo wh : Int} {l : List UInt8} {cs : Array Value} {e e2 : TypeId} (hcs : cs = (l.map fun x => Value.int .u8 (x.toNat : Int)).toArray) (hl : l.length = 8) (h1 : InI zo) (h2 : InI wh) (hi : ImgOk g ⟨zo, wh, l⟩) :
    ImgAt g wr (.pointer (some ⟨wr.heap.size + 1, 0, none⟩)) ((wr.alloc (.cells cs e)).alloc (.cells #[.int .i64 zo, .int .i64 wh, .slice (some ⟨wr.heap.size, 0, none⟩) 8 8] e2)) := by
  have hb1 := alloc_below wr (.cells cs e)
  have hs1 : (wr.alloc (.cells cs e)).heap.size = wr.heap.size + 1 := by simp
  have hb2 := alloc_below (wr.alloc (.cells cs e)) (.cells #[.int .i64 zo, .int .i64 wh, .slice (some ⟨wr.heap.size, 0, none⟩) 8 8] e2)
  have hlit := lit_bytes_at (w := wr) (e := e) rfl hl (by omega) hcs
  refine ⟨wr.heap.size + 1, ⟨zo, wh, l⟩, some ⟨wr.heap.size, 0, none⟩, 8, 8, rfl, by omega, by simp, bx_at2 hs1 (Below.refl _ _) 0 _ rfl, bx_at2 hs1 (Below.refl _ _) 1 _ rfl, bx_at2 hs1 (Below.refl _ _) 2 _ rfl, fun k => bx_free2 hs1 (Below.refl _ _) k, h1, h2, ?_, hi, by show l.length ≤ 45; omega, th hb1 hb2⟩
  exact sl_newB (hlit.on byteR_fine hb2) (Nat.le_refl _)
theorem img_two2 {g : Geo} {wr : World} {zo wh : Int} {l : List UInt8} {cs : Array Value} {e e2 : TypeId} (hcs : cs = (l.map fun x => Value.int .u8 (x.toNat : Int)).toArray) (hl : l.length = 8) (h1 : InI zo) (h2 : InI wh) (hi : ImgOk g ⟨zo, wh, l⟩) :
    ImgAt g wr (.pointer (some ⟨wr.heap.size, 0, none⟩)) ((wr.alloc (.cells #[.int .i64 zo, .int .i64 wh, .slice (some ⟨wr.heap.size + 1, 0, none⟩) 8 8] e2)).alloc (.cells cs e)) := by
  have hb1 := alloc_below wr (.cells #[.int .i64 zo, .int .i64 wh, .slice (some ⟨wr.heap.size + 1, 0, none⟩) 8 8] e2)
  have hs1 : (wr.alloc (.cells #[.int .i64 zo, .int .i64 wh, .slice (some ⟨wr.heap.size + 1, 0, none⟩) 8 8] e2)).heap.size = wr.heap.size + 1 := by simp
  have hb2 := alloc_below (wr.alloc (.cells #[.int .i64 zo, .int .i64 wh, .slice (some ⟨wr.heap.size + 1, 0, none⟩) 8 8] e2)) (.cells cs e)
  have hlit := lit_bytes_at (w := wr.alloc (.cells #[.int .i64 zo, .int .i64 wh, .slice (some ⟨wr.heap.size + 1, 0, none⟩) 8 8] e2)) (e := e) hs1 hl (by omega) hcs
  refine ⟨wr.heap.size, ⟨zo, wh, l⟩, some ⟨wr.heap.size + 1, 0, none⟩, 8, 8, rfl, by omega, by simp; omega, box_cell hb2 0 _ rfl, box_cell hb2 1 _ rfl, box_cell hb2 2 _ rfl, fun k => box_free hb2 k, h1, h2, ?_, hi, by show l.length ≤ 45; omega, th hb1 hb2⟩
  exact sl_newB hlit (Nat.le_succ _)
/-- Another image, stored into the box. -/
theorem img_put {g : Geo} {wr wx wB : World} {Y : Nat} {u0 u1 u2 : Value} {zo wh : Int} {l : List UInt8} {A : Option Addr} {n c : Nat} (hY1 : wr.heap.size ≤ Y) (hY2 : Y < wx.heap.size) (hw : Below wr.heap.size wr wx) (hf : ∀ k, wx.frozen? ⟨Y, k, none⟩ = false)
    (c0 : wx.cell? ⟨Y, 0, none⟩ = some u0) (c1 : wx.cell? ⟨Y, 1, none⟩ = some u1) (c2 : wx.cell? ⟨Y, 2, none⟩ = some u2) (hB : Below wx.heap.size wx wB) (hs : Sl byteR 1 wB (New wx.heap.size wB) A n c l) (h1 : InI zo) (h2 : InI wh) (hi : ImgOk g ⟨zo, wh, l⟩) (hl : l.length ≤ 45) :
    ImgAt g wr (.pointer (some ⟨Y, 0, none⟩)) (((wB.setCell ⟨Y, 0, none⟩ (.int .i64 zo)).setCell ⟨Y, 1, none⟩ (.int .i64 wh)).setCell ⟨Y, 2, none⟩ (.slice A n c)) := by
  have k0 := (hB.cell (p := ⟨Y, 0, none⟩) hY2).trans c0
  have k1 := (hB.cell (p := ⟨Y, 1, none⟩) hY2).trans c1
  have k2 := (hB.cell (p := ⟨Y, 2, none⟩) hY2).trans c2
  refine ⟨Y, ⟨zo, wh, l⟩, A, n, c, rfl, hY1, by simp only [set_size]; exact Nat.lt_of_lt_of_le hY2 hB.size, put_off' (by omega) (put_off' (by omega) (put_same k0)), put_off' (by omega) (put_same (put_off' (by omega) k1)), put_same (put_off' (by omega) (put_off' (by omega) k2)), fun k => ?_, h1, h2, ?_, hi, hl, ?_⟩
  · rw [put_free, put_free, put_free]
    exact (hB.frozen (p := ⟨Y, k, none⟩) hY2).trans (hf k)
  · refine hs.move byteR_fine (fun b hb => ?_) (fun b hb => ⟨Nat.le_trans hw.size hb.1, by simp only [set_size]; exact hb.2⟩)
    have hne : b ≠ Y := by have := hb.1; omega
    rw [put_blk _ _ _ _ hne, put_blk _ _ _ _ hne, put_blk _ _ _ _ hne]
  · exact (((th hw hB).setCell hY1 _).setCell hY1 _).setCell hY1 _
theorem secPut {w : World} {B : Nat} {e : TypeId} {V : Value} {n : Nat} {L : List Sec} (h : Ow secR 3 w B B e V n L) (p : Addr) (v : Value) (hp : p.block < B) : Ow secR 3 (w.setCell p v) B B e V n L :=
  h.kept (rw := some p.block) secR_fine (put_grown w p v) (.inr fun e => by have := (h.lt _ e).1; omega) (fun b hb => put_blk _ _ _ _ (by have := hb.1; omega))
theorem LogIs.step {g : Geo} {pos seq : Int} {S : List Int} {L : List Txn} {p u : Int} {k : Nat} (h : LogIs g pos seq S L p u k) (hP : 0 ≤ pos ∧ pos < g.slots) {x : Int} (hx : S[k]? = some x) {N : Nat} (hN : 1 + um x 5 = (N : Int)) (hN0 : 1 ≤ N) (hN5 : N ≤ 5) (hfit : u + N + 1 ≤ g.slots) {num : Int} (hnum : num = seq + L.length) (hnb : num ≤ 4294967295) {ims : List Sec} (hl : ims.length = N)
    (him : ∀ x ∈ ims, ImgOk g x ∧ x.load.length ≤ 45) : LogIs g pos seq S (L ++ [⟨num, p, (N : Int) + 1, ims⟩]) ((p + (N : Int) + 1) % g.slots) (u + N + 1) (k + 1) where
  ok := log_snoc hP h.ok ⟨hnum, hnb, by show p = _; rw [h.at_, h.sum], by show 2 ≤ (N : Int) + 1; omega, by show (N : Int) + 1 ≤ g.slots - sumL L; rw [h.sum]; omega, by show (N : Int) + 1 = (ims.length : Int) + 1; rw [hl], fun x hx => (him x hx).1⟩
  sum := by rw [sumL_snoc, h.sum]; show u + ((N : Int) + 1) = _; omega
  at_ := by rw [h.at_, show (pos + u) % g.slots + (N : Int) + 1 = (pos + u) % g.slots + ((N : Int) + 1) by omega, Int.emod_add_emod]; congr 1; omega
  len := by
    rw [← h.len]
    obtain ⟨h1, e1⟩ := List.getElem?_eq_some_iff.1 hx
    rw [List.drop_eq_getElem_cons h1, e1, picks, if_neg (by omega), hN]
    simp
  small := fun t ht => by
    rcases List.mem_append.1 ht with ht | ht
    · exact h.small t ht
    · simp at ht
      subst ht
      exact ⟨by show ims.length ≤ 5; omega, fun x hx => (him x hx).2⟩
theorem TOwn.snoc {eT eI : TypeId} {wo wr w8 : World} {B n : Nat} {V : Value} {L : List Txn} {t : Txn} {ts : List (Nat × Nat)} {lo : Nat} (ht : ts.length = L.length) (hp : ts.Pairwise (fun a b => a.2 ≤ b.1)) (hs : ∀ t ∈ ts, t.2 ≤ wo.heap.size) (hlo : wo.heap.size ≤ lo) (hr : wr.heap.size ≤ w8.heap.size) (hor : wo.heap.size ≤ wr.heap.size) (ho : Ow (txnO eI) 4 w8 B B eT V n (L.zip ts ++ [(t, lo, wr.heap.size)])) : TOwn eT eI w8 B V n (L ++ [t]) := by
  refine ⟨ts ++ [(lo, wr.heap.size)], by simp [ht], ?_, ?_, ?_⟩
  · rw [List.zip_append ht.symm]
    exact ho
  · rw [List.pairwise_append]
    refine ⟨hp, by simp, fun a ha b hb => ?_⟩
    simp at hb
    subst hb
    have := hs a ha
    show a.2 ≤ lo
    omega
  · intro a ha
    rcases List.mem_append.1 ha with ha | ha
    · have := hs a ha; omega
    · simp at ha
      subst ha
      exact hr

set_option maxHeartbeats 4000000 in
theorem log_any (g : Geo) (hG : GeoOk g) (a : Anc) (A : Option Addr) (n c : Nat) (B : Option Addr) (ns cs : Nat) (Z : List Int) (F : UInt8) (w : World) (hpo : 0 ≤ a.pos ∧ a.pos < g.slots) (hse : 1 ≤ a.seq ∧ a.seq ≤ 1000000) (hz : Is w B ns cs Z) (hns : ns ≤ 40) :
    Calls Tryd.prog 9 #[g.v, a.v (.slice A n c), .slice B ns cs, .int .u8 (F.toNat : Int)] w (LogPost g a.pos a.seq Z w) := by
  obtain ⟨e0, he0, ee0, ee1, ee2⟩ := info_parts (show (Tryd.prog.info? 40).map (fun i => (i.zero, i.size, i.bytes)) = some (some (.agg #[.int .i64 0, .int .i64 0, .int .i64 0, .slice none 0 0]), 4, 48) by kernel_rfl)
  obtain ⟨i0, hi0, ii0, ii1, ii2⟩ := info_parts (show (Tryd.prog.info? 56).map (fun i => (i.zero, i.size, i.bytes)) = some (some (.agg #[.int .i64 0, .int .i64 0, .slice none 0 0]), 3, 40) by kernel_rfl)
  have hG0 := hG
  obtain ⟨⟨hz1, hz2⟩, ⟨hd1, hd2⟩, _, ⟨hsl1, hsl2⟩, _⟩ := hG
  have hlen := hz.len
  obtain ⟨gen, epoch, pos, seq, last, label, homes⟩ := a
  obtain ⟨z, d, s, sl, an⟩ := g
  unfold LogPost Geo.v Anc.v
  dsimp only at *
  obtain ⟨W0, hW0⟩ : ∃ W0, W0 = (w.alloc (.cells #[.int .i64 z, .int .i64 d, .int .i64 s, .int .i64 sl, .int .i64 an] 23)).alloc (.cells #[.int .i64 gen, .int .i64 epoch, .int .i64 pos, .int .i64 seq, .int .i64 last, .string label, .slice A n c] 26) := ⟨_, rfl⟩
  have hb0 : Below w.heap.size w W0 := by rw [hW0]; exact (alloc_below w _).alloc (by simp) _
  have hgb : GeoAt W0 w.heap.size ⟨z, d, s, sl, an⟩ := by rw [hW0]; exact (GeoAt.new w ⟨z, d, s, sl, an⟩ 23).on (alloc_below _ _)
  have bx : ∀ W, Below W0.heap.size W0 W → W.cell? ⟨w.heap.size + 1, 2, none⟩ = some (.int .i64 pos) ∧ W.cell? ⟨w.heap.size + 1, 3, none⟩ = some (.int .i64 seq) := fun W hW => by
    subst hW0
    have q2 : ∀ k u, (#[.int .i64 gen, .int .i64 epoch, .int .i64 pos, .int .i64 seq, .int .i64 last, .string label, .slice A n c] : Array Value)[k]? = some u → W.cell? ⟨w.heap.size + 1, k, none⟩ = some u := fun k u hk => by have := box_cell hW k u hk; simpa using this
    exact ⟨q2 2 _ rfl, q2 3 _ rfl⟩
  have BX := hide bx
  have hz0 := hz.on intR_fine hb0
  have HLEN := hide hlen
  have HG := hide hG0
  have HGB := hide hgb
  obtain ⟨hpo1, hpo2⟩ := hpo
  obtain ⟨hse1, hse2⟩ := hse
  clear bx hz hlen hG0 hgb
  go_enter Tryd.func9, Tryd.ntmps9
  go_wp2_with fail
  rw [← hW0]
  clear hW0
  obtain ⟨q2, q3⟩ := BX.out _ (Below.refl _ _)
  go_wp2_with fail
  go_loopw [9, 10, 11, 12] (fun V P U I wr => ∃ (k m : Nat) (A1 : Option Addr) (c1 : Nat) (p u : Int) (L : List Txn), k ≤ ns ∧ I = .int .i64 k ∧ P = .int .i64 p ∧ U = .int .i64 u ∧ V = .slice A1 m c1 ∧ 0 ≤ p ∧ p < sl ∧ 0 ≤ u ∧ u ≤ sl ∧ 2 * (m : Int) ≤ u ∧ Hid (TOwn 40 56 wr W0.heap.size (.slice A1 m c1) m L) ∧ Hid (LogIs ⟨z, d, s, sl, an⟩ pos seq Z L p u k) ∧ Below W0.heap.size W0 wr) (fun _ _ _ i _ => ns - (intOf i).toNat)
  case atStart => exact ⟨0, 0, none, 0, pos, 0, [], Nat.zero_le _, rfl, rfl, rfl, rfl, hpo1, by omega, by omega, by omega, by omega, hide (TOwn.nil_ _ _ _ _), hide ⟨trivial, rfl, by rw [Int.add_zero]; exact (Int.emod_eq_of_lt hpo1 hpo2).symm, by simp, by simp⟩, Below.refl _ _⟩
  case round =>
    obtain ⟨k, m, A1, c1, p, u, L, hk, rfl, rfl, rfl, rfl, hp1, hp2, hu1, hu2, hum, hown, hlog, hb⟩ := hrel
    obtain ⟨wo, rfl⟩ : ∃ wo : World, wo = wr := ⟨_, rfl⟩
    have HOWN : Hid (TOwn 40 56 wo w.heap.size (.slice A1 m c1) m L) := hide (by
      obtain ⟨ts, h1, h2, h3⟩ := hown.out
      exact ⟨ts, h1, h2.less (txnO_fine _) hb0.size hb0.size, h3⟩)
    by_cases hlt : k < ns
    · obtain ⟨ad, x, rfl, hadl, hx, hxi, hcell⟩ := at_int (hz0.on intR_fine hb) hlt
      obtain ⟨K, hK, hK5⟩ := um_is x 5 (by omega) (by omega)
      have HK5 : um x 5 = (K : Int) := hK
      have HK := hide HK5
      obtain ⟨r1, r2⟩ := um_rawR HK5 (by omega) (by omega)
      obtain ⟨N, hN⟩ : ∃ N : Nat, N = 1 + K := ⟨_, rfl⟩
      have hN1 : (1 : Int) + (K : Int) = (N : Int) := by omega
      have hN5 : N ≤ 5 := by omega
      have hN0 : 1 ≤ N := by omega
      obtain ⟨_, p0, p1, p2, p3, p4⟩ := HGB.out.on hb
      obtain ⟨q2, q3⟩ := BX.out _ hb
      dsimp only at p0 p1 p2 p3 p4 r1 r2
      have HX := hide hx
      have HN := hide hN
      clear hK hx hN HK5
      by_cases hfit : sl < u + N + 1
      · have hf2 : decide (sl < u + (N : Int) + 1) = true := decide_eq_true hfit
        have hend : L.map (·.len) = picks sl 0 Z := by
          have h := hlog.out.len
          dsimp only at h
          obtain ⟨h1, e1⟩ := List.getElem?_eq_some_iff.1 HX.out
          rw [List.drop_eq_getElem_cons h1, e1, picks, HK.out, if_pos (by have := HN.out; omega), List.append_nil] at h
          exact h
        have HEND := hide hend
        clear hend hown
        go_wp2_with fail
        go_ret
        exact ⟨th hb0 hb, A1, m, c1, L, rfl, HOWN.out, hlog.out.ok, HEND.out, hlog.out.small⟩
      · have hf2 : decide (sl < u + (N : Int) + 1) = false := decide_eq_false hfit
        obtain ⟨num, hnum⟩ : ∃ num, num = seq + (m : Int) := ⟨_, rfl⟩
        have hnum1 : seq + (m : Int) = num := hnum.symm
        have hnb1 : 1 ≤ num := by omega
        have hnb2 : num ≤ 1000015 := by omega
        have HNUM := hide hnum
        have HFIT : Hid (u + N + 1 ≤ sl) := hide (by omega)
        obtain ⟨WX, hWX⟩ : ∃ WX, WX = wo.alloc (.cells #[.int .i64 num, .int .i64 p, .int .i64 ((N : Int) + 1), .slice none 0 0] 40) := ⟨_, rfl⟩
        have hbx : Below wo.heap.size wo WX := by rw [hWX]; exact alloc_below _ _
        have hsx : WX.heap.size = wo.heap.size + 1 := by rw [hWX]; simp
        have hcx : WX.cell? ⟨wo.heap.size, 0, none⟩ = some (.int .i64 num) ∧ WX.cell? ⟨wo.heap.size, 1, none⟩ = some (.int .i64 p) ∧ WX.cell? ⟨wo.heap.size, 2, none⟩ = some (.int .i64 ((N : Int) + 1)) := by rw [hWX]; exact ⟨box_cell (Below.refl _ _) 0 _ rfl, box_cell (Below.refl _ _) 1 _ rfl, box_cell (Below.refl _ _) 2 _ rfl⟩
        have hcx3 : WX.cell? ⟨wo.heap.size, 3, none⟩ = some (.slice none 0 0) := by rw [hWX]; exact box_cell (Below.refl _ _) 3 _ rfl
        have hfx3 : WX.frozen? ⟨wo.heap.size, 3, none⟩ = false := by rw [hWX]; exact box_free (Below.refl _ _) 3
        have HCX := hide hcx
        have HCX3 := hide hcx3
        have HFX3 := hide hfx3
        clear hnum hcx hcx3 hfx3
        go_wp2_with fail
        rw [← hWX]
        clear hWX
        go_loopw [15] (fun J wr => ∃ (j : Nat) (U : Option Addr) (cu : Nat) (ims : List Sec), j ≤ N ∧ J = .int .i64 j ∧ Hid (Ow secR 3 wr (wo.heap.size + 1) (wo.heap.size + 1) 56 (.slice U j cu) j ims) ∧ Hid (wr.cell? ⟨wo.heap.size, 0, none⟩ = some (.int .i64 num) ∧ wr.cell? ⟨wo.heap.size, 1, none⟩ = some (.int .i64 p) ∧ wr.cell? ⟨wo.heap.size, 2, none⟩ = some (.int .i64 ((N : Int) + 1))) ∧ wr.cell? ⟨wo.heap.size, 3, none⟩ = some (.slice U j cu) ∧ Hid (wr.frozen? ⟨wo.heap.size, 3, none⟩ = false) ∧ Hid (∀ x ∈ ims, ImgOk ⟨z, d, s, sl, an⟩ x ∧ x.load.length ≤ 45) ∧ Below wo.heap.size wo wr ∧ wo.heap.size + 1 ≤ wr.heap.size) (fun i _ => N - (intOf i).toNat)
        case atStart => exact ⟨0, none, 0, [], Nat.zero_le _, rfl, hide (Ow.nil_ _ _ _ _), HCX, HCX3.out, HFX3, hide (by simp), hbx, by omega⟩
        case round =>
          obtain ⟨j, U, cu, ims, hj, rfl, hu, hcs, ct, hft, himg, hbr, hszr⟩ := hrel
          by_cases hlt2 : j < N
          · obtain ⟨_, p0, p1, p2, p3, p4⟩ := HGB.out.on (hb.trans (hbr.mono hb.size))
            dsimp only at p0 p1 p2 p3 p4
            obtain ⟨KJ, hKJ⟩ : ∃ KJ : Int, KJ = (k : Int) + (j : Int) := ⟨_, rfl⟩
            obtain ⟨J2, hJ2⟩ : ∃ J2 : Int, J2 = 2 * (j : Int) := ⟨_, rfl⟩
            obtain ⟨KJ2, hKJ2⟩ : ∃ KJ2 : Int, KJ2 = (k : Int) + J2 := ⟨_, rfl⟩
            obtain ⟨D1, hD1⟩ : ∃ D1 : Int, D1 = d + 1 := ⟨_, rfl⟩
            obtain ⟨zo, hzo⟩ : ∃ zo : Int, zo = KJ % z := ⟨_, rfl⟩
            obtain ⟨q, hq⟩ : ∃ q : Int, q = KJ2 % D1 := ⟨_, rfl⟩
            obtain ⟨wh, hwh⟩ : ∃ wh : Int, wh = q - 1 := ⟨_, rfl⟩
            obtain ⟨R4, hR4⟩ : ∃ R4 : Int, R4 = KJ % 4 := ⟨_, rfl⟩
            have z1 : 0 ≤ zo := by rw [hzo]; exact Int.emod_nonneg _ (by omega)
            have z2 : zo < z := by rw [hzo]; exact Int.emod_lt_of_pos _ (by omega)
            have z3 : 0 ≤ q := by rw [hq]; exact Int.emod_nonneg _ (by omega)
            have z4 : q < d + 1 := by rw [hq, ← hD1]; exact Int.emod_lt_of_pos _ (by omega)
            have hKJ0 : 0 ≤ KJ := by omega
            have hKJ20 : 0 ≤ KJ2 := by omega
            have a1 : IntKind.i64.wrap ((k : Int) + (j : Int)) = KJ := by rw [← hKJ]; exact IntWalk.i64_in _ ⟨by omega, by omega⟩
            have a2 : KJ.tmod z = zo := by rw [Int.tmod_eq_emod_of_nonneg hKJ0, hzo]
            have a2' : KJ % z = zo := hzo.symm
            have a3 : IntKind.i64.wrap (2 * (j : Int)) = J2 := by rw [← hJ2]; exact IntWalk.i64_in _ ⟨by omega, by omega⟩
            have a4 : IntKind.i64.wrap ((k : Int) + J2) = KJ2 := by rw [← hKJ2]; exact IntWalk.i64_in _ ⟨by omega, by omega⟩
            have a5 : IntKind.i64.wrap (d + 1) = D1 := by rw [← hD1]; exact IntWalk.i64_in _ ⟨by omega, by omega⟩
            have a6 : KJ2.tmod D1 = q := by rw [Int.tmod_eq_emod_of_nonneg hKJ20, hq]
            have a6' : KJ2 % D1 = q := hq.symm
            have a7 : IntKind.i64.wrap (q - 1) = wh := by rw [← hwh]; exact IntWalk.i64_in _ ⟨by omega, by omega⟩
            have a8 : KJ.tmod 4 = R4 := by rw [Int.tmod_eq_emod_of_nonneg hKJ0, hR4]
            have a8' : KJ % 4 = R4 := hR4.symm
            have hz0 : ¬ z = 0 := by omega
            have hD10 : ¬ D1 = 0 := by omega
            have hD11 : ¬ d + 1 = 0 := by omega
            have a6x : KJ2.tmod (d + 1) = q := by rw [← hD1]; exact a6
            have a6y : KJ2 % (d + 1) = q := by rw [← hD1]; exact a6'
            obtain ⟨bk, hbk⟩ : ∃ bk : UInt8, (k : Int) = (bk.toNat : Int) := ⟨UInt8.ofNat k, by simp; omega⟩
            obtain ⟨bj, hbj⟩ : ∃ bj : UInt8, (j : Int) = (bj.toNat : Int) := ⟨UInt8.ofNat j, by simp; omega⟩
            have b1 : IntKind.u8.wrap (k : Int) = (bk.toNat : Int) := by rw [← hbk]; rw [IntKind.wrap_u8]; omega
            have b2 : IntKind.u8.wrap (j : Int) = (bj.toNat : Int) := by rw [← hbj, IntKind.wrap_u8]; omega
            have HGW : Hid (∀ W, Below wr.heap.size wr W → W.cell? ⟨w.heap.size, 0, none⟩ = some (.int .i64 z) ∧ W.cell? ⟨w.heap.size, 1, none⟩ = some (.int .i64 d)) := hide fun W hW => by
              obtain ⟨_, p0, p1, _⟩ := HGB.out.on (hb.trans ((th hbr hW).mono hb.size))
              exact ⟨p0, p1⟩
            have HIMO : Hid (ImgOk ⟨z, d, s, sl, an⟩ ⟨zo, wh, [F, bk, bj, 1, 2, 3, 4, 5]⟩) := hide ⟨HG.out, ⟨z1, by show zo ≤ z - 1; omega⟩, .inr ⟨by show ¬ wh = 255; omega, ⟨by show -1 ≤ wh; omega, by show wh ≤ d - 1; omega⟩, rfl⟩⟩
            have hcur := Below.refl wr.heap.size wr
            have HWH : Hid (InI wh) := hide ⟨by omega, by omega⟩
            have HZO : Hid (InI zo) := hide ⟨by omega, by omega⟩
            clear hKJ hJ2 hKJ2 hD1 hzo hq hwh hR4 hbk hbj z3 z4
            go_wp2_with fail
            go_upto_region 12 with fail
            go_cut [16] (ImgAt ⟨z, d, s, sl, an⟩ wr)
            case first =>
              go_region_held3 (fun W => W.cell? ⟨w.heap.size, 0, none⟩ = some (.int .i64 z) ∧ W.cell? ⟨w.heap.size, 1, none⟩ = some (.int .i64 d)) (first | exact HGW.out _ hcur | exact HGW.out _ hcur.drew | exact HGW.out _ (bal1 hcur _) | exact HGW.out _ (bal1 hcur.drew _) | exact HGW.out _ (bal1 (bal1 hcur _) _) | exact HGW.out _ (bal1 (bal1 hcur.drew _) _)) (fail)
              all_goals (go_wp2_with fail; go_meet; first
                | exact (img_two1 rfl rfl HZO.out HWH.out HIMO.out).drew
                | exact (img_two2 rfl rfl HZO.out HWH.out HIMO.out).drew
                | exact img_two1 rfl rfl HZO.out HWH.out HIMO.out
                | exact img_two2 rfl rfl HZO.out HWH.out HIMO.out)
            case rest =>
              obtain ⟨Y, xx, AA, nn, cc, rfl, y1, y2, k0, k1, k2, kf, in1, in2, hsx, himx, hlx, hbx⟩ := hcut
              obtain ⟨wx, rfl⟩ : ∃ wx : World, wx = wc := ⟨_, rfl⟩
              by_cases h3 : R4 = 3
              · subst h3
                obtain ⟨dn, hdn⟩ : ∃ dn : Nat, d = (dn : Int) := ⟨d.toNat, by omega⟩
                have HFT := hide (fun w => rfirst_any ⟨z, d, s, sl, an⟩ dn hdn (by omega) w)
                unfold Geo.v RFstPost at HFT
                dsimp only at HFT
                have HTB := hide (fun A c w ha => rtbytes_own A (dn + 1) c (newT dn) w ha (by omega) (newT_ok dn).2.1)
                have HG5 : Hid (∀ W, Below wr.heap.size wr W → W.cell? ⟨w.heap.size, 0, none⟩ = some (.int .i64 z) ∧ W.cell? ⟨w.heap.size, 1, none⟩ = some (.int .i64 d) ∧ W.cell? ⟨w.heap.size, 2, none⟩ = some (.int .i64 s) ∧ W.cell? ⟨w.heap.size, 3, none⟩ = some (.int .i64 sl) ∧ W.cell? ⟨w.heap.size, 4, none⟩ = some (.int .i64 an)) := hide fun W hW => (HGB.out.on (hb.trans ((th hbr hW).mono hb.size))).2
                have HYB : Hid (∀ W, Below wx.heap.size wx W → (W.cell? ⟨Y, 0, none⟩ = some (.int .i64 xx.addr) ∧ W.cell? ⟨Y, 1, none⟩ = some (.int .i64 xx.stamp) ∧ W.cell? ⟨Y, 2, none⟩ = some (.slice AA nn cc)) ∧ W.frozen? ⟨Y, 0, none⟩ = false ∧ W.frozen? ⟨Y, 1, none⟩ = false ∧ W.frozen? ⟨Y, 2, none⟩ = false) := hide fun W hW => ⟨⟨(hW.cell (by exact y2)).trans k0, (hW.cell (by exact y2)).trans k1, (hW.cell (by exact y2)).trans k2⟩, (hW.frozen (by exact y2)).trans (kf 0), (hW.frozen (by exact y2)).trans (kf 1), (hW.frozen (by exact y2)).trans (kf 2)⟩
                have HIM3 : Hid (ImgOk ⟨z, d, s, sl, an⟩ ⟨zo, 255, tabL (newT dn)⟩ ∧ (tabL (newT dn)).length ≤ 45) := hide ⟨⟨HG.out, ⟨z1, by show zo ≤ z - 1; omega⟩, .inl ⟨rfl, by show ReadOk d _; rw [hdn]; exact (tab_back (newT_ok dn)).1⟩⟩, by rw [tabL_len, newT_len]; omega⟩
                clear hdn
                have hcur := Below.refl wx.heap.size wx
                have HBX := hide hbx
                clear himx hlx hsx in1 in2
                obtain ⟨q0, q1, q2', q3', q4⟩ := HG5.out _ hbx
                go_wp2_with fail
                go_upto_region 14 with fail
                go_cut [] (ImgAt ⟨z, d, s, sl, an⟩ wr (.pointer (some ⟨Y, 0, none⟩)))
                case first =>
                  go_region_held3 (fun W => W.cell? ⟨w.heap.size, 0, none⟩ = some (.int .i64 z) ∧ W.cell? ⟨w.heap.size, 1, none⟩ = some (.int .i64 d) ∧ W.cell? ⟨w.heap.size, 2, none⟩ = some (.int .i64 s) ∧ W.cell? ⟨w.heap.size, 3, none⟩ = some (.int .i64 sl) ∧ W.cell? ⟨w.heap.size, 4, none⟩ = some (.int .i64 an)) (first | with_reducible exact HG5.out _ (th HBX.out hcur) | with_reducible exact HG5.out _ (th HBX.out hcur.drew) | exact HG5.out _ ((((th HBX.out hcur).setCell y1 _).setCell y1 _).setCell y1 _) | exact HG5.out _ ((((th HBX.out hcur.drew).setCell y1 _).setCell y1 _).setCell y1 _) | exact HG5.out _ ((((th HBX.out hcur).setCell y1 _).setCell y1 _).setCell y1 _).drew) (first
                    | (go_at_call 22; (with_reducible refine (HFT.out _).mono ?_); rintro e wA ⟨hzz, A5, c5, rfl, hs5⟩; have hcur := th (by first | with_reducible exact hcur | with_reducible exact hcur.drew) hzz; have hs5 := hs5.old_ entR_fine)
                    | (go_at_call 21; (with_reducible refine (HTB.out _ _ _ (by first | with_reducible exact hs5 | exact hs5.on entR_fine (Below.refl _ _).drew)).mono ?_); rintro e wB ⟨V6, m6, c6, rfl, hs6, hzz⟩; have hszA := Below.size (by first | with_reducible exact hcur | with_reducible exact hcur.drew); have hs6 := hs6.new_less byteR_fine hszA; have hcur := th (by first | with_reducible exact hcur | with_reducible exact hcur.drew) hzz; obtain ⟨⟨v0, v1, v2⟩, f0, f1, f2⟩ := HYB.out _ hcur))
                  all_goals (go_wp2_with fail; go_meet; first
                    | exact img_put y1 y2 HBX.out kf k0 k1 k2 hcur hs6 HZO.out ⟨by omega, by omega⟩ HIM3.out.1 HIM3.out.2
                    | exact (img_put y1 y2 HBX.out kf k0 k1 k2 hcur hs6 HZO.out ⟨by omega, by omega⟩ HIM3.out.1 HIM3.out.2).drew)
                case rest =>
                  obtain ⟨Y', xx, AA, nn, cc, hYY, y1, y2, k0, k1, k2, kf, in1, in2, hsx, himx, hlx, hbx⟩ := hcut
                  injection hYY with hYY
                  injection hYY with hYY
                  injection hYY with hYY
                  subst hYY
                  clear HBX HYB HG5 q0 q1 q2' q3' q4 HFT HTB HIM3
                  obtain ⟨wy, rfl⟩ : ∃ wy : World, wy = wc := ⟨_, rfl⟩
                  have hszx := hbx.size
                  have hE := alloc_below wy (.cells #[.int .i64 xx.addr, .int .i64 xx.stamp, .slice AA nn cc] 56)
                  have ctx := (hbx.cell (p := ⟨wo.heap.size, 3, none⟩) (by exact hszr)).trans ct
                  have hEs := hE.size
                  have huE := (hu.out.below secR_fine hbx).below secR_fine hE
                  have hltV := hu.out.lt
                  have hlit : Sl secR 3 (wy.alloc (.cells #[.int .i64 xx.addr, .int .i64 xx.stamp, .slice AA nn cc] 56)) (But (wy.alloc (.cells #[.int .i64 xx.addr, .int .i64 xx.stamp, .slice AA nn cc] 56)) (wo.heap.size + 1) (.slice U j cu)) (some ⟨wy.heap.size, 0, none⟩) 1 1 [xx] := lit_sec (hsx.move byteR_fine (fun b hb => hE.block b hb.2) (fun b hb => ⟨by have := hb.1; omega, Nat.lt_of_lt_of_le hb.2 hE.size, fun e => by have h1 := (hltV b e.symm).2; have h2 := hb.1; omega⟩)) in1 in2 ⟨by omega, by simp, fun e => by have h1 := (hltV _ e.symm).2; omega⟩
                  have ctE : (wy.alloc (.cells #[.int .i64 xx.addr, .int .i64 xx.stamp, .slice AA nn cc] 56)).cell? ⟨wo.heap.size, 3, none⟩ = some (.slice U j cu) := (hE.cell (by show wo.heap.size < _; omega)).trans ((hbx.cell (by exact hszr)).trans ct)
                  have ftE : Hid ((wy.alloc (.cells #[.int .i64 xx.addr, .int .i64 xx.stamp, .slice AA nn cc] 56)).frozen? ⟨wo.heap.size, 3, none⟩ = false) := hide ((hE.frozen (by show wo.heap.size < _; omega)).trans ((hbx.frozen (by exact hszr)).trans hft.out))
                  have hsE : wo.heap.size + 1 ≤ (wy.alloc (.cells #[.int .i64 xx.addr, .int .i64 xx.stamp, .slice AA nn cc] 56)).heap.size := by omega
                  have HCE : Hid ((wy.alloc (.cells #[.int .i64 xx.addr, .int .i64 xx.stamp, .slice AA nn cc] 56)).cell? ⟨wo.heap.size, 0, none⟩ = some (.int .i64 num) ∧ (wy.alloc (.cells #[.int .i64 xx.addr, .int .i64 xx.stamp, .slice AA nn cc] 56)).cell? ⟨wo.heap.size, 1, none⟩ = some (.int .i64 p) ∧ (wy.alloc (.cells #[.int .i64 xx.addr, .int .i64 xx.stamp, .slice AA nn cc] 56)).cell? ⟨wo.heap.size, 2, none⟩ = some (.int .i64 ((N : Int) + 1))) := hide (by
                    have hh := th hbx hE
                    obtain ⟨o0, o1, o2⟩ := hcs.out
                    exact ⟨(hh.cell (by exact hszr)).trans o0, (hh.cell (by exact hszr)).trans o1, (hh.cell (by exact hszr)).trans o2⟩)
                  have HIM2 : Hid (∀ y ∈ ims ++ [xx], ImgOk ⟨z, d, s, sl, an⟩ y ∧ y.load.length ≤ 45) := hide (fun y hy => by
                    rcases List.mem_append.1 hy with hy | hy
                    · exact himg.out y hy
                    · simp at hy
                      subst hy
                      exact ⟨himx, hlx⟩)
                  have HB2 : Hid (Below wo.heap.size wo (wy.alloc (.cells #[.int .i64 xx.addr, .int .i64 xx.stamp, .slice AA nn cc] 56))) := hide (hbr.trans ((th hbx hE).mono hbr.size))
                  clear himx hlx hcs hft himg hsx hltV hu
                  go_wp2_with (at_builtin; refine wpList_append_ow _ rfl (.tmp 92) (.tmp 94) _ rfl secR_fine (wo.heap.size + 1) (wo.heap.size + 1) 56 i0 _ 40 Tryd.underlying38 hi0 ii0 ii1 ii2 rfl (by omega) (.slice U j cu) j _ rfl huE _ _ 1 1 _ rfl hlit (fun _ _ _ h => h) (by simp only [maxLen]; omega) (by omega) hsE ?_; intro V6 w6 ho6 hg6 hat6; obtain ⟨A6, c6, rfl⟩ := ho6.form; have hb6 := below_grown (base := wo.heap.size + 1) hg6 huE.lt hsE; have ct6 : w6.cell? ⟨wo.heap.size, 3, none⟩ = some (.slice U j cu) := (hb6.cell (by simp)).trans ctE; have ft6 : w6.frozen? ⟨wo.heap.size, 3, none⟩ = false := (hb6.frozen (by simp)).trans ftE.out)
                  go_roundw
                  case rel =>
                    obtain ⟨o0, o1, o2⟩ := HCE.out
                    exact ⟨j + 1, A6, c6, _, by omega, by go_num, hide (secPut ho6 _ _ (by simp)), hide ⟨put_off' (by omega) ((hb6.cell (by simp)).trans o0), put_off' (by omega) ((hb6.cell (by simp)).trans o1), put_off' (by omega) ((hb6.cell (by simp)).trans o2)⟩, put_same ct6, hide ((put_free _ _ _ _).trans ft6), HIM2, (HB2.out.trans (hb6.mono (by omega))).setCell (by simp) _, by rw [set_size]; exact Nat.le_trans hsE hg6.size⟩
                  case measure => simp [intOf]; omega
              · have e3 : (R4 == 3) = false := by simpa using h3
                have hszx := hbx.size
                have hE := alloc_below wx (.cells #[.int .i64 xx.addr, .int .i64 xx.stamp, .slice AA nn cc] 56)
                have ctx := (hbx.cell (p := ⟨wo.heap.size, 3, none⟩) (by exact hszr)).trans ct
                have hEs := hE.size
                have huE := (hu.out.below secR_fine hbx).below secR_fine hE
                have hltV := hu.out.lt
                have hlit : Sl secR 3 (wx.alloc (.cells #[.int .i64 xx.addr, .int .i64 xx.stamp, .slice AA nn cc] 56)) (But (wx.alloc (.cells #[.int .i64 xx.addr, .int .i64 xx.stamp, .slice AA nn cc] 56)) (wo.heap.size + 1) (.slice U j cu)) (some ⟨wx.heap.size, 0, none⟩) 1 1 [xx] := lit_sec (hsx.move byteR_fine (fun b hb => hE.block b hb.2) (fun b hb => ⟨by have := hb.1; omega, Nat.lt_of_lt_of_le hb.2 hE.size, fun e => by have h1 := (hltV b e.symm).2; have h2 := hb.1; omega⟩)) in1 in2 ⟨by omega, by simp, fun e => by have h1 := (hltV _ e.symm).2; omega⟩
                have ctE : (wx.alloc (.cells #[.int .i64 xx.addr, .int .i64 xx.stamp, .slice AA nn cc] 56)).cell? ⟨wo.heap.size, 3, none⟩ = some (.slice U j cu) := (hE.cell (by show wo.heap.size < _; omega)).trans ((hbx.cell (by exact hszr)).trans ct)
                have ftE : Hid ((wx.alloc (.cells #[.int .i64 xx.addr, .int .i64 xx.stamp, .slice AA nn cc] 56)).frozen? ⟨wo.heap.size, 3, none⟩ = false) := hide ((hE.frozen (by show wo.heap.size < _; omega)).trans ((hbx.frozen (by exact hszr)).trans hft.out))
                have hsE : wo.heap.size + 1 ≤ (wx.alloc (.cells #[.int .i64 xx.addr, .int .i64 xx.stamp, .slice AA nn cc] 56)).heap.size := by omega
                have HCE : Hid ((wx.alloc (.cells #[.int .i64 xx.addr, .int .i64 xx.stamp, .slice AA nn cc] 56)).cell? ⟨wo.heap.size, 0, none⟩ = some (.int .i64 num) ∧ (wx.alloc (.cells #[.int .i64 xx.addr, .int .i64 xx.stamp, .slice AA nn cc] 56)).cell? ⟨wo.heap.size, 1, none⟩ = some (.int .i64 p) ∧ (wx.alloc (.cells #[.int .i64 xx.addr, .int .i64 xx.stamp, .slice AA nn cc] 56)).cell? ⟨wo.heap.size, 2, none⟩ = some (.int .i64 ((N : Int) + 1))) := hide (by
                  have hh := th hbx hE
                  obtain ⟨o0, o1, o2⟩ := hcs.out
                  exact ⟨(hh.cell (by exact hszr)).trans o0, (hh.cell (by exact hszr)).trans o1, (hh.cell (by exact hszr)).trans o2⟩)
                have HIM2 : Hid (∀ y ∈ ims ++ [xx], ImgOk ⟨z, d, s, sl, an⟩ y ∧ y.load.length ≤ 45) := hide (fun y hy => by
                  rcases List.mem_append.1 hy with hy | hy
                  · exact himg.out y hy
                  · simp at hy
                    subst hy
                    exact ⟨himx, hlx⟩)
                have HB2 : Hid (Below wo.heap.size wo (wx.alloc (.cells #[.int .i64 xx.addr, .int .i64 xx.stamp, .slice AA nn cc] 56))) := hide (hbr.trans ((th hbx hE).mono hbr.size))
                clear himx hlx hcs hft himg hsx hltV hu
                go_wp2_with (at_builtin; refine wpList_append_ow _ rfl (.tmp 92) (.tmp 94) _ rfl secR_fine (wo.heap.size + 1) (wo.heap.size + 1) 56 i0 _ 40 Tryd.underlying38 hi0 ii0 ii1 ii2 rfl (by omega) (.slice U j cu) j _ rfl huE _ _ 1 1 _ rfl hlit (fun _ _ _ h => h) (by simp only [maxLen]; omega) (by omega) hsE ?_; intro V6 w6 ho6 hg6 hat6; obtain ⟨A6, c6, rfl⟩ := ho6.form; have hb6 := below_grown (base := wo.heap.size + 1) hg6 huE.lt hsE; have ct6 : w6.cell? ⟨wo.heap.size, 3, none⟩ = some (.slice U j cu) := (hb6.cell (by simp)).trans ctE; have ft6 : w6.frozen? ⟨wo.heap.size, 3, none⟩ = false := (hb6.frozen (by simp)).trans ftE.out)
                go_roundw
                case rel =>
                  obtain ⟨o0, o1, o2⟩ := HCE.out
                  exact ⟨j + 1, A6, c6, _, by omega, by go_num, hide (secPut ho6 _ _ (by simp)), hide ⟨put_off' (by omega) ((hb6.cell (by simp)).trans o0), put_off' (by omega) ((hb6.cell (by simp)).trans o1), put_off' (by omega) ((hb6.cell (by simp)).trans o2)⟩, put_same ct6, hide ((put_free _ _ _ _).trans ft6), HIM2, (HB2.out.trans (hb6.mono (by omega))).setCell (by simp) _, by rw [set_size]; exact Nat.le_trans hsE hg6.size⟩
                case measure => simp [intOf]; omega
          · obtain rfl : j = N := by omega
            obtain ⟨o0, o1, o2⟩ := hcs.out
            obtain ⟨ts, hts, hot, hpt, hst⟩ := hown.out
            have hE := alloc_below wr (.cells #[.int .i64 num, .int .i64 p, .int .i64 ((j : Int) + 1), .slice U j cu] 40)
            have hEs := hE.size
            have hbrs := hbr.size
            have hbos := hb.size
            have hoE := (hot.below (txnO_fine _) hbr).below (txnO_fine _) hE
            have hltV := hot.lt
            have hlit : Sl (txnO 56) 4 (wr.alloc (.cells #[.int .i64 num, .int .i64 p, .int .i64 ((j : Int) + 1), .slice U j cu] 40)) (But (wr.alloc (.cells #[.int .i64 num, .int .i64 p, .int .i64 ((j : Int) + 1), .slice U j cu] 40)) W0.heap.size (.slice A1 m c1)) (some ⟨wr.heap.size, 0, none⟩) 1 1 [(⟨num, p, (j : Int) + 1, ims⟩, wo.heap.size + 1, wr.heap.size)] := lit_txn (x := ⟨num, p, (j : Int) + 1, ims⟩) hu.out ⟨by show -9223372036854775808 ≤ num; omega, by show num ≤ 9223372036854775807; omega⟩ ⟨by show -9223372036854775808 ≤ p; omega, by show p ≤ 9223372036854775807; omega⟩ ⟨by show -9223372036854775808 ≤ (j : Int) + 1; omega, by show (j : Int) + 1 ≤ 9223372036854775807; omega⟩ ⟨by omega, by simp, fun e => by have h1 := (hltV _ e.symm).2; omega⟩ (fun b h1 h2 => ⟨by omega, by omega, fun e => by have h3 := (hltV b e.symm).2; omega⟩)
            have hsE : W0.heap.size ≤ (wr.alloc (.cells #[.int .i64 num, .int .i64 p, .int .i64 ((j : Int) + 1), .slice U j cu] 40)).heap.size := by omega
            obtain ⟨_, p0, p1, p2, p3, p4⟩ := HGB.out.on (hb.trans ((th hbr hE).mono hb.size))
            dsimp only at p0 p1 p2 p3 p4
            have HG3 : Hid (∀ W, Below W0.heap.size W0 W → W.cell? ⟨w.heap.size, 3, none⟩ = some (.int .i64 sl)) := hide fun W hW => (HGB.out.on hW).2.2.2.2.1
            have HBE : Hid (Below W0.heap.size W0 (wr.alloc (.cells #[.int .i64 num, .int .i64 p, .int .i64 ((j : Int) + 1), .slice U j cu] 40))) := hide (hb.trans ((th hbr hE).mono hb.size))
            have hlm : L.length = m := hown.out.len
            have HSTEP := hide (fun hl => hlog.out.step ⟨hpo1, hpo2⟩ HX.out (N := j) (by rw [HK.out]; exact hN1) (by omega) hN5 (by show u + (j : Int) + 1 ≤ sl; exact HFIT.out) (num := num) (by rw [HNUM.out, hlm]) (by omega) (ims := ims) hl (fun x hx => himg.out x hx))
            have HIML : Hid (ims.length = j) := hide hu.out.len
            obtain ⟨P', hP'⟩ : ∃ P', P' = (p + (j : Int) + 1) % sl := ⟨_, rfl⟩
            have g1 : 0 ≤ P' := by rw [hP']; exact Int.emod_nonneg _ (by omega)
            have g2 : P' < sl := by rw [hP']; exact Int.emod_lt_of_pos _ (by omega)
            have t1 : (p + (j : Int) + 1) % sl = P' := hP'.symm
            have t2 : (p + (j : Int) + 1).tmod sl = P' := by rw [Int.tmod_eq_emod_of_nonneg (by omega), hP']
            have hsl0 : ¬ sl = 0 := by omega
            have HP' := hide hP'
            have hfit2 : u + (j : Int) + 1 ≤ sl := HFIT.out
            have hmm : m ≤ 15 := by omega
            have HST := hide hst
            have HPT := hide hpt
            have HTS := hide hts
            have HBR := hide hbr
            clear hcs hft himg hltV hot hown hlog hst hpt hts hP' hlm HOWN
            go_wp2_with (at_builtin; refine wpList_append_ow _ rfl (.tmp 97) (.tmp 99) _ rfl (txnO_fine _) W0.heap.size W0.heap.size 40 e0 _ 48 Tryd.underlying31 he0 ee0 ee1 ee2 rfl (by omega) (.slice A1 m c1) m _ rfl hoE _ _ 1 1 _ rfl hlit (fun _ _ _ h => h) (by simp only [maxLen]; omega) (by omega) hsE ?_; intro V8 w8 ho8 hg8 hat8; obtain ⟨A8, c8, rfl⟩ := ho8.form; have hb8 := HBE.out.trans (below_grown (base := W0.heap.size) hg8 hoE.lt hsE); have p38 := HG3.out _ hb8)
            go_roundw
            case rel =>
              have hstep := HSTEP.out HIML.out
              dsimp only at hstep
              rw [t1] at hstep
              exact ⟨k + 1, m + 1, A8, c8, P', u + (j : Int) + 1, L ++ [⟨num, p, (j : Int) + 1, ims⟩], by omega, by go_num, by go_num, by go_num, rfl, g1, g2, by omega, by omega, by omega, hide (TOwn.snoc (wo := wo) (wr := wr) HTS.out HPT.out HST.out (by omega) (Nat.le_trans hEs hg8.size) HBR.out.size ho8), hide hstep, hb8⟩
            case measure => simp [intOf]; omega
    · obtain rfl : k = ns := by omega
      go_wp2_with fail
      go_ret
      exact ⟨th hb0 hb, A1, m, c1, L, rfl, HOWN.out, hlog.out.ok, by
        have h := hlog.out.len
        rw [List.drop_of_length_le (by rw [HLEN.out]; exact Nat.le_refl _), picks, List.append_nil] at h
        exact h, hlog.out.small⟩

end Go.Proofs.YtdcoholjnlndgaaDoor

namespace Go.Proofs.YtdcoholjnlndgaaDoor
open Go.RowKit
set_option linter.unusedVariables false
set_option maxRecDepth 100000

theorem log_two {L : List Txn} (h : LogOk ⟨1, 1, 0, 14, 1⟩ 0 1 14 L) (hl : L.map (·.len) = [2, 3]) : ∃ t0 t1, L = [t0, t1] ∧ t0.at_ = 0 ∧ t1.at_ = 2 ∧ t0.len = 2 ∧ t1.len = 3 := by
  have hlen : L.length = 2 := by have := congrArg List.length hl; simpa using this
  obtain ⟨t0, t1, rfl⟩ : ∃ a b, L = [a, b] := by
    match L, hlen with
    | [a, b], _ => exact ⟨a, b, rfl⟩
  simp at hl
  obtain ⟨h1, h2, _⟩ := h
  have e1 : t0.at_ = 0 := h1.2.2.1
  have e2 : t1.at_ = (0 + t0.len) % 14 := h2.2.2.1
  rw [hl.1] at e2
  exact ⟨t0, t1, rfl, e1, by rw [e2]; rfl, hl.1, hl.2⟩
theorem picks_two : picks 14 0 [0, 1] = [2, 3] := by decide +kernel
theorem who_two {t0 t1 : Txn} {w w' : World} {e : Ending} (a0 : t0.at_ = 0) (a1 : t1.at_ = 2) (l0 : t0.len = 2) (l1 : t1.len = 3) (h : WhoPost 14 3 [t0, t1] w e w') : e = .returned (.tuple #[.int .i64 1, .int .i64 1, .bool true]) ∧ Below w.heap.size w w' := by
  obtain ⟨hb, h⟩ := h
  have o0 : offT 14 3 t0 = 3 := by unfold offT; rw [a0]; rfl
  have o1 : offT 14 3 t1 = 1 := by unfold offT; rw [a1]; rfl
  rcases h with ⟨i, t, hi, ho, _, rfl⟩ | ⟨h, _⟩
  · match i, hi with
    | 0, hi =>
      simp at hi
      subst hi
      rw [o0, l0] at ho
      omega
    | 1, hi =>
      simp at hi
      subst hi
      rw [o1]
      exact ⟨rfl, hb⟩
  · have := h t1 (by simp)
    rw [o1, l1] at this
    omega
theorem lit_txn0 (w : World) (e : TypeId) : Sl txnR 4 (w.alloc (.cells #[.int .i64 0, .int .i64 0, .int .i64 0, .slice none 0 0] e)) (Old (w.alloc (.cells #[.int .i64 0, .int .i64 0, .int .i64 0, .slice none 0 0] e))) (some ⟨w.heap.size, 0, none⟩) 1 1 [⟨0, 0, 0, []⟩] := by
  have i0 : InI 0 := ⟨by omega, by omega⟩
  refine ⟨rfl, Nat.le_refl _, fun _ => ⟨_, rfl, by show w.heap.size < _; simp, fun i y hi => ⟨[.int .i64 0, .int .i64 0, .int .i64 0, .slice none 0 0], ?_, ?_⟩⟩⟩
  · obtain rfl : i = 0 := by have := (List.getElem?_eq_some_iff.1 hi).1; simp at this; omega
    simp at hi
    subst hi
    exact ⟨none, 0, 0, rfl, i0, i0, i0, Sl.nil_ _⟩
  · obtain rfl : i = 0 := by have := (List.getElem?_eq_some_iff.1 hi).1; simp at this; omega
    intro j u hu
    rw [Nat.zero_mul, add_zero']
    exact World.news_of_block (heap_alloc_new w _) j u hu
theorem lab_none : labE (sL ⟨#[]⟩) = 0 := by decide +kernel
theorem need_one : needN 1 [0] = 4 := by decide +kernel

/-- The four calls over the two transactions. -/
abbrev Four (V : Option Addr) (c : Nat) (A : Option Addr) (cl : Nat) (w : World) : Prop :=
  Calls Tryd.prog 12 #[.agg #[.int .i64 1, .int .i64 1, .int .i64 0, .int .i64 14, .int .i64 1], .agg #[.int .i64 1, .int .i64 0, .int .i64 0, .int .i64 1, .int .i64 0, .string ⟨#[]⟩, .slice V 1 c], .slice A 2 cl] w (fun e w' => e = .returned (.tuple #[.int .i64 5, .int .i64 3, .int .i64 0]) ∧ Below w.heap.size w w') ∧
  Calls Tryd.prog 11 #[.agg #[.int .i64 1, .int .i64 1, .int .i64 0, .int .i64 14, .int .i64 1], .slice A 2 cl, .int .i64 3] w (fun e w' => e = .returned (.tuple #[.int .i64 1, .int .i64 1, .bool true]) ∧ Below w.heap.size w w') ∧
  Calls Tryd.prog 10 #[.agg #[.int .i64 1, .int .i64 1, .int .i64 0, .int .i64 14, .int .i64 1], .agg #[.int .i64 1, .int .i64 0, .int .i64 0, .int .i64 1, .int .i64 0, .string ⟨#[]⟩, .slice V 1 c], .slice A 2 cl] w (fun e w' => e = .returned (.int .i64 0) ∧ Below w.heap.size w w') ∧
  Calls Tryd.prog 13 #[.slice A 2 cl] w (fun e w' => e = .returned (.int .i64 5) ∧ Below w.heap.size w w')
theorem four_any {aa : Anc} (haa : aa = newAnc 1 1 ⟨#[]⟩) (L : List Txn) (hlog : LogOk ⟨1, 1, 0, 14, 1⟩ 0 1 14 L) (hmap : L.map (·.len) = picks 14 0 [0, 1]) (hsm : ∀ t ∈ L, t.ims.length ≤ 5 ∧ ∀ x ∈ t.ims, x.load.length ≤ 45) (V : Option Addr) (c : Nat) (A : Option Addr) (cl : Nat) (w : World) (hT : Tabs w) (ha : Sl homR 3 w (Old w) V 1 c (List.replicate 1 (newHom 1))) (hL : Sl txnR 4 w (Old w) A 2 cl L) : Four V c A cl w := by
  have hok : AncOk ⟨1, 1, 0, 14, 1⟩ aa := by rw [haa]; exact newAnc_ok geo_one rfl rfl lab_none
  have hin : aa.In := by rw [haa]; exact newAnc_in (by decide)
  have hlt : Light aa := by rw [haa]; exact newAnc_light (by decide) (by omega) (by omega)
  have hhom : aa.homes = List.replicate 1 (newHom 1) := by rw [haa]; rfl
  have hpos : aa.pos = 0 := by rw [haa]; rfl
  have hseq : aa.seq = 1 := by rw [haa]; rfl
  have haav : ∀ V c, aa.v (.slice V 1 c) = .agg #[.int .i64 1, .int .i64 0, .int .i64 0, .int .i64 1, .int .i64 0, .string ⟨#[]⟩, .slice V 1 c] := fun V c => by rw [haa]; rfl
  rw [picks_two] at hmap
  obtain ⟨t0, t1, rfl, a0, a1, l0, l1⟩ := log_two hlog hmap
  have hu5 : usedL [t0, t1] = 5 := by simp [usedL, l0, l1]
  have hsm2 : ∀ t ∈ [t0, t1], t.ims.length ≤ 6000 ∧ ∀ x ∈ t.ims, x.load.length ≤ 6000 := fun t ht => ⟨by have := (hsm t ht).1; omega, fun x hx => by have := (hsm t ht).2 x hx; omega⟩
  have ha' : Sl homR 3 w (Old w) V 1 c aa.homes := by rw [hhom]; exact ha
  have h1 := next_yes ⟨1, 1, 0, 14, 1⟩ aa V 1 c A 2 cl [t0, t1] w hT ha' hin hlt hL (by omega) hsm2 geo_one hok (by rw [hpos, hseq]; exact hlog) (by rw [hseq]; decide)
  rw [haav, hpos, hseq, hu5] at h1
  have h2 := who_yes ⟨1, 1, 0, 14, 1⟩ geo_one A 2 cl [t0, t1] 3 ⟨by decide, by decide⟩ w hL (by omega) (fun t ht => by
    simp at ht
    rcases ht with rfl | rfl
    · rw [a0, l0]; exact ⟨⟨by decide, by decide⟩, by decide, by decide⟩
    · rw [a1, l1]; exact ⟨⟨by decide, by decide⟩, by decide, by decide⟩)
  have h3 := rcheck_any ⟨1, 1, 0, 14, 1⟩ aa V 1 c A 2 cl [t0, t1] w hT ha' hin hlt hL (by omega) hsm2 0 (fun _ => rfl) (fun h => absurd ⟨geo_one, hok, by rw [hpos, hseq]; exact hlog⟩ h)
  rw [haav] at h3
  have h4 := used_any A 2 cl [t0, t1] w hL (by omega)
  rw [hu5] at h4
  exact ⟨h1, h2.mono fun e w' h => who_two a0 a1 l0 l1 h, h3, h4⟩

set_option maxHeartbeats 1000000 in
theorem wakes16 (w : World) (hT : Tabs w) : Calls Tryd.prog 14 #[] w fun e w' => e = .returned (.bool true) ∧ Below w.heap.size w w' := by
  have hs0 := fun w => some_any 0 0 0 0 0 inI_0 inI_0 inI_0 inI_0 inI_0 w
  rw [some_zero] at hs0
  obtain ⟨aa, haa⟩ : ∃ aa, aa = newAnc 1 1 ⟨#[]⟩ := ⟨_, rfl⟩
  have hok : AncOk ⟨1, 1, 0, 14, 1⟩ aa := by rw [haa]; exact newAnc_ok geo_one rfl rfl lab_none
  have hin : aa.In := by rw [haa]; exact newAnc_in (by decide)
  have hlt : Light aa := by rw [haa]; exact newAnc_light (by decide) (by omega) (by omega)
  have HAA := hide haa
  have hfi := fun w => rafirst_any (g := ⟨1, 1, 0, 14, 1⟩) (z := 1) (d := 1) rfl rfl (by omega) (by omega) ⟨#[]⟩ w
  have hlo := fun (V : Option Addr) (c : Nat) (B : Option Addr) (w : World) (hz : Is w B 2 2 [0, 1]) => log_any ⟨1, 1, 0, 14, 1⟩ geo_one aa V 1 c B 2 2 [0, 1] 7 w (by rw [haa]; exact ⟨by decide, by decide⟩) (by rw [haa]; exact ⟨by decide, by decide⟩) hz (by omega)
  have hnd := fun (A : Option Addr) (w : World) (ha : Is w A 1 1 [0]) => need_yes ⟨1, 1, 0, 14, 1⟩ geo_one A 1 1 [0] w ha (by omega) (by intro b hb; simp at hb; subst hb; exact ⟨by decide, by decide⟩) (by simp)
  rw [need_one] at hnd
  have hno := fun (V : Option Addr) (c : Nat) (w : World) (hT : Tabs w) (ha : Sl homR 3 w (Old w) V 1 c aa.homes) (A : Option Addr) (hL : Sl txnR 4 w (Old w) A 1 1 [⟨0, 0, 0, []⟩]) => rcheck_any ⟨1, 1, 0, 14, 1⟩ aa V 1 c A 1 1 [⟨0, 0, 0, []⟩] w hT ha hin hlt hL (by omega) (by simp) 1 (fun h => by
    have := h.2.2.1.1
    rw [haa] at this
    exact absurd this (by decide)) (fun _ => rfl)
  have hhom : aa.homes = List.replicate 1 (newHom 1) := by rw [haa]; rfl
  have hpos : aa.pos = 0 := by rw [haa]; rfl
  have hseq : aa.seq = 1 := by rw [haa]; rfl
  have haav : ∀ V c, aa.v (.slice V 1 c) = .agg #[.int .i64 1, .int .i64 0, .int .i64 0, .int .i64 1, .int .i64 0, .string ⟨#[]⟩, .slice V 1 c] := fun V c => by rw [haa]; rfl
  have hfv : ∀ V c, (newAnc 1 1 ⟨#[]⟩).v (.slice V 1 c) = .agg #[.int .i64 1, .int .i64 0, .int .i64 0, .int .i64 1, .int .i64 0, .string ⟨#[]⟩, .slice V 1 c] := fun V c => rfl
  simp only [hfv] at hfi
  have h7 : (((7 : UInt8).toNat : Nat) : Int) = 7 := rfl
  simp only [haav] at hlo hno
  simp only [h7] at hlo
  unfold LogPost at hlo
  rw [hpos, hseq] at hlo
  rw [hhom] at hno
  unfold Geo.v at hs0 hfi hlo hnd hno
  dsimp only at hs0 hfi hlo hnd hno
  have HS0 := hide hs0
  have HFI := hide hfi
  have HLO := hide hlo
  have HND := hide hnd
  have HNO := hide hno
  clear hs0 hfi hlo hnd hno hok hin hlt hhom hpos hseq haav hfv haa
  go_enter Tryd.func14, Tryd.ntmps14
  go_wp2_with fail
  refine (HS0.out _).mono ?_
  rintro e w1 ⟨rfl, hb1⟩
  have hE2 := alloc_below w1 (.cells #[.int .i64 1, .int .i64 1, .int .i64 0, .int .i64 14, .int .i64 1] 23)
  have HGB := hide (GeoAt.new w1 ⟨1, 1, 0, 14, 1⟩ 23)
  have hb02 := th hb1 hE2
  go_wp2_with fail
  refine (HFI.out _).mono ?_
  rintro e w3 ⟨hb3, V3, c3, rfl, hs3⟩
  obtain ⟨W4, hW4⟩ : ∃ W4, W4 = w3.alloc (.cells #[.int .i64 1, .int .i64 0, .int .i64 0, .int .i64 1, .int .i64 0, .string ⟨#[]⟩, .slice V3 1 c3] 26) := ⟨_, rfl⟩
  have hE4 : Below w3.heap.size w3 W4 := by rw [hW4]; exact alloc_below _ _
  have hb24 := th hb3 hE4
  have hb04 := th hb02 hb24
  have hs4 := (hs3.old_ homR_fine).on homR_fine hE4
  have HSV : Hid (Sev W4 w3.heap.size (.int .i64 1) (.int .i64 0) (.int .i64 0) (.int .i64 1) (.int .i64 0) (.string ⟨#[]⟩) (.slice V3 1 c3)) := by rw [hW4]; exact hide (Sev.new rfl (Below.refl _ _))
  have hN4 : w3.heap.size < W4.heap.size := by rw [hW4]; simp
  have hcells : ∀ W, Below W4.heap.size W4 W → _ := fun W hW => And.intro (HGB.out.on (th hb24 hW)).2 (HSV.out.on hN4 hW)
  have HCE := hide hcells
  obtain ⟨⟨p0, p1, p2, p3, p4⟩, q0, q1, q2, q3, q4, q5, q6⟩ := hcells _ (Below.refl _ _)
  have hE5 := alloc_below W4 (.cells #[.int .i64 0, .int .i64 1] 3)
  have hN5 : W4.heap.size = w3.heap.size + 1 := by rw [hW4]; simp
  have hz5 : Is (W4.alloc (.cells #[.int .i64 0, .int .i64 1] 3)) (some ⟨w3.heap.size + 1, 0, none⟩) 2 2 [0, 1] := lit_ints_at (n := 2) (l := [0, 1]) hN5 rfl (by omega) (fun x hx => by simp at hx; rcases hx with rfl | rfl; exact inI_0; exact inI_1) rfl
  have HN5 := hide hN5
  clear hN5
  rw [hW4] at p0 p1 p2 p3 p4 q0 q1 q2 q3 q4 q5 q6
  clear hcells
  go_wp2_with fail
  rw [← hW4]
  clear hW4 p0 p1 p2 p3 p4 q0 q1 q2 q3 q4 q5 q6
  (with_reducible refine (HLO.out V3 c3 _ _ hz5).mono ?_)
  rintro e w6 ⟨hb6, AL, m, cL, L, rfl, hL6, hlog, hmap, hsm⟩
  have hb46 := th hE5 hb6
  have hb06 := th hb04 hb46
  have hL := (hL6.read).old_ txnR_fine
  have hm2 : m = 2 := by
    have h1 := hL.len
    have h2 := congrArg List.length hmap

    rw [picks_two, List.length_map] at h2
    rw [← h1, h2]
    rfl
  subst hm2
  have HK2 : Hid (∀ W, Below w6.heap.size w6 W → Four V3 c3 AL cL W) := hide fun W hW => four_any HAA.out L hlog hmap hsm V3 c3 AL cL W (hT.below (th hb06 hW)) (hs4.on homR_fine (th hb46 hW)) (hL.on txnR_fine hW)
  obtain ⟨⟨p0, p1, p2, p3, p4⟩, q0, q1, q2, q3, q4, q5, q6⟩ := HCE.out _ hb46
  clear hlog hmap hsm hL6
  go_wp2_with fail
  (with_reducible refine ((HK2.out _ (Below.refl _ _)).1).mono ?_)
  rintro e w7 ⟨rfl, hb7⟩
  obtain ⟨⟨p0, p1, p2, p3, p4⟩, q0, q1, q2, q3, q4, q5, q6⟩ := HCE.out _ (th hb46 hb7)
  go_wp2_with fail
  (with_reducible refine ((HK2.out _ hb7).2.1).mono ?_)
  rintro e w8 ⟨rfl, hb8⟩
  have hb68 := th hb7 hb8
  obtain ⟨⟨p0, p1, p2, p3, p4⟩, q0, q1, q2, q3, q4, q5, q6⟩ := HCE.out _ (th hb46 hb68)
  have hz8 : Is (w8.alloc (.cells #[.int .i64 0] 3)) (some ⟨w8.heap.size, 0, none⟩) 1 1 [0] := lit_ints_at (n := 1) (l := [0]) rfl rfl (by omega) (fun x hx => by simp at hx; subst hx; exact inI_0) rfl
  go_wp2_with fail
  (with_reducible refine (HND.out _ _ hz8).mono ?_)
  rintro e w9 ⟨rfl, hb9⟩
  have hb69 := th hb68 (th (alloc_below _ _) hb9)
  obtain ⟨⟨p0, p1, p2, p3, p4⟩, q0, q1, q2, q3, q4, q5, q6⟩ := HCE.out _ (th hb46 hb69)
  go_wp2_with fail
  (with_reducible refine ((HK2.out _ hb69).2.2.1).mono ?_)
  rintro e w10 ⟨rfl, hb10⟩
  have hb610 := th hb69 hb10
  obtain ⟨⟨p0, p1, p2, p3, p4⟩, q0, q1, q2, q3, q4, q5, q6⟩ := HCE.out _ (th hb46 hb610)
  go_wp2_with fail
  (with_reducible refine ((HK2.out _ hb610).2.2.2).mono ?_)
  rintro e w11 ⟨rfl, hb11⟩
  have hb611 := th hb610 hb11
  obtain ⟨⟨p0, p1, p2, p3, p4⟩, q0, q1, q2, q3, q4, q5, q6⟩ := HCE.out _ (th hb46 hb611)
  have hE12 := alloc_below w11 (.cells #[.int .i64 0, .int .i64 0, .int .i64 0, .slice none 0 0] 40)
  go_wp2_with fail
  (with_reducible refine (HNO.out V3 c3 _ (hT.below (th hb06 (th hb611 hE12))) (hs4.on homR_fine (th hb46 (th hb611 hE12))) _ (lit_txn0 _ _)).mono ?_)
  rintro e w12 ⟨rfl, hb12⟩
  go_wp2_with fail
  go_ret
  exact ⟨rfl, th hb06 (th hb611 (th hE12 hb12))⟩

end Go.Proofs.YtdcoholjnlndgaaDoor
