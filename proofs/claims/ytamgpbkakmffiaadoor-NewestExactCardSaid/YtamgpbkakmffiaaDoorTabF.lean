/-
  Contracts: bytes.Equal, table.Read.
  Contracts: pack.Unrow, its rest in memory of its own; table.Read.
  Contract: table.Read.
-/
import Derived.Test.YtamgpbkakmffiaaDoorTabB
import Derived.Laws.IdiomStrings
import Derived.Lib.BufferRead
import Derived.Deep.RegionLaw
import Derived.Deep.DeepCutAuto
import Derived.Test.YtamgpbkakmffiaaDoorSpot
namespace Go.Proofs.YtamgpbkakmffiaaDoor
open Go.RowKit
set_option linter.unusedVariables false
set_option maxRecDepth 100000

theorem conv_bs {P : Program} {w : World} {A : Option Addr} {n c : Nat} {l : List UInt8} (h : Bs w A n c l) (src dst e : TypeId) (hs : P.underlying src = some (.slice e)) (he : P.underlying e = some (.int .u8)) (hd : P.underlying dst = some .string) :
    (convert src dst (.slice A n c)).run P w = .ok (.string ⟨l.toArray⟩) w := by
  have hl := h.len
  by_cases h0 : n = 0
  · subst h0
    have hl0 : l = [] := List.eq_nil_of_length_eq_zero hl
    subst hl0
    cases A with
    | none => exact Lib.run_convert_nil_bytes w src dst e c hs he hd
    | some a => exact run_convert_bytes_back w src dst e a c [] hs he hd (fun j hj => absurd hj (by simp))
  · obtain ⟨ad, e1, _, hc⟩ := h.at0 (by omega)
    subst e1
    subst hl
    refine run_convert_bytes_back w src dst e ad c l hs he hd (fun j hj => ?_)
    obtain ⟨cs, hr, hat⟩ := hc j l[j] (List.getElem?_eq_getElem hj)
    have hr : cs = [.int .u8 (l[j].toNat : Int)] := hr
    subst hr
    have h1 := hat 0 _ rfl
    rwa [Nat.mul_one, add_zero'] at h1

theorem beq_bytes (xs ys : List UInt8) : (xs == ys) = decide (xs = ys) := by
  by_cases h : xs = ys
  · rw [decide_eq_true h]; simpa using h
  · rw [decide_eq_false h]; simpa using h

set_option maxHeartbeats 400000 in
theorem equal_any {A B : Option Addr} {n c m d : Nat} {xs ys : List UInt8} {w : World} (ha : Bs w A n c xs) (hb : Bs w B m d ys) :
    Calls Tryd.prog 78 #[.slice A n c, .slice B m d] w fun e w' => e = .returned (.bool (decide (xs = ys))) ∧ w = w' := by
  have h1 := conv_bs (P := Tryd.prog) ha 58 9 5 Tryd.underlying58 Tryd.underlying5 Tryd.underlying9
  have h2 := conv_bs (P := Tryd.prog) hb 58 9 5 Tryd.underlying58 Tryd.underlying5 Tryd.underlying9
  have h3 := beq_bytes xs ys
  obtain ⟨D, hD⟩ : ∃ D, D = decide (xs = ys) := ⟨_, rfl⟩
  rw [← hD] at h3 ⊢
  clear hD
  go_enter Tryd.func78, Tryd.ntmps78
  go_wp2_with fail
  go_ret
  exact ⟨rfl, rfl⟩

theorem tabOf_snoc (k : Nat) (l : List UInt8) : tabOf (k + 1) l = tabOf k l ++ [entOf (l.drop (9 * k))] := by
  induction k generalizing l with
  | zero => rfl
  | succ k ih =>
    have h1 : tabOf (k + 1 + 1) l = entOf l :: tabOf (k + 1) (l.drop 9) := rfl
    rw [h1, ih (l.drop 9), List.drop_drop, show 9 + 9 * k = 9 * (k + 1) by omega]
    rfl

end Go.Proofs.YtamgpbkakmffiaaDoor

namespace Go.Proofs.YtamgpbkakmffiaaDoor
open Go.RowKit
set_option linter.unusedVariables false
set_option maxRecDepth 100000

def UnrowNew (w : World) (xs : List UInt8) (s : List Int) (e : Ending) (w' : World) : Prop :=
  Below w.heap.size w w' ∧
  ((sumN s ≤ xs.length ∧ ∃ V cv R cr, e = .returned (.tuple #[.slice V s.length cv, .slice R (xs.length - sumN s) cr, .int .i64 0]) ∧ Sl intR 1 w' (New w.heap.size w') V s.length cv (unrowI s xs) ∧ Sl byteR 1 w' (New w.heap.size w') R (xs.length - sumN s) cr (xs.drop (sumN s))) ∨
   (xs.length < sumN s ∧ e = .returned (.tuple #[.slice none 0 0, .slice none 0 0, .int .i64 4])))

set_option maxHeartbeats 1000000 in
theorem unrow_new {A B : Option Addr} {n c m d : Nat} {xs : List UInt8} {s : List Int} {w : World} (ha : Bs w A n c xs) (hb : Is w B m d s) (hn : n ≤ 65536) (hm : m ≤ 1000) (hs : ∀ z ∈ s, Sized z) :
    Calls Tryd.prog 75 #[.slice A n c, .slice B m d] w (UnrowNew w xs s) := by
  obtain ⟨i0, hi0, hz0, hz1, hz2⟩ := info_parts int_info
  have hla := ha.len
  have hlb := hb.len
  have HA := hide hla
  have HB := hide hlb
  have HS := hide hs
  clear hla hlb hs
  go_enter Tryd.func75, Tryd.ntmps75
  go_wp2_with fail
  refine (clone_any _ _ _ _ _ ha hn).mono ?_
  rintro e w1 ⟨V1, c1, rfl, ho1, hb1⟩
  have r1 := ho1.new_ byteR_fine (Nat.le_refl _) (Nat.le_refl _)
  clear ho1
  go_wp2_with fail
  go_loopw [4, 5, 16] (fun v r i wr => ∃ k q : Nat, ∃ R cr, k ≤ m ∧ i = .int .i64 k ∧ q ≤ n ∧ r = .slice R (n - q) cr ∧ Hid (q = sumN (s.take k)) ∧ Ow intR 1 wr w.heap.size w.heap.size 3 v k (unrowI (s.take k) xs) ∧ Sl byteR 1 wr (New w.heap.size wr) R (n - q) cr (xs.drop q) ∧ Below w.heap.size w wr) (fun _ _ i _ => m - (intOf i).toNat)
  case atStart => exact ⟨0, 0, V1, c1, Nat.zero_le _, rfl, Nat.zero_le _, rfl, rfl, Ow.nil_ _ _ _ _, r1, hb1⟩
  case round =>
    obtain ⟨k, q, R, cr, hk, rfl, hqn, rfl, hq, ho, hr, hbw⟩ := hrel
    by_cases hlt : k < m
    · obtain ⟨bd, z, rfl, hbdl, hz, hzi, hzw⟩ := at_int hb hlt
      have hzc := below_cell hbw hbdl hzw
      have hsz := HS.out z (List.mem_of_getElem? hz)
      obtain ⟨V0, c0, rfl⟩ := ho.form
      have hsn := sumN_snoc hz
      by_cases hsh : ((n - q : Nat) : Int) < z
      · have hp := get_short (A := R) (n := n - q) (c := cr) (w := wr) z hsz hsh
        have HP := hide hp
        have hbad : Hid (n < sumN s) := by
          have h1 := sumN_mono (s := s) (k := k + 1)
          have h2 := hq.out
          show _ < _
          omega
        clear hp hsz hz hsn
        go_wp2_with fail
        refine (unhide HP).mono ?_
        rintro e w2 ⟨rfl, rfl⟩
        go_wp2_with fail
        go_ret3
        exact ⟨hbw, .inr ⟨by rw [HA.out]; exact hbad.out, rfl⟩⟩
      · obtain ⟨Z, rfl⟩ : ∃ Z : Nat, z = (Z : Int) := ⟨z.toNat, by rcases hsz with h | h | h <;> omega⟩
        have hZ : Z = 1 ∨ Z = 2 ∨ Z = 4 := by rcases hsz with h | h | h <;> omega
        have hp := get_ok (hr.old_ byteR_fine) (by omega) Z hZ (by omega)
        have hqz : n - q - Z = n - (q + Z) := by omega
        rw [hqz, List.drop_drop] at hp
        have hsnoc := unrowI_snoc (xs := xs) hz
        rw [Int.toNat_natCast, ← hq.out] at hsnoc
        rw [Int.toNat_natCast, ← hq.out] at hsn
        have hq2 : Hid (q + Z = sumN (s.take (k + 1))) := hsn.symm
        have hle : q + Z ≤ n := by omega
        have HP := hide hp
        have HN := hide hsnoc
        have hni : InI ((num ((xs.drop q).take Z) : Nat) : Int) := by
          have h1 := num_lt ((xs.drop q).take Z)
          have h2 : ((xs.drop q).take Z).length ≤ 4 := by simp only [List.length_take]; omega
          have h3 : 256 ^ ((xs.drop q).take Z).length ≤ 256 ^ 4 := Nat.pow_le_pow_right (by omega) h2
          constructor <;> omega
        have HNI := hide hni
        clear hp hsz hz hsn hsnoc hZ hqz hsh hni
        go_wp2_with fail
        refine (unhide HP).mono ?_
        rintro e w2 ⟨V2, c2, rfl, ho2, hb2⟩
        have hbw2 : Below w.heap.size w w2 := th hbw hb2
        have ho' := ho.below intR_fine hb2
        have ho3 := ho'.alloc intR_fine (.cells #[.int .i64 ((num ((xs.drop q).take Z) : Nat) : Int)] 3)
        have hs3 : Sl intR 1 (w2.alloc (.cells #[.int .i64 ((num ((xs.drop q).take Z) : Nat) : Int)] 3)) (But (w2.alloc (.cells #[.int .i64 ((num ((xs.drop q).take Z) : Nat) : Int)] 3)) w.heap.size (.slice V0 k c0)) (some ⟨w2.heap.size, 0, none⟩) 1 1 [((num ((xs.drop q).take Z) : Nat) : Int)] := Sl.one_ intR_fine ⟨rfl, HNI.out⟩ (fun q hq => (ho'.lt q hq).2) hbw2.size
        have hb3 := hbw2.alloc hbw2.size (.cells #[.int .i64 ((num ((xs.drop q).take Z) : Nat) : Int)] 3)
        have hap : Sl byteR 1 w2 (But w2 w.heap.size (.slice V0 k c0)) V2 (n - (q + Z)) c2 (xs.drop (q + Z)) := ho2.apart byteR_fine hbw.size hbw.size (fun q hq => ⟨(ho.lt q hq).2, (ho.lt q hq).2⟩)
        go_wp2_with (at_builtin; go_loud (refine wpList_append_ow _ rfl (.tmp 30) (.tmp 32) _ rfl intR_fine w.heap.size w.heap.size 3 i0 _ 8 Tryd.underlying42 hi0 hz0 hz1 hz2 rfl (by omega) (.slice V0 k c0) k (unrowI (s.take k) xs) rfl ho3 _ _ 1 1 _ rfl hs3 (fun _ _ _ h => h) (by simp only [maxLen]; omega) (by omega) hb3.size ?_); intro V3 w3 ho4 hg4 hat4)
        rw [HN.out] at ho4
        have hb4 := below_grown hg4 ho3.lt hb3.size
        have r3 : Sl byteR 1 w3 (New w.heap.size w3) V2 (n - (q + Z)) c2 (xs.drop (q + Z)) := hap.move byteR_fine (fun b hb => (hg4.block b (by have := hb.2.1; simp; omega) hb.2.2).trans (Below.heap_alloc _ _ _ hb.2.1)) (fun b hb => ⟨hb.1, Nat.lt_of_lt_of_le hb.2.1 (Nat.le_trans (by simp) hg4.size)⟩)
        go_roundw
        case rel => exact ⟨k + 1, q + Z, V2, c2, by omega, by go_num, by omega, rfl, hq2, ho4, r3, hb3.trans hb4⟩
        case measure => simp [intOf]; omega
    · obtain rfl : k = m := by omega
      rw [List.take_of_length_le (by rw [HB.out]; omega)] at ho hq
      obtain ⟨V0, c0, rfl⟩ := ho.form
      go_wp2_with fail
      go_ret3
      have hqq := hq.out
      subst hqq
      have h1 := HA.out
      have h2 := HB.out
      subst h1
      subst h2
      exact ⟨hbw, .inl ⟨hqn, V0, c0, R, cr, rfl, ho.new_ intR_fine (Nat.le_refl _) (Nat.le_refl _), hr⟩⟩


/-- One entry's bytes, read. -/
theorem unrow3_ok {A B : Option Addr} {n c : Nat} {xs : List UInt8} {w : World} (ha : Bs w A n c xs) (hb : Is w B 3 3 [4, 4, 1]) (hn : n ≤ 65536) (h9 : 9 ≤ n) :
    Calls Tryd.prog 75 #[.slice A n c, .slice B 3 3] w fun e w' => ∃ V cv R cr, e = .returned (.tuple #[.slice V 3 cv, .slice R (n - 9) cr, .int .i64 0]) ∧ Is w' V 3 cv [(num (xs.take 4) : Int), (num ((xs.drop 4).take 4) : Int), (num ((xs.drop 8).take 1) : Int)] ∧ Sl byteR 1 w' (New w.heap.size w') R (n - 9) cr (xs.drop 9) ∧ Below w.heap.size w w' := by
  have hl := ha.len
  refine (unrow_new ha hb hn (by omega) (fun z hz => by simp at hz; rcases hz with rfl | rfl; exact .inr (.inr rfl); exact .inl rfl)).mono ?_
  rintro e w' ⟨hb', ⟨_, V, cv, R, cr, rfl, hi, hr⟩ | ⟨h, _⟩⟩
  · have hs : sumN [4, 4, 1] = 9 := rfl
    rw [hs, hl] at hr ⊢
    have hu : unrowI [4, 4, 1] xs = [(num (xs.take 4) : Int), (num ((xs.drop 4).take 4) : Int), (num ((xs.drop 8).take 1) : Int)] := by
      simp [unrowI, List.drop_drop]
    rw [hu] at hi
    exact ⟨V, cv, R, cr, rfl, hi.old_ intR_fine, hr, hb'⟩
  · exact absurd h (by show ¬ (xs.length < 9); omega)
theorem unrow3_no {A B : Option Addr} {n c : Nat} {xs : List UInt8} {w : World} (ha : Bs w A n c xs) (hb : Is w B 3 3 [4, 4, 1]) (hn : n ≤ 65536) (h9 : n < 9) :
    Calls Tryd.prog 75 #[.slice A n c, .slice B 3 3] w fun e w' => e = .returned (.tuple #[.slice none 0 0, .slice none 0 0, .int .i64 4]) ∧ Below w.heap.size w w' := by
  have hl := ha.len
  refine (unrow_new ha hb hn (by omega) (fun z hz => by simp at hz; rcases hz with rfl | rfl; exact .inr (.inr rfl); exact .inl rfl)).mono ?_
  rintro e w' ⟨hb', ⟨h, _⟩ | ⟨_, rfl⟩⟩
  · exact absurd h (by show ¬ (9 ≤ xs.length); omega)
  · exact ⟨rfl, hb'⟩

/-- What table.Read tells. -/
def RdQ (g : Geo) (l : List UInt8) (T : List Ent) (err : Int) : Prop := (¬ GeoOk g ∧ err = 1 ∧ T = []) ∨ (GeoOk g ∧ ReadOk g.data l ∧ err = 0 ∧ T = tabOf (g.data + 1).toNat l) ∨ (GeoOk g ∧ ¬ ReadOk g.data l ∧ err = 4 ∧ T = [])
def RdPost (w : World) (g : Geo) (l : List UInt8) (e : Ending) (w' : World) : Prop := Below w.heap.size w w' ∧ ∃ A n c T err, e = .returned (.tuple #[.agg #[.slice A n c], .int .i64 err]) ∧ Sl entR 3 w' (New w.heap.size w') A n c T ∧ RdQ g l T err

/-- The blocks that are neither the box nor the entries' own. -/
def Ap (N : Nat) (w : World) (v : Value) : Nat → Prop := fun b => b < w.heap.size ∧ b ≠ N ∧ some b ≠ v.ownBlock

end Go.Proofs.YtamgpbkakmffiaaDoor

namespace Go.Proofs.YtamgpbkakmffiaaDoor
open Go.RowKit
set_option linter.unusedVariables false
set_option maxRecDepth 100000

theorem entKept {w w' : World} {base lo : Nat} {e : TypeId} {V : Value} {n : Nat} {L : List Ent} {rw : Option Nat} (h : Ow entR 3 w base lo e V n L) (hg : w.grownBy w' rw) (hne : V.ownBlock = none ∨ V.ownBlock ≠ rw) : Ow entR 3 w' base lo e V n L := by
  obtain ⟨hl, xs, hx, h1, hel⟩ := h
  exact ⟨hl, xs, hx.kept hg hne, h1, fun i x hi => hel i x hi⟩
theorem put_grown (w : World) (p : Addr) (v : Value) : w.grownBy (w.setCell p v) (some p.block) := ⟨rfl, rfl, rfl, by simp [World.setCell], fun k hk hne => put_blk w p v k (fun e => hne (by rw [e]))⟩
theorem entPut {w : World} {base lo : Nat} {e : TypeId} {V : Value} {n : Nat} {L : List Ent} (h : Ow entR 3 w base lo e V n L) (p : Addr) (v : Value) (hp : p.block < base) : Ow entR 3 (w.setCell p v) base lo e V n L :=
  entKept h (put_grown w p v) (.inr fun e => by have := (h.lt _ e).1; omega)
/-- A literal of one entry. -/
theorem lit_entry {w : World} {N : Nat} {e : TypeId} {a s : Int} {l : Bool} (hN : w.heap.size = N) (ha : InI a) (hs : InI s) : Sl entR 3 (w.alloc (.cells #[.int .i64 a, .int .i64 s, .bool l] e)) (fun _ => True) (some ⟨N, 0, none⟩) 1 1 [⟨a, s, l⟩] := by
  subst hN
  refine ⟨rfl, Nat.le_refl _, fun _ => ⟨_, rfl, trivial, fun i y hi => ⟨[.int .i64 a, .int .i64 s, .bool l], ?_, ?_⟩⟩⟩
  · obtain rfl : i = 0 := by have := (List.getElem?_eq_some_iff.1 hi).1; simp at this; omega
    simp at hi
    subst hi
    exact ⟨rfl, ha, hs⟩
  · obtain rfl : i = 0 := by have := (List.getElem?_eq_some_iff.1 hi).1; simp at this; omega
    intro j u hu
    rw [Nat.zero_mul, add_zero']
    exact World.news_of_block (heap_alloc_new w _) j u hu
theorem bx_at2 {w w' : World} {cs : Array Value} {e : TypeId} {N : Nat} (hN : w.heap.size = N) (hb : Below (w.alloc (.cells cs e)).heap.size (w.alloc (.cells cs e)) w') (k : Nat) (u : Value) (h : cs[k]? = some u) : w'.cell? ⟨N, k, none⟩ = some u := by
  subst hN
  exact box_cell hb k u h
theorem bx_free2 {w w' : World} {cs : Array Value} {e : TypeId} {N : Nat} (hN : w.heap.size = N) (hb : Below (w.alloc (.cells cs e)).heap.size (w.alloc (.cells cs e)) w') (k : Nat) : w'.frozen? ⟨N, k, none⟩ = false := by
  subst hN
  exact box_free hb k

/-- Bytes apart stay while the entries grow and the box is stored into. -/
theorem ap_grow {N : Nat} {w w' : World} {v v' : Value} {R : Option Addr} {m c : Nat} {l : List UInt8} (h : Sl byteR 1 w (Ap N w v) R m c l) (hg : w.grownBy w' v.ownBlock) (hat : v'.ownBlock = v.ownBlock ∨ v'.ownBlock = some w.heap.size) (u : Value) : Sl byteR 1 (w'.setCell ⟨N, 0, none⟩ u) (Ap N (w'.setCell ⟨N, 0, none⟩ u) v') R m c l :=
  h.move byteR_fine (fun b hb => (put_blk _ _ _ _ hb.2.1).trans (hg.block b hb.1 hb.2.2)) (fun b hb => ⟨by rw [set_size]; exact Nat.lt_of_lt_of_le hb.1 hg.size, hb.2.1, by
    rcases hat with h | h <;> rw [h]
    · exact hb.2.2
    · intro e
      injection e with e
      have := hb.1
      omega⟩)
theorem ap_below {N : Nat} {w w' : World} {v : Value} {R : Option Addr} {m c : Nat} {l : List UInt8} (h : Sl byteR 1 w (Ap N w v) R m c l) (hb : Below w.heap.size w w') : Sl byteR 1 w' (Ap N w' v) R m c l :=
  h.move byteR_fine (fun b hb' => hb.block b hb'.1) (fun b hb' => ⟨Nat.lt_of_lt_of_le hb'.1 hb.size, hb'.2⟩)

theorem entNew {w : World} {base lo B : Nat} {e : TypeId} {A : Option Addr} {n c : Nat} {L : List Ent} (h : Ow entR 3 w base lo e (.slice A n c) n L) (hB : B ≤ base) : Sl entR 3 w (New B w) A n c L := by
  have hr := h.read entR_fine
  refine ⟨hr.len, hr.cap, fun hn => ?_⟩
  obtain ⟨ad, e1, h1, hc⟩ := hr.at0 hn
  obtain ⟨hl, xs, hx, _, _⟩ := h
  obtain ⟨g, cap, hv, hg, hgl⟩ := hx.form hn
  have hA : A = some ⟨g, 0, none⟩ := by injection hv
  subst hA
  injection e1 with e1
  subst e1
  refine ⟨_, rfl, ⟨Nat.le_trans hB hg, hgl⟩, fun i x hx => ?_⟩
  obtain ⟨cs, hr, hat⟩ := hc i x hx
  exact ⟨cs, hr, hat⟩

theorem read_len {g : Geo} {d : Nat} (hd : g.data = (d : Int)) {l : List UInt8} (h : ReadOk g.data l) : l.length = 9 * (d + 1) := by
  have := h.1
  rw [hd] at this
  omega
theorem read_tab {d : Nat} {l : List UInt8} (h9 : 9 * (d + 1) ≤ l.length) : ReadOk (d : Int) l ↔ (TabOk (d : Int) (tabOf (d + 1) l) ∧ tabL (tabOf (d + 1) l) = l) := by
  have e : ((d : Int) + 1).toNat = d + 1 := by omega
  have hk := tabL_of h9
  unfold ReadOk
  rw [e]
  constructor
  · rintro ⟨h1, h2, h3⟩
    refine ⟨h3, ?_⟩
    have := hk.2 h2
    rwa [List.take_of_length_le (by omega)] at this
  · rintro ⟨h1, h2⟩
    have hl : l.length = 9 * (d + 1) := by rw [← h2, tabL_len, tabOf_len]
    refine ⟨by omega, hk.1 ?_, h1⟩
    rw [List.take_of_length_le (by omega)]
    exact h2

end Go.Proofs.YtamgpbkakmffiaaDoor
