/-
  Contracts: zone.begin and its closure; slices.IndexFunc and ContainsFunc over rows.
-/
import Derived.Test.YtnieiobpbioeiaaTabC
import Derived.Test.YtnieiobpbioeiaaZoneP
namespace Go.Proofs.Ytnieiobpbioeiaa
open Go.RowKit
set_option linter.unusedVariables false
set_option maxRecDepth 100000

/-- A block, or nothing. -/
def BlkOk (l : List UInt8) : Prop := l.length = 0 ∨ l.length = 8
instance (l : List UInt8) : Decidable (BlkOk l) := by unfold BlkOk; infer_instance

theorem wrongb_any (A : Option Addr) (n c : Nat) (l : List UInt8) (w : World) (hl : l.length = n) : Calls Try.prog 98 #[.slice A n c] w fun e w' => e = .returned (.bool (!decide (BlkOk l))) ∧ w = w' := by
  by_cases h0 : n = 0
  · have e0 : ((n : Int) != 0) = false := by simp; omega
    rw [show decide (BlkOk l) = true from decide_eq_true (.inl (by omega))]
    clear hl h0
    go_enter Try.func98, Try.ntmps98
    go_wp2_with fail
    go_ret
    exact ⟨rfl, rfl⟩
  · have e0 : ((n : Int) != 0) = true := by simp; omega
    by_cases h8 : n = 8
    · rw [show decide (BlkOk l) = true from decide_eq_true (.inr (by omega))]
      subst h8
      clear hl h0
      go_enter Try.func98, Try.ntmps98
      go_wp2_with fail
      go_ret
      exact ⟨rfl, rfl⟩
    · have e8 : ((n : Int) != 8) = true := by simp; omega
      rw [show decide (BlkOk l) = false from decide_eq_false (fun h => by rcases h with h | h <;> omega)]
      clear hl h0 h8
      go_enter Try.func98, Try.ntmps98
      go_wp2_with fail
      go_ret
      exact ⟨rfl, rfl⟩

set_option maxHeartbeats 1000000 in
theorem indexb_any (A : Option Addr) (n c : Nat) (H : List (List UInt8)) (w : World) (ha : Rs w A n c H) (hn : n ≤ 65536) :
    Calls Try.prog 111 #[.slice A n c, .func (.func 98) #[] #[]] w fun e w' => w = w' ∧
      (((∀ x ∈ H, BlkOk x) ∧ e = .returned (.int .i64 (-1))) ∨ (¬ (∀ x ∈ H, BlkOk x)) ∧ ∃ k : Nat, e = .returned (.int .i64 k)) := by
  have hlen := ha.len
  have HLEN := hide hlen
  clear hlen
  go_enter Try.func111, Try.ntmps111
  go_wp2_with fail
  go_loop [8] (fun i => ∃ k : Nat, k ≤ n ∧ i = .int .i64 k ∧ Hid (∀ x ∈ H.take k, BlkOk x)) (fun i => n - (intOf i).toNat)
  case atStart => exact ⟨0, Nat.zero_le _, rfl, by intro x hx; simp at hx⟩
  case round =>
    obtain ⟨k, hk, rfl, hall⟩ := hrel
    by_cases hlt : k < n
    · obtain ⟨ad, l, A1, n1, c1, rfl, hadl, hx, hs, hcell⟩ := at_row ha hlt
      have hw := fun w => wrongb_any A1 n1 c1 l w hs.len
      by_cases hok : BlkOk l
      · rw [decide_eq_true hok] at hw
        have hnext : ∀ y ∈ H.take (k + 1), BlkOk y := by
          obtain ⟨h1, e1⟩ := List.getElem?_eq_some_iff.1 hx
          rw [List.take_succ_eq_append_getElem h1, e1]
          intro y hy
          rcases List.mem_append.1 hy with hy | hy
          · exact hall.out y hy
          · simp at hy; subst hy; exact hok
        have HN := hide hnext
        have HW := hide hw
        clear hw hnext hok hx
        go_wp2_with fail
        refine (HW.out _).mono ?_
        rintro e w1 ⟨rfl, rfl⟩
        go_wp2_with fail
        go_round
        case rel => exact ⟨k + 1, by omega, by go_num, HN⟩
        case measure => simp [intOf]; omega
      · rw [decide_eq_false hok] at hw
        have hbad : ¬ ∀ y ∈ H, BlkOk y := fun h => hok (h l (List.mem_of_getElem? hx))
        have HB := hide hbad
        have HW := hide hw
        clear hw hbad hok hx
        go_wp2_with fail
        refine (HW.out _).mono ?_
        rintro e w1 ⟨rfl, rfl⟩
        go_wp2_with fail
        go_ret
        exact ⟨rfl, .inr ⟨HB.out, k, rfl⟩⟩
    · obtain rfl : k = n := by omega
      go_wp2_with fail
      go_ret
      refine ⟨rfl, .inl ⟨?_, rfl⟩⟩
      have h := hall.out
      rwa [List.take_of_length_le (by rw [HLEN.out]; omega)] at h

set_option maxHeartbeats 1000000 in
theorem contb_any (A : Option Addr) (n c : Nat) (H : List (List UInt8)) (w : World) (ha : Rs w A n c H) (hn : n ≤ 65536) :
    Calls Try.prog 99 #[.slice A n c, .func (.func 98) #[] #[]] w fun e w' => e = .returned (.bool (!H.all fun x => decide (BlkOk x))) ∧ w = w' := by
  have hi := indexb_any A n c H w ha hn
  obtain ⟨B, hB⟩ : ∃ B, B = !H.all fun x => decide (BlkOk x) := ⟨_, rfl⟩
  have hB1 : (∀ x ∈ H, BlkOk x) → B = false := fun h => by rw [hB, show (H.all fun x => decide (BlkOk x)) = true by simpa using h]; rfl
  have hB2 : ¬ (∀ x ∈ H, BlkOk x) → B = true := fun h => by rw [hB, show (H.all fun x => decide (BlkOk x)) = false by rw [← Bool.not_eq_true]; simpa using h]; rfl
  rw [← hB]
  have HI := hide hi
  have H1 := hide hB1
  have H2 := hide hB2
  clear hi hB1 hB2 hB
  go_enter Try.func99, Try.ntmps99
  go_wp2_with fail
  refine HI.out.mono ?_
  rintro e w1 ⟨rfl, ⟨h, rfl⟩ | ⟨h, k, rfl⟩⟩
  · obtain rfl := H1.out h
    clear h
    go_wp2_with fail
    go_ret
    exact ⟨rfl, rfl⟩
  · obtain rfl := H2.out h
    clear h
    go_wp2_with fail
    go_ret
    exact ⟨by simp, rfl⟩

/-- A zone that is looked at: its block's cells. -/
def Look (w : World) (N : Nat) (d : Nat) (V V' : Value) : Prop := N < w.heap.size ∧ w.cell? ⟨N, 0, none⟩ = some (.int .i64 d) ∧ w.cell? ⟨N, 1, none⟩ = some V ∧ w.cell? ⟨N, 2, none⟩ = some V'
theorem Look.on {w w' : World} {N d : Nat} {V V' : Value} (h : Look w N d V V') (hb : Below w.heap.size w w') : Look w' N d V V' :=
  ⟨Nat.lt_of_lt_of_le h.1 hb.size, (hb.cell h.1).trans h.2.1, (hb.cell h.1).trans h.2.2.1, (hb.cell h.1).trans h.2.2.2⟩

/-- What zone.begin tells. -/
def BeginPost (w : World) (g : Geo) (L : List Ent) (H : List (List UInt8)) (V V' : Value) (e : Ending) (w' : World) : Prop :=
  Below w.heap.size w w' ∧
  ((¬ (GeoOk g ∧ TabOk g.data L) ∧ e = .returned (.tuple #[.pointer none, .int .i64 1])) ∨
   ((GeoOk g ∧ TabOk g.data L) ∧ ¬ HadOk g.data H ∧ e = .returned (.tuple #[.pointer none, .int .i64 2])) ∨
   ((GeoOk g ∧ TabOk g.data L) ∧ HadOk g.data H ∧ ∃ N, w.heap.size ≤ N ∧ e = .returned (.tuple #[.pointer (some ⟨N, 0, none⟩), .int .i64 0]) ∧ Look w' N g.data.toNat V V'))

set_option maxHeartbeats 1000000 in
theorem begin_any (A B : Option Addr) (n c m d : Nat) (L : List Ent) (H : List (List UInt8)) (g : Geo) (w : World) (ha : Sl entR 3 w (Old w) A n c L) (hb : Rs w B m d H) (hn : n ≤ 65536) (hm : m ≤ 65536) :
    Calls Try.prog 73 #[g.v, .agg #[.slice A n c], .slice B m d] w (BeginPost w g L H (.slice A n c) (.slice B m d)) := by
  have hlb := hb.len
  obtain ⟨z, q, s, l, a⟩ := g
  have BB : True := trivial
  have hb0 : Below w.heap.size w ((w.alloc (.cells #[.int .i64 z, .int .i64 q, .int .i64 s, .int .i64 l, .int .i64 a] 23)).alloc (.cells #[.slice A n c] 26)) := (alloc_below w _).alloc (by simp) _
  have ha0 := ha.on entR_fine hb0
  have hh0 := hb.on bytesR_fine hb0
  have hck := check_any A n c L ⟨z, q, s, l, a⟩ _ ha0 hn
  unfold BeginPost
  unfold Geo.v at hck ⊢
  dsimp only at hck ⊢
  have bx : ∀ W, Below ((w.alloc (.cells #[.int .i64 z, .int .i64 q, .int .i64 s, .int .i64 l, .int .i64 a] 23)).alloc (.cells #[.slice A n c] 26)).heap.size ((w.alloc (.cells #[.int .i64 z, .int .i64 q, .int .i64 s, .int .i64 l, .int .i64 a] 23)).alloc (.cells #[.slice A n c] 26)) W →
      W.cell? ⟨w.heap.size, 1, none⟩ = some (.int .i64 q) ∧ W.cell? ⟨w.heap.size + 1, 0, none⟩ = some (.slice A n c) := fun W hW =>
    ⟨box_cell (th (alloc_below _ _) hW) 1 _ rfl, by have h := box_cell hW 0 _ rfl; simpa using h⟩
  have BX := hide bx
  clear bx
  by_cases h1 : GeoOk ⟨z, q, s, l, a⟩ ∧ TabOk q L
  · rw [if_pos h1] at hck
    have HCK := hide hck
    have hd := h1.1.2.1
    dsimp only at hd
    obtain ⟨p, hp⟩ : ∃ p : Nat, q = (p : Int) := ⟨q.toNat, by omega⟩
    subst hp
    have H1 := hide h1
    clear hck h1
    by_cases h2 : (m : Int) = (p : Int) + 1
    · have hcb := fun w h => contb_any B m d H w h hm
      have e2 : ((m : Int) != (p : Int) + 1) = false := by simp; omega
      by_cases h3 : ∀ x ∈ H, BlkOk x
      · rw [show (H.all fun x => decide (BlkOk x)) = true by simpa using h3] at hcb
        have hho : HadOk p H := ⟨by omega, h3⟩
        have HHO := hide hho
        have HCB := hide hcb
        clear hcb h3 hho hlb
        go_enter Try.func73, Try.ntmps73
        go_wp2_with fail
        refine HCK.out.mono ?_
        rintro e w1 ⟨rfl, hb1⟩
        obtain ⟨k1, k2⟩ := BX.out w1 hb1
        go_wp2_with fail
        refine (HCB.out _ (hh0.on bytesR_fine hb1)).mono ?_
        rintro e w2 ⟨rfl, rfl⟩
        go_wp2_with fail
        go_ret2
        have hw1 := hb1.size
        refine ⟨th hb0 (th hb1 (alloc_below _ _)), .inr (.inr ⟨H1.out, HHO.out, w1.heap.size, by have := hb0.size; omega, rfl, by simp, ?_, ?_, ?_⟩)⟩
        · exact box_cell (Below.refl _ _) 0 _ rfl
        · exact box_cell (Below.refl _ _) 1 _ rfl
        · exact box_cell (Below.refl _ _) 2 _ rfl
      · rw [show (H.all fun x => decide (BlkOk x)) = false by rw [← Bool.not_eq_true]; simpa using h3] at hcb
        have hho : ¬ HadOk p H := fun h => h3 h.2
        have HHO := hide hho
        have HCB := hide hcb
        clear hcb h3 hho hlb
        go_enter Try.func73, Try.ntmps73
        go_wp2_with fail
        refine HCK.out.mono ?_
        rintro e w1 ⟨rfl, hb1⟩
        obtain ⟨k1, k2⟩ := BX.out w1 hb1
        go_wp2_with fail
        refine (HCB.out _ (hh0.on bytesR_fine hb1)).mono ?_
        rintro e w2 ⟨rfl, rfl⟩
        go_wp2_with fail
        go_ret2
        exact ⟨th hb0 hb1, .inr (.inl ⟨H1.out, HHO.out, rfl⟩)⟩
    · have e2 : ((m : Int) != (p : Int) + 1) = true := by simp; omega
      have hho : ¬ HadOk p H := fun h => h2 (by have := h.1; omega)
      have HHO := hide hho
      clear hho hlb
      go_enter Try.func73, Try.ntmps73
      go_wp2_with fail
      refine HCK.out.mono ?_
      rintro e w1 ⟨rfl, hb1⟩
      obtain ⟨k1, k2⟩ := BX.out w1 hb1
      go_wp2_with fail
      go_ret2
      exact ⟨th hb0 hb1, .inr (.inl ⟨H1.out, HHO.out, rfl⟩)⟩
  · rw [if_neg h1] at hck
    have HCK := hide hck
    have H1 := hide h1
    clear hck h1 hlb
    go_enter Try.func73, Try.ntmps73
    go_wp2_with fail
    refine HCK.out.mono ?_
    rintro e w1 ⟨rfl, hb1⟩
    go_wp2_with fail
    go_ret2
    exact ⟨th hb0 hb1, .inl ⟨H1.out, rfl⟩⟩

end Go.Proofs.Ytnieiobpbioeiaa
