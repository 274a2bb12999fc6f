/-
  Plain: which blocks are written; what a zone is behind it.
  Contracts: stripe.rising, whole and its closure, slices.IndexFunc and ContainsFunc with it; slices.Clone of entries, table.Twin; casemateref08.Ats, casematelaw14.blocksRight.
  Plain: entries that are owned, stored into; headers of rows that lie in memory that stays; what stands at the head of a round of stripe.Write.
-/
import Derived.Test.YtikjhcfalofgaaaZoneM
import Derived.Test.YtikjhcfalofgaaaZLaw
import Derived.Test.YtikjhcfalofgaaaEnt
import Derived.Test.YtikjhcfalofgaaaSpot
namespace Go.Proofs.Ytikjhcfalofgaaa
open Go.RowKit
set_option linter.unusedVariables false

/-- The k-th of blocks, a number below nought where there is none. -/
def atN (l : List Int) (k : Nat) : Int := (l[k]?).getD (-1)
def AtOk (d : Int) (l : List Int) (k : Nat) : Prop := (0 ≤ atN l k ∧ atN l k < d) ∧ (k = 0 ∨ atN l (k - 1) < atN l k)
instance (d : Int) (l : List Int) (k : Nat) : Decidable (AtOk d l k) := by unfold AtOk; infer_instance
/-- Blocks of a zone, rising, at least one. -/
def AtsOk (d : Int) (l : List Int) : Prop := l ≠ [] ∧ ∀ k, k < l.length → AtOk d l k
instance (d : Int) (l : List Int) : Decidable (AtsOk d l) := by unfold AtsOk; infer_instance
theorem atN_at {l : List Int} {k : Nat} {x : Int} (h : l[k]? = some x) : atN l k = x := by simp [atN, h]
theorem atN_get {l : List Int} {k : Nat} (h : k < l.length) : l[k]? = some (atN l k) := by simp [atN, h]
theorem ats_rise {d : Int} {l : List Int} (h : AtsOk d l) {i k : Nat} (hik : i < k) (hk : k < l.length) : atN l i < atN l k := by
  induction k with
  | zero => omega
  | succ k ih =>
    have h1 := (h.2 (k + 1) hk).2
    rcases h1 with h1 | h1
    · omega
    · rw [Nat.add_sub_cancel] at h1
      by_cases e : i = k
      · rw [e]; exact h1
      · have := ih (by omega) (by omega)
        omega
theorem ats_ge {d : Int} {l : List Int} (h : AtsOk d l) {k : Nat} (hk : k < l.length) : (k : Int) ≤ atN l k := by
  induction k with
  | zero => exact (h.2 0 hk).1.1
  | succ k ih =>
    have h1 := ih (by omega)
    have h2 := ats_rise h (show k < k + 1 by omega) hk
    omega
theorem ats_len {d : Int} {l : List Int} (h : AtsOk d l) : (l.length : Int) ≤ d := by
  have hl : 0 < l.length := by
    rcases h with ⟨h0, _⟩
    cases l with
    | nil => exact absurd rfl h0
    | cons a b => simp
  have h1 := ats_ge h (k := l.length - 1) (by omega)
  have h2 := (h.2 (l.length - 1) (by omega)).1.2
  omega
theorem ats_inj {d : Int} {l : List Int} (h : AtsOk d l) {i k : Nat} {x : Int} (hi : l[i]? = some x) (hk : l[k]? = some x) : i = k := by
  have h1 := (List.getElem?_eq_some_iff.1 hi).1
  have h2 := (List.getElem?_eq_some_iff.1 hk).1
  have e1 := atN_at hi
  have e2 := atN_at hk
  rcases Nat.lt_trichotomy i k with h3 | h3 | h3
  · have := ats_rise h h3 h2; omega
  · exact h3
  · have := ats_rise h h3 h1; omega

/-- What is written into the block i, if it is one of them. -/
def blkOf : List Int → List (List UInt8) → Nat → Option (List UInt8)
  | a :: us, b :: bs, i => if a = (i : Int) then some b else blkOf us bs i
  | _, _, _ => none
theorem blkOf_none {us : List Int} (bs : List (List UInt8)) {i : Nat} (h : (i : Int) ∉ us) : blkOf us bs i = none := by
  induction us generalizing bs with
  | nil => rfl
  | cons a us ih =>
    cases bs with
    | nil => rfl
    | cons b bs =>
      simp only [List.mem_cons, not_or] at h
      rw [blkOf, if_neg (fun e => h.1 e.symm)]
      exact ih bs h.2
theorem blkOf_some {us : List Int} {bs : List (List UInt8)} {i k : Nat} {b : List UInt8} (h : us[k]? = some (i : Int)) (hn : (i : Int) ∉ us.take k) (hb : bs[k]? = some b) : blkOf us bs i = some b := by
  induction us generalizing bs k with
  | nil => cases h
  | cons a us ih =>
    cases bs with
    | nil => cases hb
    | cons c bs =>
      cases k with
      | zero =>
        simp at h hb
        rw [blkOf, if_pos h, hb]
      | succ k =>
        simp only [List.take_succ_cons, List.mem_cons, not_or] at hn
        rw [blkOf, if_neg (fun e => hn.1 e.symm)]
        exact ih (by simpa using h) hn.2 (by simpa using hb)
theorem blkOf_is {us : List Int} {bs : List (List UInt8)} {i : Nat} {b : List UInt8} (h : blkOf us bs i = some b) : ∃ k : Nat, us[k]? = some (i : Int) ∧ bs[k]? = some b := by
  induction us generalizing bs with
  | nil => cases h
  | cons a us ih =>
    cases bs with
    | nil => cases h
    | cons c bs =>
      rw [blkOf] at h
      split at h
      · rename_i e
        injection h with h
        exact ⟨0, by simp [e], by simp [h]⟩
      · obtain ⟨k, h1, h2⟩ := ih h
        exact ⟨k + 1, by simpa using h1, by simpa using h2⟩
theorem blkOf_at {d : Int} {us : List Int} (ha : AtsOk d us) {bs : List (List UInt8)} {i k : Nat} {b : List UInt8} (h : us[k]? = some (i : Int)) (hb : bs[k]? = some b) : blkOf us bs i = some b := by
  refine blkOf_some h (fun hm => ?_) hb
  obtain ⟨j, hj⟩ := List.mem_iff_getElem?.1 hm
  rw [List.getElem?_take] at hj
  split at hj
  · have := ats_inj ha hj h
    omega
  · cases hj

section
variable (L : List Ent) (H : List (List UInt8)) (ats : List Int) (bl : List (List UInt8)) (s : Int)
/-- What a block is behind it (nothing: it is not known); its entry. -/
def nowB (i : Nat) : List UInt8 := match blkOf ats bl i with | some b => b | none => knownL L H i
def entN (L : List Ent) (i : Nat) : Ent := (L[i]?).getD ⟨0, 0, false⟩
def newE (i : Nat) : Ent := match blkOf ats bl i with | some b => ⟨s, crc b, false⟩ | none => if knownL L H i = [] then { entN L i with lost := true } else entN L i
/-- The blocks that there are then, up to k; the parity; the table. -/
def stayL (k : Nat) : List (List UInt8) := ((List.range k).map (nowB L H ats bl)).filter fun b => decide (b ≠ [])
def parN (d : Nat) : List UInt8 := zxs zero8 (stayL L H ats bl d)
def wrT (d : Nat) : List Ent := (List.range d).map (newE L H ats bl s) ++ [⟨s, crc (parN L H ats bl d), false⟩]
end

section
variable {L : List Ent} {H : List (List UInt8)} {ats : List Int} {bl : List (List UInt8)} {s : Int} {d i k : Nat} {b : List UInt8}
theorem stay_succ (L : List Ent) (H : List (List UInt8)) (ats : List Int) (bl : List (List UInt8)) (k : Nat) : stayL L H ats bl (k + 1) = stayL L H ats bl k ++ (if nowB L H ats bl k = [] then [] else [nowB L H ats bl k]) := by
  unfold stayL
  rw [List.range_succ, List.map_append, List.filter_append]
  congr 1
  by_cases h : nowB L H ats bl k = [] <;> simp [h]
theorem now_in (h : blkOf ats bl i = some b) : nowB L H ats bl i = b ∧ newE L H ats bl s i = ⟨s, crc b, false⟩ := by
  unfold nowB newE
  rw [h]
  exact ⟨rfl, rfl⟩
theorem now_out (h : blkOf ats bl i = none) : nowB L H ats bl i = knownL L H i ∧ newE L H ats bl s i = if knownL L H i = [] then { entN L i with lost := true } else entN L i := by
  unfold nowB newE
  rw [h]
  exact ⟨rfl, rfl⟩
theorem now_len (hH : HadOk (d : Int) H) (hb : ∀ x ∈ bl, x.length = 8) (i : Nat) : (nowB L H ats bl i).length = 0 ∨ (nowB L H ats bl i).length = 8 := by
  unfold nowB
  split
  · rename_i b h
    obtain ⟨k, _, h2⟩ := blkOf_is h
    exact .inr (hb b (List.mem_of_getElem? h2))
  · exact known_len hH i
theorem stay_len (hH : HadOk (d : Int) H) (hb : ∀ x ∈ bl, x.length = 8) (k : Nat) : ∀ x ∈ stayL L H ats bl k, x.length = 8 := by
  intro x hx
  simp only [stayL, List.mem_filter, List.mem_map, List.mem_range, decide_eq_true_eq] at hx
  obtain ⟨⟨j, _, rfl⟩, hn⟩ := hx
  rcases now_len (L := L) (ats := ats) hH hb j with h | h
  · exact absurd (List.eq_nil_of_length_eq_zero h) hn
  · exact h
theorem stay_count (k : Nat) : (stayL L H ats bl k).length ≤ k := by
  have := List.length_filter_le (fun b : List UInt8 => decide (b ≠ [])) ((List.range k).map (nowB L H ats bl))
  simpa [stayL] using this
theorem parN_len (hH : HadOk (d : Int) H) (hb : ∀ x ∈ bl, x.length = 8) (k : Nat) : (parN L H ats bl k).length = 8 := zxs_len _ _ 8 (by simp [zero8]) (stay_len hH hb k)
theorem wrT_len : (wrT L H ats bl s d).length = d + 1 := by simp [wrT]
theorem wrT_at (h : i < d) : (wrT L H ats bl s d)[i]? = some (newE L H ats bl s i) := by
  rw [wrT, List.getElem?_append_left (by simpa using h), List.getElem?_map, List.getElem?_range h]
  rfl
theorem wrT_last : (wrT L H ats bl s d)[d]? = some ⟨s, crc (parN L H ats bl d), false⟩ := by
  rw [wrT, List.getElem?_append_right (by simp)]
  simp
theorem newE_ok (hs : NumOk s) (hT : TabOk (d : Int) L) (hi : i < d) : EntOk (newE L H ats bl s i) := by
  have hc : ∀ l, NumOk (crc l : Int) := fun l => by have := crc_lt l; exact ⟨by omega, by omega⟩
  have hL := hT.1
  have he : EntOk (entN L i) := by
    unfold entN
    rw [List.getElem?_eq_getElem (by omega)]
    exact hT.2.1 _ (List.getElem_mem _)
  unfold newE
  split
  · exact ⟨hs, hc _⟩
  · split
    · exact he
    · exact he
theorem wrT_ok (hs : NumOk s) (hT : TabOk (d : Int) L) : TabOk (d : Int) (wrT L H ats bl s d) := by
  have hc : ∀ l, NumOk (crc l : Int) := fun l => by have := crc_lt l; exact ⟨by omega, by omega⟩
  refine ⟨by rw [wrT_len]; omega, fun e he => ?_, fun e he => ?_⟩
  · simp only [wrT, List.mem_append, List.mem_map, List.mem_range, List.mem_singleton] at he
    rcases he with ⟨i, hi, rfl⟩ | rfl
    · exact newE_ok hs hT hi
    · exact ⟨hs, hc _⟩
  · rw [Int.toNat_natCast, wrT_last] at he
    injection he with he
    subst he
    rfl
end

end Go.Proofs.Ytikjhcfalofgaaa

namespace Go.Proofs.Ytikjhcfalofgaaa
open Go.RowKit Go.Lib
set_option linter.unusedVariables false
set_option maxRecDepth 100000

/-- slices.Index over ints. -/
def IdxPostS (L : List Int) (x : Int) (w : World) (e : Ending) (w' : World) : Prop := w = w' ∧ ((∃ k : Nat, k < L.length ∧ L[k]? = some x ∧ x ∉ L.take k ∧ e = .returned (.int .i64 k)) ∨ (x ∉ L ∧ e = .returned (.int .i64 (-1))))
set_option maxHeartbeats 1000000 in
theorem indexS_any (A : Option Addr) (n c : Nat) (L : List Int) (x : Int) (w : World) (ha : Is w A n c L) (hn : n ≤ 65536) :
    Calls Try.prog 34 #[.slice A n c, .int .i64 x] w (IdxPostS L x w) := by
  unfold IdxPostS
  have hlen := ha.len
  have HLEN := hide hlen
  clear hlen
  go_enter Try.func34, Try.ntmps34
  go_wp2_with fail
  go_loop [8] (fun i => ∃ k : Nat, k ≤ n ∧ i = .int .i64 k ∧ Hid (x ∉ L.take k)) (fun i => n - (RowKit.intOf i).toNat)
  case atStart => exact ⟨0, Nat.zero_le _, rfl, hide (by simp)⟩
  case round =>
    obtain ⟨k, hk, rfl, hno⟩ := hrel
    by_cases hlt : k < n
    · obtain ⟨ad, y, rfl, hadl, hy, hyi, hcell⟩ := at_int ha hlt
      by_cases hok : x = y
      · obtain rfl := hok.symm
        have HY := hide hy
        clear hy hok
        go_wp2_with fail
        go_ret
        exact ⟨rfl, .inl ⟨k, by rw [HLEN.out]; exact hlt, HY.out, hno.out, rfl⟩⟩
      · have hb : (x == y) = false := by simpa using hok
        have hnext : x ∉ L.take (k + 1) := by
          obtain ⟨h1, e1⟩ := List.getElem?_eq_some_iff.1 hy
          rw [List.take_succ_eq_append_getElem h1, e1]
          intro h
          rcases List.mem_append.1 h with h | h
          · exact hno.out h
          · simp at h; exact hok h
        have HN := hide hnext
        clear hok hy hnext
        go_wp2_with fail
        go_round
        case rel => exact ⟨k + 1, by omega, by go_num, HN⟩
        case measure => simp [RowKit.intOf]; omega
    · obtain rfl : k = n := by omega
      have hfin : x ∉ L := by
        have h := hno.out
        rwa [List.take_of_length_le (by rw [HLEN.out]; omega)] at h
      have HF := hide hfin
      clear hfin
      go_wp2_with fail
      go_ret
      exact ⟨rfl, .inr ⟨HF.out, rfl⟩⟩

def Blk8 (l : List UInt8) : Prop := l.length = 8
instance (l : List UInt8) : Decidable (Blk8 l) := by unfold Blk8; infer_instance
theorem wrong8_any (A : Option Addr) (n c : Nat) (l : List UInt8) (w : World) (hl : l.length = n) : Calls Try.prog 53 #[.slice A n c] w fun e w' => e = .returned (.bool (!decide (Blk8 l))) ∧ w = w' := by
  by_cases h8 : n = 8
  · rw [show decide (Blk8 l) = true from decide_eq_true (by show l.length = 8; omega)]
    subst h8
    clear hl
    go_enter Try.func53, Try.ntmps53
    go_wp2_with fail
    go_ret
    exact ⟨rfl, rfl⟩
  · have e8 : ((n : Int) != 8) = true := by simp; omega
    rw [show decide (Blk8 l) = false from decide_eq_false (fun h => h8 (by rw [← hl]; exact h))]
    clear hl h8
    go_enter Try.func53, Try.ntmps53
    go_wp2_with fail
    go_ret
    exact ⟨rfl, rfl⟩

set_option maxHeartbeats 1000000 in
theorem index8_any (A : Option Addr) (n c : Nat) (H : List (List UInt8)) (w : World) (ha : Rs w A n c H) (hn : n ≤ 65536) :
    Calls Try.prog 67 #[.slice A n c, .func (.func 53) #[] #[]] w fun e w' => w = w' ∧
      (((∀ x ∈ H, Blk8 x) ∧ e = .returned (.int .i64 (-1))) ∨ (¬ (∀ x ∈ H, Blk8 x)) ∧ ∃ k : Nat, e = .returned (.int .i64 k)) := by
  have hlen := ha.len
  have HLEN := hide hlen
  clear hlen
  go_enter Try.func67, Try.ntmps67
  go_wp2_with fail
  go_loop [8] (fun i => ∃ k : Nat, k ≤ n ∧ i = .int .i64 k ∧ Hid (∀ x ∈ H.take k, Blk8 x)) (fun i => n - (intOf i).toNat)
  case atStart => exact ⟨0, Nat.zero_le _, rfl, by intro x hx; simp at hx⟩
  case round =>
    obtain ⟨k, hk, rfl, hall⟩ := hrel
    by_cases hlt : k < n
    · obtain ⟨ad, l, A1, n1, c1, rfl, hadl, hx, hs, hcell⟩ := at_row ha hlt
      have hw := fun w => wrong8_any A1 n1 c1 l w hs.len
      by_cases hok : Blk8 l
      · rw [decide_eq_true hok] at hw
        have hnext : ∀ y ∈ H.take (k + 1), Blk8 y := by
          obtain ⟨h1, e1⟩ := List.getElem?_eq_some_iff.1 hx
          rw [List.take_succ_eq_append_getElem h1, e1]
          intro y hy
          rcases List.mem_append.1 hy with hy | hy
          · exact hall.out y hy
          · simp at hy; subst hy; exact hok
        have HN := hide hnext
        have HW := hide hw
        clear hw hnext hok hx
        go_wp2_with fail
        refine (HW.out _).mono ?_
        rintro e w1 ⟨rfl, rfl⟩
        go_wp2_with fail
        go_round
        case rel => exact ⟨k + 1, by omega, by go_num, HN⟩
        case measure => simp [intOf]; omega
      · rw [decide_eq_false hok] at hw
        have hbad : ¬ ∀ y ∈ H, Blk8 y := fun h => hok (h l (List.mem_of_getElem? hx))
        have HB := hide hbad
        have HW := hide hw
        clear hw hbad hok hx
        go_wp2_with fail
        refine (HW.out _).mono ?_
        rintro e w1 ⟨rfl, rfl⟩
        go_wp2_with fail
        go_ret
        exact ⟨rfl, .inr ⟨HB.out, k, rfl⟩⟩
    · obtain rfl : k = n := by omega
      go_wp2_with fail
      go_ret
      refine ⟨rfl, .inl ⟨?_, rfl⟩⟩
      have h := hall.out
      rwa [List.take_of_length_le (by rw [HLEN.out]; omega)] at h

set_option maxHeartbeats 1000000 in
theorem cont8_any (A : Option Addr) (n c : Nat) (H : List (List UInt8)) (w : World) (ha : Rs w A n c H) (hn : n ≤ 65536) :
    Calls Try.prog 52 #[.slice A n c, .func (.func 53) #[] #[]] w fun e w' => e = .returned (.bool (!H.all fun x => decide (Blk8 x))) ∧ w = w' := by
  have hi := index8_any A n c H w ha hn
  obtain ⟨B, hB⟩ : ∃ B, B = !H.all fun x => decide (Blk8 x) := ⟨_, rfl⟩
  have hB1 : (∀ x ∈ H, Blk8 x) → B = false := fun h => by rw [hB, show (H.all fun x => decide (Blk8 x)) = true by simpa using h]; rfl
  have hB2 : ¬ (∀ x ∈ H, Blk8 x) → B = true := fun h => by rw [hB, show (H.all fun x => decide (Blk8 x)) = false by rw [← Bool.not_eq_true]; simpa using h]; rfl
  rw [← hB]
  have HI := hide hi
  have H1 := hide hB1
  have H2 := hide hB2
  clear hi hB1 hB2 hB
  go_enter Try.func52, Try.ntmps52
  go_wp2_with fail
  refine HI.out.mono ?_
  rintro e w1 ⟨rfl, ⟨h, rfl⟩ | ⟨h, k, rfl⟩⟩
  · obtain rfl := H1.out h
    clear h
    go_wp2_with fail
    go_ret
    exact ⟨rfl, rfl⟩
  · obtain rfl := H2.out h
    clear h
    go_wp2_with fail
    go_ret
    exact ⟨by simp, rfl⟩


theorem whole_any (A : Option Addr) (n c : Nat) (H : List (List UInt8)) (w : World) (ha : Rs w A n c H) (hn : n ≤ 65536) :
    Calls Try.prog 32 #[.slice A n c] w fun e w' => e = .returned (.bool (decide (∀ x ∈ H, Blk8 x))) ∧ w = w' := by
  have hi := cont8_any A n c H w ha hn
  obtain ⟨B, hB⟩ : ∃ B, B = H.all fun x => decide (Blk8 x) := ⟨_, rfl⟩
  have hB2 : decide (∀ x ∈ H, Blk8 x) = B := by rw [hB, Bool.eq_iff_iff]; simp
  rw [← hB] at hi
  rw [hB2]
  have HI := hide hi
  clear hi hB hB2
  go_enter Try.func32, Try.ntmps32
  go_wp2_with fail
  refine HI.out.mono ?_
  rintro e w1 ⟨rfl, rfl⟩
  go_wp2_with fail
  go_ret
  exact ⟨by simp, rfl⟩

set_option maxHeartbeats 1000000 in
theorem bright_any (A : Option Addr) (n c : Nat) (H : List (List UInt8)) (w : World) (ha : Rs w A n c H) (hn : n ≤ 65536) :
    Calls Try.prog 19 #[.slice A n c] w fun e w' => e = .returned (.bool (decide (∀ x ∈ H, Blk8 x))) ∧ w = w' := by
  have hlen := ha.len
  have HLEN := hide hlen
  obtain ⟨B, hB⟩ : ∃ B, B = decide (∀ x ∈ H, Blk8 x) := ⟨_, rfl⟩
  have hB1 : (∀ x ∈ H, Blk8 x) → B = true := fun h => by rw [hB]; exact decide_eq_true h
  have hB2 : ∀ x ∈ H, ¬ Blk8 x → B = false := fun x hx h => by rw [hB]; exact decide_eq_false (fun h2 => h (h2 x hx))
  rw [← hB]
  have H1 := hide hB1
  have H2 := hide hB2
  clear hlen hB hB1 hB2
  go_enter Try.func19, Try.ntmps19
  go_wp2_with fail
  go_loop [3] (fun i => ∃ k : Nat, k ≤ n ∧ i = .int .i64 k ∧ Hid (∀ x ∈ H.take k, Blk8 x)) (fun i => n - (RowKit.intOf i).toNat)
  case atStart => exact ⟨0, Nat.zero_le _, rfl, by intro x hx; simp at hx⟩
  case round =>
    obtain ⟨k, hk, rfl, hall⟩ := hrel
    by_cases hlt : k < n
    · obtain ⟨ad, l, A1, n1, c1, rfl, hadl, hx, hs, hcell⟩ := at_row ha hlt
      by_cases hok : n1 = 8
      · subst hok
        have hnext : ∀ y ∈ H.take (k + 1), Blk8 y := by
          obtain ⟨h1, e1⟩ := List.getElem?_eq_some_iff.1 hx
          rw [List.take_succ_eq_append_getElem h1, e1]
          intro y hy
          rcases List.mem_append.1 hy with hy | hy
          · exact hall.out y hy
          · simp at hy; subst hy; exact hs.len
        have HN := hide hnext
        clear hnext hx
        go_wp2_with fail
        go_round
        case rel => exact ⟨k + 1, by omega, by go_num, HN⟩
        case measure => simp [RowKit.intOf]; omega
      · have e8 : ((n1 : Int) != 8) = true := by simp; omega
        obtain rfl := H2.out l (List.mem_of_getElem? hx) (fun h => hok (hs.len.symm.trans h))
        clear hx
        go_wp2_with fail
        go_ret
        exact ⟨rfl, rfl⟩
    · obtain rfl : k = n := by omega
      have h := hall.out
      rw [List.take_of_length_le (by rw [HLEN.out]; omega)] at h
      obtain rfl := H1.out h
      clear h
      go_wp2_with fail
      go_ret
      exact ⟨rfl, rfl⟩

set_option maxHeartbeats 1000000 in
theorem clonee_any (A : Option Addr) (n c : Nat) (L : List Ent) (w : World) (ha : Sl entR 3 w (Old w) A n c L) (hn : n ≤ 65536) :
    Calls Try.prog 54 #[.slice A n c] w fun e w' => ∃ A' c', e = .returned (.slice A' n c') ∧ Ow entR 3 w' w.heap.size w.heap.size 61 (.slice A' n c') n L ∧ Below w.heap.size w w' := by
  obtain ⟨i0, hi0, hz0, hz1, hz2⟩ := info_parts ent_info
  have heq := fun W => Lib.run_eql_slice_nil (P := Try.prog) W 24 61 A n c 0 0 Try.underlying24
  cases A with
  | none =>
    obtain ⟨rfl, rfl⟩ := sl_none ha
    go_enter Try.func54, Try.ntmps54
    go_wp2
    go_ret
    exact ⟨none, 0, rfl, Ow.nil_ _ _ _ _, Below.refl _ _⟩
  | some ad =>
    have hb0 : Below w.heap.size w (w.alloc (.cells #[] 61)) := (Below.refl _ _).alloc (Nat.le_refl _) _
    have ho0 : Ow entR 3 (w.alloc (.cells #[] 61)) w.heap.size w.heap.size 61 (.slice (some ⟨w.heap.size, 0, none⟩) 0 0) 0 [] := Ow.made w #[] (by simp) (by simp) rfl (by simp) (fun i x hx => by simp at hx) entR_fine
    have ha0 := ha.on entR_fine hb0
    go_enter Try.func54, Try.ntmps54
    go_wp2_with (at_builtin; go_loud (refine wpList_append_ow _ rfl (.tmp 5) (.tmp 6) _ rfl entR_fine w.heap.size w.heap.size 61 i0 _ 24 Try.underlying24 hi0 hz0 hz1 hz2 rfl (by omega) (.slice (some ⟨w.heap.size, 0, none⟩) 0 0) 0 [] rfl ho0 _ (some ad) n c L rfl ha0 (fun _ _ _ h => h) (by simp only [maxLen]; omega) (by omega) hb0.size ?_); intro v1 w1 hown1 hg1 hat1)
    go_ret
    rw [Nat.zero_add, List.nil_append] at hown1
    obtain ⟨A', c', rfl⟩ := hown1.form
    exact ⟨A', c', rfl, hown1, hb0.trans (below_grown hg1 ho0.lt hb0.size)⟩

set_option maxHeartbeats 1000000 in
theorem ttwin_any (A : Option Addr) (n c : Nat) (L : List Ent) (w : World) (ha : Sl entR 3 w (Old w) A n c L) (hn : n ≤ 65536) :
    Calls Try.prog 33 #[.agg #[.slice A n c]] w fun e w' => ∃ A' c', e = .returned (.agg #[.slice A' n c']) ∧ Ow entR 3 w' w.heap.size w.heap.size 61 (.slice A' n c') n L ∧ Below w.heap.size w w' := by
  obtain ⟨W0, hW0⟩ : ∃ W0, W0 = (w.alloc (.cells #[.slice A n c] 26)).alloc (.cells #[.slice none 0 0] 26) := ⟨_, rfl⟩
  have hb0 : Below w.heap.size w W0 := by rw [hW0]; exact (alloc_below w _).alloc (by simp) _
  have ha0 := ha.on entR_fine hb0
  have hN : W0.heap.size = w.heap.size + 1 + 1 := by rw [hW0]; simp
  have hbx : ∀ w1, Below W0.heap.size W0 w1 → w1.frozen? ⟨w.heap.size + 1, 0, none⟩ = false ∧ w1.cell? ⟨w.heap.size + 1, 0, none⟩ = some (.slice none 0 0) := fun w1 hb1 => by
    subst hW0
    exact ⟨by have h := box_free hb1 0; simpa using h, by have h := box_cell hb1 0 _ rfl; simpa using h⟩
  have hq0 : W0.cell? ⟨w.heap.size, 0, none⟩ = some (.slice A n c) := by rw [hW0]; exact box_cell (alloc_below _ _) 0 _ rfl
  have HC := hide (clonee_any A n c L W0 ha0 hn)
  have HBX := hide hbx
  have HN := hide hN
  rw [hW0] at hq0
  clear hbx hN
  go_enter Try.func33, Try.ntmps33
  go_wp2_with fail
  rw [← hW0]
  clear hW0 hq0
  refine HC.out.mono ?_
  rintro e w1 ⟨A', c', rfl, hown1, hb1⟩
  obtain ⟨f1, k1⟩ := HBX.out w1 hb1
  go_wp2_with fail
  refine bodyPost_ret (v := .agg #[.slice A' n c']) (by simp [results, Try.results33, go_sem, k1]) rfl ⟨A', c', rfl, ?_, ?_⟩
  · have hN := HN.out
    refine (hown1.kept (rw := some (w.heap.size + 1)) entR_fine (grownBy_set w1 _ _) (.inr fun e => ?_) (fun b hb => ?_)).less entR_fine (by omega) (by omega)
    · have h := (hown1.lt _ e).1
      omega
    · have h : W0.heap.size ≤ b := hb.1
      exact blk_set w1 _ _ _ (by show b ≠ w.heap.size + 1; omega)
  · exact (th hb0 hb1).setCell (by show w.heap.size ≤ w.heap.size + 1; omega) _

/-- The places that are looked at, one behind the other. -/
theorem ats_step {d : Int} {L : List Int} {k : Nat} (h : ∀ j, j < k → AtOk d L j) (h1 : AtOk d L k) : ∀ j, j < k + 1 → AtOk d L j := fun j hj => by
  by_cases e : j = k
  · rw [e]; exact h1
  · exact h j (by omega)

set_option maxHeartbeats 2000000 in
theorem rising_any (g : Geo) (A : Option Addr) (n c : Nat) (L : List Int) (w : World) (ha : Is w A n c L) (hn : n ≤ 65536) :
    Calls Try.prog 31 #[g.v, .slice A n c] w fun e w' => e = .returned (.bool (decide (AtsOk g.data L))) ∧ Below w.heap.size w w' := by
  have hlen := ha.len
  have hb0 : Below w.heap.size w (w.alloc (.cells #[.int .i64 g.zones, .int .i64 g.data, .int .i64 g.spares, .int .i64 g.slots, .int .i64 g.anchors] 23)) := alloc_below w _
  have ha0 := ha.on intR_fine hb0
  obtain ⟨z, d, s, l, a⟩ := g
  unfold Geo.v
  dsimp only at hb0 ha0 ⊢
  obtain ⟨B, hB⟩ : ∃ B, B = decide (AtsOk d L) := ⟨_, rfl⟩
  have hB1 : 0 < n → (∀ k, k < n → AtOk d L k) → B = true := fun h0 h => by rw [hB]; exact decide_eq_true ⟨by rintro rfl; simp at hlen; omega, fun k hk => h k (by omega)⟩
  have hB0 : n = 0 → B = false := fun h => by rw [hB]; exact decide_eq_false fun h2 => h2.1 (List.eq_nil_of_length_eq_zero (by omega))
  have hB2 : ∀ k, k < n → ¬ AtOk d L k → B = false := fun k hk h => by rw [hB]; exact decide_eq_false fun h2 => h (h2.2 k (by omega))
  rw [← hB]
  have H0 := hide hB0
  have H1 := hide hB1
  have H2 := hide hB2
  clear hlen hB hB0 hB1 hB2
  go_enter Try.func31, Try.ntmps31
  go_wp2_with fail
  go_loop [9] (fun i => ∃ k : Nat, k ≤ n ∧ i = .int .i64 k ∧ Hid (∀ j, j < k → AtOk d L j)) (fun i => n - (RowKit.intOf i).toNat)
  case atStart => exact ⟨0, Nat.zero_le _, rfl, hide fun j hj => absurd hj (by omega)⟩
  case round =>
    obtain ⟨k, hk, rfl, hall⟩ := hrel
    by_cases hlt : k < n
    · obtain ⟨ad, x, rfl, hadl, hx, hxi, hcell⟩ := at_int ha0 hlt
      have hlI : (k : Int) < (n : Int) := by omega
      have hk0 : (0 : Int) ≤ (k : Int) := by omega
      have hax := atN_at hx
      by_cases h1 : x < 0
      · obtain rfl := H2.out k hlt (fun h => by have := h.1.1; omega)
        clear hx hax
        go_wp2_with fail
        go_ret
        exact ⟨rfl, hb0⟩
      · by_cases h2 : d ≤ x
        · obtain rfl := H2.out k hlt (fun h => by have := h.1.2; omega)
          clear hx hax
          go_wp2_with fail
          go_ret
          exact ⟨rfl, hb0⟩
        · by_cases h3 : k = 0
          · have hnx : ∀ j, j < k + 1 → AtOk d L j := ats_step hall.out ⟨⟨by omega, by omega⟩, .inl h3⟩
            have HNX := hide hnx
            have g1 : ¬ (0 : Int) < (k : Int) := by omega
            have g2 : decide (0 < k) = false := by simp; omega
            clear hx hax hnx h3
            go_wp2_with fail
            go_round
            case rel => exact ⟨k + 1, by omega, by go_num, HNX⟩
            case measure => (first | omega | (simp [RowKit.intOf]; omega) | (unfold RowKit.intOf; simp; omega) | go_num)
          · obtain ⟨q, hq⟩ : ∃ q, k = q + 1 := ⟨k - 1, by omega⟩
            obtain ⟨ad', y, had, _, hy, hyi, hycell⟩ := at_int ha0 (show q < n by omega)
            injection had with had
            subst had
            have hay := atN_at hy
            have hqk : k - 1 = q := by omega
            have w1 : IntKind.i64.wrap ((k : Int) - 1) = (q : Int) := by rw [IntWalk.i64_in _ (by omega)]; omega
            have w2 : (k : Int) - 1 = (q : Int) := by omega
            have w3 : (0 : Int) < (k : Int) := by omega
            have w5 : decide (0 < k) = true := by simp; omega
            have w4 : (q : Int) < (n : Int) := by omega
            have w6 : (0 : Int) ≤ (q : Int) := by omega
            by_cases h4 : x ≤ y
            · obtain rfl := H2.out k hlt (fun h => by have h5 := h.2; rw [hqk, hax, hay] at h5; omega)
              clear hx hax hy hay hq hqk h3
              go_wp2_with fail
              go_ret
              exact ⟨rfl, hb0⟩
            · have hnx : ∀ j, j < k + 1 → AtOk d L j := ats_step hall.out ⟨⟨by omega, by omega⟩, .inr (by rw [hqk, hax, hay]; omega)⟩
              have HNX := hide hnx
              clear hx hax hy hay hnx hq hqk h3
              go_wp2_with fail
              clear w1 w2
              go_round
              case rel => exact ⟨k + 1, by omega, by go_num, HNX⟩
              case measure => (first | omega | (simp [RowKit.intOf]; omega) | (unfold RowKit.intOf; simp; omega) | go_num)
    · obtain rfl : k = n := by omega
      by_cases h0 : k = 0
      · obtain rfl := H0.out h0
        have g1 : ¬ (0 : Int) < (k : Int) := by omega
        have g2 : decide (0 < k) = false := by simp; omega
        clear h0
        go_wp2_with fail
        go_ret
        exact ⟨rfl, hb0⟩
      · have h0I : (0 : Int) < (k : Int) := by omega
        have h0N : decide (0 < k) = true := by simp; omega
        obtain rfl := H1.out (by omega) hall.out
        go_wp2_with fail
        go_ret
        exact ⟨rfl, hb0⟩

theorem at_ge {d : Int} {L : List Int} {k : Nat} (h : ∀ j, j < k → AtOk d L j) {j : Nat} (hj : j < k) : (j : Int) ≤ atN L j := by
  induction j with
  | zero => exact (h 0 hj).1.1
  | succ j ih =>
    have h1 := ih (by omega)
    have h2 := (h (j + 1) hj).2
    rw [Nat.add_sub_cancel] at h2
    omega
theorem at_room {d : Int} {L : List Int} {k : Nat} (h : ∀ j, j < k → AtOk d L j) (hd : 0 ≤ d) : (k : Int) ≤ d := by
  rcases Nat.eq_zero_or_pos k with h0 | h0
  · omega
  · have h1 := at_ge h (show k - 1 < k by omega)
    have h2 := (h (k - 1) (by omega)).1.2
    omega

set_option maxHeartbeats 2000000 in
theorem rats_any (d : Int) (hd : 0 ≤ d ∧ d ≤ 1000) (A : Option Addr) (n c : Nat) (L : List Int) (w : World) (ha : Is w A n c L) :
    Calls Try.prog 18 #[.slice A n c, .int .i64 d] w fun e w' => e = .returned (.bool (decide (AtsOk d L))) ∧ Below w.heap.size w w' := by
  have hlen := ha.len
  obtain ⟨B, hB⟩ : ∃ B, B = decide (AtsOk d L) := ⟨_, rfl⟩
  have hB1 : 0 < n → (∀ k, k < n → AtOk d L k) → B = true := fun h0 h => by rw [hB]; exact decide_eq_true ⟨by rintro rfl; simp at hlen; omega, fun k hk => h k (by omega)⟩
  have hB0 : n = 0 → B = false := fun h => by rw [hB]; exact decide_eq_false fun h2 => h2.1 (List.eq_nil_of_length_eq_zero (by omega))
  have hB2 : ∀ k, k < n → ¬ AtOk d L k → B = false := fun k hk h => by rw [hB]; exact decide_eq_false fun h2 => h (h2.2 k (by omega))
  rw [← hB]
  have H0 := hide hB0
  have H1 := hide hB1
  have H2 := hide hB2
  clear hlen hB hB0 hB1 hB2
  go_enter Try.func18, Try.ntmps18
  go_wp2_with fail
  go_loopw [5] (fun i wr => ∃ k : Nat, k ≤ n ∧ i = .int .i64 k ∧ Hid (∀ j, j < k → AtOk d L j) ∧ Below w.heap.size w wr) (fun i _ => n - (RowKit.intOf i).toNat)
  case atStart => exact ⟨0, Nat.zero_le _, rfl, hide fun j hj => absurd hj (by omega), Below.refl _ _⟩
  case round =>
    obtain ⟨k, hk, rfl, hall, hb⟩ := hrel
    have har := ha.on intR_fine hb
    have hkd := at_room hall.out hd.1
    by_cases hlt : k < n
    · obtain ⟨ad, x, rfl, hadl, hx, hxi, hcell⟩ := at_int har hlt
      have hlI : (k : Int) < (n : Int) := by omega
      have hk0 : (0 : Int) ≤ (k : Int) := by omega
      have hax := atN_at hx
      have e1 : IntKind.i64.wrap (d - 1) = d - 1 := IntWalk.i64_in _ (by omega)
      have i8 := fun r => (geo_i8 x 0 (d - 1) (wr.drewN r)).mono fun e w' (h : e = .returned (.bool (decide (0 ≤ x ∧ x ≤ d - 1))) ∧ wr.drewN r = w') => (⟨h.1, h.2.symm⟩ : e = .returned (.bool (decide (0 ≤ x ∧ x ≤ d - 1))) ∧ w' = wr.drewN r)
      by_cases h1 : 0 ≤ x ∧ x ≤ d - 1
      · rw [decide_eq_true h1] at i8
        have I8 := hide i8
        clear i8
        by_cases h3 : k = 0
        · have hnx : ∀ j, j < k + 1 → AtOk d L j := ats_step hall.out ⟨⟨by omega, by omega⟩, .inl h3⟩
          have HNX := hide hnx
          have g1 : ¬ (0 : Int) < (k : Int) := by omega
          have g2 : decide (0 < k) = false := by simp; omega
          clear hx hax hnx h3 h1
          go_wp2_with fail
          go_quiet ((go_at_call 40; exact Calls.quiet_of_same (I8.out _)))
          go_wp2_with fail
          go_roundw
          case rel => exact ⟨k + 1, by omega, by go_num, HNX, th hb (drewN_below _ _)⟩
          case measure => (first | omega | (simp [RowKit.intOf]; omega) | (unfold RowKit.intOf; simp; omega) | go_num)
        · obtain ⟨p, hp⟩ : ∃ p, k = p + 1 := ⟨k - 1, by omega⟩
          obtain ⟨ad', y, had, _, hy, hyi, hycell⟩ := at_int har (show p < n by omega)
          injection had with had
          subst had
          have hay := atN_at hy
          have hqk : k - 1 = p := by omega
          have w1 : IntKind.i64.wrap ((k : Int) - 1) = (p : Int) := by rw [IntWalk.i64_in _ (by omega)]; omega
          have w2 : (k : Int) - 1 = (p : Int) := by omega
          have w3 : (0 : Int) < (k : Int) := by omega
          have w5 : decide (0 < k) = true := by simp; omega
          have w4 : (p : Int) < (n : Int) := by omega
          have w6 : (0 : Int) ≤ (p : Int) := by omega
          by_cases h4 : x ≤ y
          · obtain rfl := H2.out k hlt (fun h => by have h5 := h.2; rw [hqk, hax, hay] at h5; omega)
            clear hx hax hy hay hp hqk h3 h1
            go_wp2_with fail
            go_quiet ((go_at_call 40; exact Calls.quiet_of_same (I8.out _)))
            go_wp2_with fail
            go_ret
            exact ⟨rfl, th hb (drewN_below _ _)⟩
          · have hnx : ∀ j, j < k + 1 → AtOk d L j := ats_step hall.out ⟨⟨by omega, by omega⟩, .inr (by rw [hqk, hax, hay]; omega)⟩
            have HNX := hide hnx
            clear hx hax hy hay hnx hp hqk h3 h1
            go_wp2_with fail
            go_quiet ((go_at_call 40; exact Calls.quiet_of_same (I8.out _)))
            clear w1 w2
            go_wp2_with fail
            go_roundw
            case rel => exact ⟨k + 1, by omega, by go_num, HNX, th hb (drewN_below _ _)⟩
            case measure => (first | omega | (simp [RowKit.intOf]; omega) | (unfold RowKit.intOf; simp; omega) | go_num)
      · rw [decide_eq_false h1] at i8
        have I8 := hide i8
        obtain rfl := H2.out k hlt (fun h => by have h5 := h.1; rw [hax] at h5; omega)
        have hg0 : ∀ p : Nat, True := fun _ => trivial
        clear i8 hx hax h1
        go_wp2_with fail
        go_quiet ((go_at_call 40; exact Calls.quiet_of_same (I8.out _)))
        go_wp2_with fail
        go_ret
        exact ⟨rfl, th hb (drewN_below _ _)⟩
    · obtain rfl : k = n := by omega
      by_cases h0 : k = 0
      · obtain rfl := H0.out h0
        have g1 : ¬ (0 : Int) < (k : Int) := by omega
        have g2 : decide (0 < k) = false := by simp; omega
        clear h0
        go_wp2_with fail
        go_ret
        exact ⟨rfl, hb⟩
      · have h0I : (0 : Int) < (k : Int) := by omega
        have h0N : decide (0 < k) = true := by simp; omega
        obtain rfl := H1.out (by omega) hall.out
        go_wp2_with fail
        go_ret
        exact ⟨rfl, hb⟩

end Go.Proofs.Ytikjhcfalofgaaa

namespace Go.Proofs.Ytikjhcfalofgaaa
open Go.RowKit Go.Lib
set_option linter.unusedVariables false
set_option maxRecDepth 100000

/-- A field of an entry that is owned, stored into. -/
theorem ent_spot {w : World} {base lo : Nat} {e : TypeId} {A : Option Addr} {n c : Nat} {L : List Ent} (h : Ow entR 3 w base lo e (.slice A n c) n L) {k : Nat} (hk : k < n) :
    ∃ g x, A = some ⟨g, 0, none⟩ ∧ base ≤ g ∧ g < w.heap.size ∧ L[k]? = some x ∧
      (w.cell? ⟨g, k * 3, none⟩ = some (.int .i64 x.stamp) ∧ w.cell? ⟨g, k * 3 + 1, none⟩ = some (.int .i64 x.sum) ∧ w.cell? ⟨g, k * 3 + 2, none⟩ = some (.bool x.lost)) ∧ (∀ j, w.frozen? ⟨g, j, none⟩ = false) ∧
      (∀ z, InI z → Ow entR 3 (w.setCell ⟨g, k * 3, none⟩ (.int .i64 z)) base lo e (.slice A n c) n (L.set k ⟨z, x.sum, x.lost⟩)) ∧
      (∀ z, InI z → Ow entR 3 (w.setCell ⟨g, k * 3 + 1, none⟩ (.int .i64 z)) base lo e (.slice A n c) n (L.set k ⟨x.stamp, z, x.lost⟩)) ∧
      (∀ b, Ow entR 3 (w.setCell ⟨g, k * 3 + 2, none⟩ (.bool b)) base lo e (.slice A n c) n (L.set k ⟨x.stamp, x.sum, b⟩)) := by
  obtain ⟨g, x, cs, u, rfl, hg, hgl, hx, hr, hu, hcell, hfr, hst⟩ := h.spotN entR_fine hk (show 0 < 3 by omega)
  obtain ⟨g1, x1, cs1, u1, e1, _, _, hx1, hr1, hu1, hcell1, _, hst1⟩ := h.spotN entR_fine hk (show 1 < 3 by omega)
  obtain ⟨g2, x2, cs2, u2, e2, _, _, hx2, hr2, hu2, hcell2, _, hst2⟩ := h.spotN entR_fine hk (show 2 < 3 by omega)
  injection e1 with e1
  injection e1 with e1
  injection e2 with e2
  injection e2 with e2
  subst e1; subst e2
  rw [hx] at hx1 hx2
  injection hx1 with hx1
  injection hx2 with hx2
  subst hx1; subst hx2
  obtain ⟨rfl, i1, i2⟩ := hr
  obtain ⟨rfl, _, _⟩ := hr1
  obtain ⟨rfl, _, _⟩ := hr2
  simp at hu hu1 hu2
  subst hu; subst hu1; subst hu2
  refine ⟨g, x, rfl, hg, hgl, hx, ⟨hcell, hcell1, hcell2⟩, fun j => ?_, fun z hz => hst _ _ rfl ⟨rfl, hz, i2⟩, fun z hz => hst1 _ _ rfl ⟨rfl, i1, hz⟩, fun b => hst2 _ _ rfl ⟨rfl, i1, i2⟩⟩
  obtain ⟨_, xs, hxs, _⟩ := h
  exact hxs.frozenAt j


/-- All three fields of an entry. -/
theorem ent_three {w : World} {base lo : Nat} {e : TypeId} {g n c : Nat} {L : List Ent} (h : Ow entR 3 w base lo e (.slice (some ⟨g, 0, none⟩) n c) n L) {k : Nat} (hk : k < n) (y : Ent) (h1 : InI y.stamp) (h2 : InI y.sum) :
    Ow entR 3 (((w.setCell ⟨g, k * 3, none⟩ (.int .i64 y.stamp)).setCell ⟨g, k * 3 + 1, none⟩ (.int .i64 y.sum)).setCell ⟨g, k * 3 + 2, none⟩ (.bool y.lost)) base lo e (.slice (some ⟨g, 0, none⟩) n c) n (L.set k y) := by
  obtain ⟨g0, x0, e0, _, _, hx0, _, _, s0, _, _⟩ := ent_spot h hk
  injection e0 with e0
  injection e0 with e0
  subst e0
  obtain ⟨g1, x1, e1, _, _, hx1, _, _, _, s1, _⟩ := ent_spot (s0 y.stamp h1) hk
  injection e1 with e1
  injection e1 with e1
  subst e1
  obtain ⟨g2, x2, e2, _, _, hx2, _, _, _, _, s2⟩ := ent_spot (s1 y.sum h2) hk
  injection e2 with e2
  injection e2 with e2
  subst e2
  have hl := (List.getElem?_eq_some_iff.1 hx0).1
  rw [List.getElem?_set_self hl] at hx1
  injection hx1 with hx1
  subst hx1
  rw [List.getElem?_set_self (by rw [List.length_set]; exact hl)] at hx2
  injection hx2 with hx2
  subst hx2
  have h3 := s2 y.lost
  rw [List.set_set, List.set_set] at h3
  exact h3

theorem put_far {w : World} {p q : Addr} {v u : Value} (hne : q.block ≠ p.block) (h : w.cell? q = some u) : (w.setCell p v).cell? q = some u :=
  (World.cell?_of_block (put_blk w p v q.block hne)).trans h

/-- Headers of rows, whose bytes lie in blocks that stay. -/
def Hdrs (w : World) (D : Nat → Prop) (hs : List (Option Addr × Nat × Nat)) (L : List (List UInt8)) : Prop :=
  hs.length = L.length ∧ ∀ (j : Nat) h, hs[j]? = some h → ∃ l, L[j]? = some l ∧ Sl byteR 1 w D h.1 h.2.1 h.2.2 l
theorem Hdrs.nil_ (w : World) (D : Nat → Prop) : Hdrs w D [] [] := ⟨rfl, fun j h hj => by simp at hj⟩
theorem Hdrs.snoc {w : World} {D : Nat → Prop} {hs : List (Option Addr × Nat × Nat)} {L : List (List UInt8)} (h : Hdrs w D hs L) {A : Option Addr} {n c : Nat} {l : List UInt8} (hl : Sl byteR 1 w D A n c l) : Hdrs w D (hs ++ [(A, n, c)]) (L ++ [l]) := by
  refine ⟨by simp [h.1], fun j x hx => ?_⟩
  have hlen := h.1
  by_cases hj : j < hs.length
  · rw [List.getElem?_append_left hj] at hx
    rw [List.getElem?_append_left (by omega)]
    exact h.2 j x hx
  · have h1 := (List.getElem?_eq_some_iff.1 hx).1
    simp at h1
    obtain rfl : j = hs.length := by omega
    rw [List.getElem?_append_right (by omega)] at hx
    simp at hx
    subst hx
    exact ⟨l, by rw [List.getElem?_append_right (by omega)]; simp [hlen], hl⟩
theorem Hdrs.rows {w w' : World} {D : Nat → Prop} {hs : List (Option Addr × Nat × Nat)} {L : List (List UInt8)} (h : Hdrs w D hs L) (hD : ∀ b, D b → w'.heap[b]? = w.heap[b]? ∧ b < w'.heap.size) {A : Option Addr} {n c : Nat} (ho : Sl hdrR 1 w' (Old w') A n c hs) : Rs w' A n c L := by
  refine ⟨by rw [← h.1]; exact ho.len, ho.cap, fun hn => ?_⟩
  obtain ⟨ad, e, hb, hc⟩ := ho.at0 hn
  refine ⟨ad, e, hb, fun i x hx => ?_⟩
  have hil := (List.getElem?_eq_some_iff.1 hx).1
  obtain ⟨y, hy⟩ : ∃ y, hs[i]? = some y := ⟨_, List.getElem?_eq_getElem (by have := h.1; omega)⟩
  obtain ⟨l, hl, hsl⟩ := h.2 i y hy
  rw [hx] at hl
  injection hl with hl
  subst hl
  obtain ⟨cs, hr, hat⟩ := hc i y hy
  exact ⟨cs, ⟨y.1, y.2.1, y.2.2, hr, hsl.move byteR_fine (fun b hb => (hD b hb).1) (fun b hb => (hD b hb).2)⟩, hat⟩

/-- What stands while a zone's blocks are gone through: the boxes; what is not written. N: the first box; w1: the world behind zone.All. -/
structure WKeep (w w1 : World) (d : Int) (N : Nat) (V : Value) (wr : World) : Prop where
  geo : wr.cell? ⟨N, 1, none⟩ = some (.int .i64 d)
  res : wr.cell? ⟨N + 1 + 1, 0, none⟩ = some V
  free : wr.frozen? ⟨N + 1 + 1, 0, none⟩ = false
  dom : ∀ b, (b < N ∨ N + 3 ≤ b) ∧ b < w1.heap.size → wr.heap[b]? = w1.heap[b]?
  bel : Below N w wr
  big : w1.heap.size ≤ wr.heap.size
theorem WKeep.on {w w1 wr wr' : World} {d : Int} {N B : Nat} {V : Value} (h : WKeep w w1 d N V wr) (hb : Below B wr wr') (h1 : w1.heap.size ≤ B) (h3 : N + 3 ≤ B) : WKeep w w1 d N V wr' :=
  ⟨(hb.cell (by show N < B; omega)).trans h.geo, (hb.cell (by show N + 1 + 1 < B; omega)).trans h.res, (hb.frozen (by show N + 1 + 1 < B; omega)).trans h.free, fun b hb' => (hb.block b (by omega)).trans (h.dom b hb'), h.bel.trans (hb.mono (by omega)), Nat.le_trans h.big hb.size⟩
theorem WKeep.put {w w1 wr : World} {d : Int} {N : Nat} {V : Value} (h : WKeep w w1 d N V wr) (p : Addr) (v : Value) (hp : w1.heap.size ≤ p.block) (h3 : N + 3 ≤ p.block) : WKeep w w1 d N V (wr.setCell p v) :=
  ⟨put_far (by show N ≠ p.block; omega) h.geo, put_far (by show N + 1 + 1 ≠ p.block; omega) h.res, by rw [put_free]; exact h.free, fun b hb => (put_blk _ _ _ _ (by omega)).trans (h.dom b hb), h.bel.setCell (by omega) _, by rw [set_size]; exact h.big⟩

theorem emk_is {s : Int} {l : List UInt8} (hs : NumOk s) (h : l.length = 8) : emkE s l = (⟨s, crc l, false⟩, 0) := by
  unfold emkE
  rw [if_neg (by unfold NumOk at hs; simpa using hs), if_neg (by simpa using h)]

/-- The table while its blocks are gone through. -/
def mixE (L : List Ent) (H : List (List UInt8)) (ats : List Int) (bl : List (List UInt8)) (s : Int) (k : Nat) : List Ent := (List.range k).map (newE L H ats bl s) ++ L.drop k
section
variable {L : List Ent} {H : List (List UInt8)} {ats : List Int} {bl : List (List UInt8)} {s : Int} {d k : Nat}
theorem mix_zero : mixE L H ats bl s 0 = L := by simp [mixE]
theorem mix_at (hk : k < L.length) : (mixE L H ats bl s k)[k]? = some (entN L k) := by
  unfold mixE entN
  rw [List.getElem?_append_right (by simp), List.getElem?_drop]
  simp [hk]
theorem mix_set (hk : k < L.length) (x : Ent) : (mixE L H ats bl s k).set k x = (List.range k).map (newE L H ats bl s) ++ x :: L.drop (k + 1) := by
  unfold mixE
  have h1 : L.drop k = L[k] :: L.drop (k + 1) := List.drop_eq_getElem_cons hk
  rw [List.set_append_right _ _ (by simp), h1]
  simp only [List.length_map, List.length_range, Nat.sub_self, List.set_cons_zero]
theorem mix_succ (hk : k < L.length) : (mixE L H ats bl s k).set k (newE L H ats bl s k) = mixE L H ats bl s (k + 1) := by
  rw [mix_set hk]
  unfold mixE
  rw [List.range_succ]
  simp
theorem mix_same (hk : k < L.length) (h : newE L H ats bl s k = entN L k) : mixE L H ats bl s k = mixE L H ats bl s (k + 1) := by
  rw [← mix_succ hk, h]
  refine (List.ext_getElem? fun i => ?_)
  by_cases hi : i = k
  · subst hi
    rw [mix_at hk, List.getElem?_set_self (by simp [mixE]; omega)]
  · rw [List.getElem?_set_ne (by omega)]
theorem mix_last (hL : L.length = d + 1) : (mixE L H ats bl s d).set d ⟨s, crc (parN L H ats bl d), false⟩ = wrT L H ats bl s d := by
  rw [mix_set (by omega), List.drop_of_length_le (by omega)]
  rfl
end

theorem all_goodN {A B : Option Addr} {n c m cb d : Nat} {L : List Ent} {H : List (List UInt8)} {g : Geo} {w : World} (ha : Sl entR 3 w (Old w) A n c L) (hh : Rs w B m cb H) (hn : n ≤ 65536) (hm : m ≤ 65536) (hg : GeoOk g) (hd : g.data = (d : Int)) (hT : TabOk g.data L) (hH : HadOk g.data H) :
    Calls Try.prog 27 #[g.v, .agg #[.slice A n c], .slice B m cb] w fun e w' => ∃ V cv V' cv', e = .returned (.tuple #[.slice V (d + 1) cv, .slice V' (d + 1) cv', .int .i64 0]) ∧ Sl (slR byteR 1) 1 w' (New w.heap.size w') V (d + 1) cv ((List.range (d + 1)).map (knownL L H)) ∧ Sl boolR 1 w' (New w.heap.size w') V' (d + 1) cv' ((List.range (d + 1)).map fun j => decide (knownL L H j ≠ [])) ∧ Below w.heap.size w w' := by
  refine (zall_new A B n c m cb L H g w ha hh hn hm).mono ?_
  rintro e w' ⟨hb, V, nv, cv, V', nv', cv', l, ks, err, rfl, hs, hs', hq⟩
  unfold AllZ at hq
  rcases hq with ⟨h, _⟩ | ⟨_, h, _⟩ | ⟨_, _, rfl, rfl, rfl⟩
  · exact absurd ⟨hg, hT⟩ h
  · exact absurd hH h
  · have h1 := hs.len
    have h2 := hs'.len
    rw [hd] at hs hs' h1 h2
    simp at h1 h2
    subst h1
    subst h2
    exact ⟨V, cv, V', cv', rfl, hs, hs', hb⟩

end Go.Proofs.Ytikjhcfalofgaaa
