/-
  The walk of the law casematelaw05.SealExact.
-/
import Derived.Test.YtnieiobpbioeiaaLaw5b
namespace Go.Proofs.Ytnieiobpbioeiaa
open Go.RowKit
set_option linter.unusedVariables false
set_option maxRecDepth 100000

/-- What a sector is made to, or why not. -/
def MakeQ (x : Sec) (l : List UInt8) (err : Int) : Prop :=
  (SecOk x ∧ x.load.length ≤ 96 ∧ err = 0 ∧ l = sealL x.addr.toNat x.stamp.toNat x.load) ∨ (SecOk x ∧ 96 < x.load.length ∧ err = 2 ∧ l = []) ∨ (¬ SecOk x ∧ err = 1 ∧ l = [])
theorem make_res {A : Option Addr} {n c : Nat} {w : World} {x : Sec} (h : Bs w A n c x.load) :
    Calls Try.prog 45 #[.agg #[.int .i64 x.addr, .int .i64 x.stamp, .slice A n c]] w fun e w' => ∃ V m cv l err, e = .returned (.tuple #[.slice V m cv, .int .i64 err]) ∧ Bs w' V m cv l ∧ MakeQ x l err ∧ Below w.heap.size w w' := by
  have hlen := h.len
  by_cases hok : SecOk x
  · obtain ⟨a, s, ea, es, ha, hs⟩ := secOk_nat hok
    rw [ea, es]
    by_cases hn : 96 < n
    · exact (make_len a s ha hs hn).mono fun e w' ⟨he, hb⟩ => ⟨none, 0, 0, [], 2, he, Sl.nil_ _, .inr (.inl ⟨hok, by omega, rfl, rfl⟩), hb⟩
    · refine (make_ok h a s ha hs (by omega)).mono fun e w' ⟨V, cv, he, ho, hb⟩ => ⟨V, n + 11, cv, _, 0, he, ho.read byteR_fine, .inl ⟨hok, by omega, rfl, ?_⟩, hb⟩
      rw [ea, es]
      rfl
  · exact (make_arg _ _ hok).mono fun e w' ⟨he, hb⟩ => ⟨none, 0, 0, [], 1, he, Sl.nil_ _, .inr (.inr ⟨hok, rfl, rfl⟩), hb⟩

theorem open_load (l : List UInt8) : (openS l).1.load.length ≤ l.length := by
  by_cases h : (openS l).2 = 0
  · obtain ⟨a, s, p, ho, _, _, _, hp, _⟩ := seal_open h
    rw [ho]
    show p.length ≤ _
    omega
  · rw [open_no h]
    exact Nat.zero_le _

set_option maxHeartbeats 2000000 in
theorem law_sealExact {V : Value} {x : Sec} {w : World} (h : ArgR secR w V x) {B : Option Addr} {m d : Nat} {b : List UInt8} (hb : Bs w B m d b) (bit : Int) (hbit : InI bit) (bits : Int) (hbits : InI bits) :
    Calls Try.prog 9 #[V, .slice B m d, .int .i64 bit, .int .i64 bits] w fun e w' => e = .returned (.bool true) ∧ Below w.heap.size w w' := by
  obtain ⟨A, n, c, rfl, _, _, hl⟩ := sec_form h
  have hlen := hl.len
  have hbl := hb.len
  by_cases hn : 300 < n
  · clear hlen hbl
    go_enter Try.func9, Try.ntmps9
    go_wp2_with fail
    go_ret
    exact ⟨rfl, alloc_below _ _⟩
  by_cases hm : 300 < m
  · clear hlen hbl
    go_enter Try.func9, Try.ntmps9
    go_wp2_with fail
    go_ret
    exact ⟨rfl, alloc_below _ _⟩
  have hb0 := alloc_below w (.cells #[.int .i64 x.addr, .int .i64 x.stamp, .slice A n c] 62)
  have hbb0 := hb.on byteR_fine hb0
  have hll0 := hl.on byteR_fine hb0
  have hol := open_load b
  have hfl : (flipL b bit bits).length = b.length := flipL_len _ _ _
  obtain ⟨F, hF⟩ : ∃ F, F = flipL b bit bits := ⟨_, rfl⟩
  have h1 : ∀ {A : Option Addr} {c : Nat} {W : World}, Bs W A m c b → Calls Try.prog 48 #[.slice A m c, .int .i64 bit, .int .i64 bits] W fun e w' => ∃ V cv, e = .returned (.slice V m cv) ∧ Ow byteR 1 w' W.heap.size W.heap.size 5 (.slice V m cv) m F ∧ Below W.heap.size W w' := fun h => by
    rw [hF]; exact flip_any h (by omega) bit bits hbit hbits
  have h2 : ∀ {A : Option Addr} {c : Nat} {W : World}, Bs W A m c b → Calls Try.prog 49 #[.slice A m c, .int .i64 bit, .int .i64 bits] W fun e w' => ∃ V cv, e = .returned (.slice V m cv) ∧ Ow byteR 1 w' W.heap.size W.heap.size 5 (.slice V m cv) m F ∧ Below W.heap.size W w' := fun h => by
    rw [hF]; exact rflip_any h (by omega) bit bits hbit hbits
  have h3 : ∀ {A : Option Addr} {c : Nat} {W : World}, Bs W A m c b → Calls Try.prog 46 #[.slice A m c] W (OpenPost W b) := fun h => open_any h (by omega)
  have h4 : ∀ {A : Option Addr} {c : Nat} {W : World}, Bs W A m c b → Calls Try.prog 47 #[.slice A m c] W (OpenPost W b) := fun h => ropen_any h (by omega)
  unfold OpenPost at h3 h4
  obtain ⟨O, hO⟩ : ∃ O, O = openS b := ⟨_, rfl⟩
  rw [← hO] at h3 h4 hol
  obtain ⟨O1, O2⟩ := O
  dsimp only at h3 h4 hol
  have hne : (O2 != O2) = false := by simp
  have hO1 : O1.load.length ≤ 65536 := by omega
  have HBL := hide hbl
  have HLEN := hide hlen
  have HO1 := hide hO1
  clear hF hO hfl hol hbl hlen hO1
  go_enter Try.func9, Try.ntmps9
  go_wp2_with fail
  refine (twin_any _ _ _ b _ hbb0 (by omega)).mono ?_
  rintro e w1 ⟨V1, c1, rfl, ho1, hb1⟩
  have hr1 := ho1.read byteR_fine
  have k0 := box_cell hb1 0 _ rfl
  have k1 := box_cell hb1 1 _ rfl
  have k2 := box_cell hb1 2 _ rfl
  go_wp2_with fail
  refine (make_res (hll0.on byteR_fine hb1)).mono ?_
  rintro e w2 ⟨V2, m2, c2, l2, err, rfl, hr2, hQ, hb2⟩
  have HQ := hide hQ
  clear hQ
  go_wp2_with fail
  refine (h3 (hr1.on byteR_fine hb2)).mono ?_
  rintro e w3 ⟨A3, n3, c3, rfl, hs3, hb3⟩
  have hn3 := hs3.len
  subst hn3
  have hb4 := alloc_below w3 (.cells #[.int .i64 O1.addr, .int .i64 O1.stamp, .slice A3 O1.load.length c3] 62)
  go_wp2_with fail
  refine (h4 (hbb0.on byteR_fine (th hb1 (th hb2 (th hb3 hb4))))).mono ?_
  rintro e w5 ⟨A5, n5, c5, rfl, hs5, hb5⟩
  have hn5 := hs5.len
  subst hn5
  have hb6 := alloc_below w5 (.cells #[.int .i64 O1.addr, .int .i64 O1.stamp, .slice A5 O1.load.length c5] 62)
  go_wp2_with fail
  refine (h1 (hr1.on byteR_fine (th hb2 (th hb3 (th hb4 (th hb5 hb6)))))).mono ?_
  rintro e w7 ⟨V7, c7, rfl, ho7, hb7⟩
  have hr7 := ho7.read byteR_fine
  go_wp2_with fail
  refine (h2 (hbb0.on byteR_fine (th hb1 (th hb2 (th hb3 (th hb4 (th hb5 (th hb6 hb7)))))))).mono ?_
  rintro e w8 ⟨V8, c8, rfl, ho8, hb8⟩
  have hr8 := ho8.read byteR_fine
  go_wp2_with fail
  refine (bytes_same F (hr7.on byteR_fine hb8) hr8 (by omega)).mono ?_
  rintro e w9 ⟨rfl, hb9⟩
  have q0 := box_cell (th hb5 (th hb6 (th hb7 (th hb8 hb9)))) 0 _ rfl
  have q1 := box_cell (th hb5 (th hb6 (th hb7 (th hb8 hb9)))) 1 _ rfl
  have q2 := box_cell (th hb5 (th hb6 (th hb7 (th hb8 hb9)))) 2 _ rfl
  have r0 := box_cell (th hb7 (th hb8 hb9)) 0 _ rfl
  have r1 := box_cell (th hb7 (th hb8 hb9)) 1 _ rfl
  have r2 := box_cell (th hb7 (th hb8 hb9)) 2 _ rfl
  go_wp2_with fail
  refine (secs_any (x := O1) (y := O1) (hs3.on byteR_fine (th hb4 (th hb5 (th hb6 (th hb7 (th hb8 hb9)))))) (hs5.on byteR_fine (th hb6 (th hb7 (th hb8 hb9)))) HO1.out).mono ?_
  rintro e w10 ⟨rfl, hb10⟩
  rw [show decide (O1.addr = O1.addr ∧ O1.stamp = O1.stamp ∧ O1.load = O1.load) = true by simp]
  go_wp2_with fail
  refine (bytes_same b (hr1.on byteR_fine (th hb2 (th hb3 (th hb4 (th hb5 (th hb6 (th hb7 (th hb8 (th hb9 hb10))))))))) (hbb0.on byteR_fine (th hb1 (th hb2 (th hb3 (th hb4 (th hb5 (th hb6 (th hb7 (th hb8 (th hb9 hb10)))))))))) (by omega)).mono ?_
  rintro e w11 ⟨rfl, hb11⟩
  have hbb := th hb1 (th hb2 (th hb3 (th hb4 (th hb5 (th hb6 (th hb7 (th hb8 (th hb9 (th hb10 hb11)))))))))
  have k0 := box_cell hbb 0 _ rfl
  have k1 := box_cell hbb 1 _ rfl
  have k2 := box_cell hbb 2 _ rfl
  have hr2' := hr2.on byteR_fine (th hb3 (th hb4 (th hb5 (th hb6 (th hb7 (th hb8 (th hb9 (th hb10 hb11))))))))
  go_wp2_with fail
  refine (right_any x).mono ?_
  rintro e w12 ⟨rfl, hb12⟩
  rcases HQ.out with ⟨hok, h96, rfl, rfl⟩ | ⟨hok, h96, rfl, rfl⟩ | ⟨hok, rfl, rfl⟩
  · rw [show decide (SecOk x) = true from decide_eq_true hok]
    have h96' : n ≤ 96 := by rw [← HLEN.out]; exact h96
    have hm2 : m2 = n + 11 := by have := hr2'.len; rw [seal_len] at this; have := HLEN.out; omega
    subst hm2
    have k0 := box_cell (th hbb hb12) 0 _ rfl
    have k1 := box_cell (th hbb hb12) 1 _ rfl
    have k2 := box_cell (th hbb hb12) 2 _ rfl
    obtain ⟨a, s, ea, es, ha, hs⟩ := secOk_nat hok
    clear hok h96
    go_wp2_with fail
    refine (rseal_any (hll0.on byteR_fine (th hbb hb12)) a s ha hs h96').mono ?_
    rintro e w13 ⟨V13, c13, rfl, ho13, hb13⟩
    have hr13 := ho13.read byteR_fine
    have hr14 : Bs w13 V2 (n + 11) c2 (sealL a s x.load) := by
      have h := hr2'.on byteR_fine (th hb12 hb13)
      rw [ea, es] at h
      exact h
    go_wp2_with fail
    refine (bytes_same (sealL a s x.load) hr14 hr13 (by omega)).mono ?_
    rintro e w14 ⟨rfl, hb14⟩
    go_wp2_with fail
    refine (wakes5 _).mono ?_
    rintro e w15 ⟨rfl, hb15⟩
    go_wp2_with fail
    go_ret
    exact ⟨rfl, th hb0 (th hbb (th hb12 (th hb13 (th hb14 hb15))))⟩
  · rw [show decide (SecOk x) = true from decide_eq_true hok]
    have h96' : 96 < n := by rw [← HLEN.out]; exact h96
    have hm2 : m2 = 0 := by have := hr2'.len; simpa using this.symm
    subst hm2
    have k0 := box_cell (th hbb hb12) 0 _ rfl
    have k1 := box_cell (th hbb hb12) 1 _ rfl
    have k2 := box_cell (th hbb hb12) 2 _ rfl
    clear hok h96
    go_wp2_with fail
    refine (wakes5 _).mono ?_
    rintro e w15 ⟨rfl, hb15⟩
    go_wp2_with fail
    go_ret
    exact ⟨rfl, th hb0 (th hbb (th hb12 hb15))⟩
  · rw [show decide (SecOk x) = false from decide_eq_false hok]
    have hm2 : m2 = 0 := by have := hr2'.len; simpa using this.symm
    subst hm2
    clear hok
    go_wp2_with fail
    refine (wakes5 _).mono ?_
    rintro e w15 ⟨rfl, hb15⟩
    go_wp2_with fail
    go_ret
    exact ⟨rfl, th hb0 (th hbb (th hb12 hb15))⟩

end Go.Proofs.Ytnieiobpbioeiaa
