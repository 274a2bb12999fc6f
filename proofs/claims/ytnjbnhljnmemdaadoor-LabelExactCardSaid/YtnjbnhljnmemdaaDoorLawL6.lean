/-
  The walk of the law LabelExact.
-/
import Derived.Test.YtnjbnhljnmemdaaDoorLabT
import Derived.Test.YtnjbnhljnmemdaaDoorLawL4
namespace Go.Proofs.YtnjbnhljnmemdaaDoor
open Go.RowKit Go.Lib
set_option linter.unusedVariables false
set_option maxRecDepth 100000

/-- What label.Read and casemateref01.ReadLabel tell alike. -/
theorem reads_cases {b t u : List UInt8} {k er kk : Int} (h : LRead b t k er) (h2 : RRead b u kk) : t = u ∧ k = kk ∧ ((∃ K : Nat, 1 ≤ K ∧ k = (K : Int) ∧ er = 0) ∨ (k = 0 ∧ er = 4)) := by
  rcases h with ⟨l, e1, rfl, rfl, rfl⟩ | ⟨e1, rfl, rfl, rfl⟩
  · rcases h2 with ⟨l', e2, rfl, rfl⟩ | ⟨e2, _⟩
    · rw [e1] at e2
      injection e2 with e2
      subst e2
      exact ⟨rfl, rfl, .inl ⟨1 + t.length, by omega, by omega, rfl⟩⟩
    · rw [e1] at e2; cases e2
  · rcases h2 with ⟨l', e2, _⟩ | ⟨_, rfl, rfl⟩
    · rw [e1] at e2; cases e2
    · exact ⟨rfl, rfl, .inr ⟨rfl, rfl⟩⟩

set_option maxHeartbeats 4000000 in
theorem law_labelExact {w : World} (hT : Tabs w) (s : ByteArray) (hs : s.size ≤ maxLen) (n : Int) (hn : InI n) {B : Option Addr} {m d : Nat} {ys : List UInt8} (hy : Bs w B m d ys) :
    Calls Tryd.prog 3 #[.string s, .int .i64 n, .slice B m d] w fun e w' => e = .returned (.bool true) ∧ Below w.heap.size w w' := by
  by_cases h400 : s.size ≤ 400
  · have hi0 : ¬ (400 : Int) < (s.size : Int) := by omega
    by_cases g400 : m ≤ 400
    · have hi1 : ¬ (400 : Int) < (m : Int) := by omega
      have hlb := fun w hT => lbytes_any s (by omega) w hT
      have hck := fun w hT => lcheck_any s (by omega) w hT
      have hrl := fun w => rlabel_any s (by omega) w
      have hru := fun w => runes_any s (by omega) w
      have hrr := fun w => rrunes_any s (by omega) w
      have hcu := fun w => cut_any s (by omega) n hn w
      have hrc := fun w => rcut_any s (by omega) n hn w
      have hrb := fun w h => rlbytes_any s h w
      have hrd := rread_any B m d ys
      unfold LBytesPost LBytes at hlb
      unfold RReadPost at hrd
      obtain ⟨E, hE⟩ : ∃ E, E = labE (sL s) := ⟨_, rfl⟩
      obtain ⟨C, hC⟩ : ∃ C, C = (decs (sL s)).length := ⟨_, rfl⟩
      obtain ⟨Z, hZ⟩ : ∃ Z, Z = mkS (cutL (sL s) n) := ⟨_, rfl⟩
      have hE24 : E = 0 → s.size ≤ 24 := fun h => by
        have := lab_len (l := sL s) (by rw [← hE]; exact h)
        rwa [sL_len] at this
      rw [← hE] at hlb hck hrl
      rw [← hC] at hru hrr
      rw [← hZ] at hcu hrc
      have HLB := hide hlb
      have HCK := hide hck
      have HRL := hide hrl
      have HRU := hide hru
      have HRR := hide hrr
      have HCU := hide hcu
      have HRC := hide hrc
      have HRB := hide hrb
      have HRD := hide hrd
      have HE24 := hide hE24
      clear hlb hck hrl hru hrr hcu hrc hrb hrd hE hC hZ hE24
      go_enter Tryd.func3, Tryd.ntmps3
      go_wp2_with fail
      refine (twin_any B m d ys w hy (by omega)).mono ?_
      rintro e w1 ⟨A1, c1, rfl, ho1, hb1⟩
      go_wp2_with fail
      refine (HLB.out _ (hT.below hb1)).mono ?_
      rintro e w2 ⟨hb2, V2, n2, c2, b2, e2, rfl, ho2, hq⟩
      have hb02 := th hb1 hb2
      have hr1 := (ho1.below byteR_fine hb2).read byteR_fine
      go_wp2_with fail
      refine (lread_any A1 m c1 ys w2 hr1 (by omega) (hT.below hb02)).mono ?_
      unfold LReadPost
      rintro e w3 ⟨hb3, t3, k3, e3, rfl, hr3⟩
      have hb03 := th hb02 hb3
      go_wp2_with fail
      refine (HRL.out _).mono ?_
      rintro e w4 ⟨rfl, hb4⟩
      have hb04 := th hb03 hb4
      go_wp2_with fail
      refine (HRD.out _ (hy.on byteR_fine hb04) (by omega)).mono ?_
      rintro e w5 ⟨hb5, t5, k5, rfl, hr5⟩
      have hb05 := th hb04 hb5
      obtain ⟨rfl, rfl, hk⟩ := reads_cases hr3 hr5
      clear hr3 hr5
      have hb25 := th hb3 (th hb4 hb5)
      have hrA5 := hr1.on byteR_fine hb25
      have hrB5 := hy.on byteR_fine hb05
      rcases hq with ⟨hE0, he2, rfl⟩ | ⟨hE0, he2, rfl⟩
      · obtain rfl := hE0.symm
        obtain rfl := he2.symm
        have h24 := HE24.out rfl
        obtain rfl : n2 = 1 + s.size := by
          have := ho2.len
          rw [labB, List.length_cons, sL_len] at this
          omega
        rcases hk with ⟨K, hK1, rfl, rfl⟩ | ⟨rfl, rfl⟩
        all_goals
          go_wp2_with fail
          refine (HCK.out _ (hT.below hb05)).mono ?_
          rintro e w6 ⟨rfl, hb6⟩
          have hb06 := th hb05 hb6
          go_wp2_with fail
          refine (HRB.out _ (by omega)).mono ?_
          rintro e w7 ⟨hb7, V7, c7, rfl, ho7⟩
          have hb07 := th hb06 hb7
          have hb27 := th hb25 (th hb6 hb7)
          go_wp2_with fail
          refine (bytes_same _ ((ho2.below byteR_fine hb27).read byteR_fine) (ho7.read byteR_fine) (by omega)).mono ?_
          rintro e w8 ⟨rfl, hb8⟩
          have hb08 := th hb07 hb8
          have hb58 := th hb6 (th hb7 hb8)
          go_wp2_with fail
          refine (bytes_same _ (hrA5.on byteR_fine hb58) (hrB5.on byteR_fine hb58) (by omega)).mono ?_
          rintro e wy ⟨rfl, hby⟩
          have hb0y := th hb08 hby
          go_wp2_with fail
          refine (HRU.out _).mono ?_
          rintro e wa ⟨rfl, hba⟩
          have hb0a := th hb0y hba
          go_wp2_with fail
          refine (HRR.out _).mono ?_
          rintro e wb ⟨rfl, hbb⟩
          have hb0b := th hb0a hbb
          go_wp2_with fail
          refine (HCU.out _).mono ?_
          rintro e wc ⟨rfl, hbc⟩
          have hb0c := th hb0b hbc
          go_wp2_with fail
          refine (HRC.out _).mono ?_
          rintro e wd ⟨rfl, hbd⟩
          have hb0d := th hb0c hbd
          go_wp2_with fail
          refine (wakes01 _ (hT.below hb0d)).mono ?_
          rintro e we ⟨rfl, hbe⟩
          go_wp2_with fail
          go_ret
          exact ⟨rfl, th hb0d hbe⟩
      · obtain rfl := he2.symm
        obtain rfl : n2 = 0 := by simpa using ho2.len.symm
        have hE1 : (E == 0) = false := by simpa using hE0
        have hE2 : (E != 0) = true := by simpa using hE0
        have hE3 : (E != E) = false := by simp
        clear hE0
        rcases hk with ⟨K, hK1, rfl, rfl⟩ | ⟨rfl, rfl⟩
        all_goals
          go_wp2_with fail
          refine (HCK.out _ (hT.below hb05)).mono ?_
          rintro e w6 ⟨rfl, hb6⟩
          have hb06 := th hb05 hb6
          go_wp2_with fail
          refine (bytes_same _ (hrA5.on byteR_fine hb6) (hrB5.on byteR_fine hb6) (by omega)).mono ?_
          rintro e wy ⟨rfl, hby⟩
          have hb0y := th hb06 hby
          go_wp2_with fail
          refine (HRU.out _).mono ?_
          rintro e wa ⟨rfl, hba⟩
          have hb0a := th hb0y hba
          go_wp2_with fail
          refine (HRR.out _).mono ?_
          rintro e wb ⟨rfl, hbb⟩
          have hb0b := th hb0a hbb
          go_wp2_with fail
          refine (HCU.out _).mono ?_
          rintro e wc ⟨rfl, hbc⟩
          have hb0c := th hb0b hbc
          go_wp2_with fail
          refine (HRC.out _).mono ?_
          rintro e wd ⟨rfl, hbd⟩
          have hb0d := th hb0c hbd
          go_wp2_with fail
          refine (wakes01 _ (hT.below hb0d)).mono ?_
          rintro e we ⟨rfl, hbe⟩
          go_wp2_with fail
          go_ret
          exact ⟨rfl, th hb0d hbe⟩
    · have hi1 : (400 : Int) < (m : Int) := by omega
      go_enter Tryd.func3, Tryd.ntmps3
      go_wp2_with fail
      go_ret
      exact ⟨rfl, Below.refl _ _⟩
  · have hi0 : (400 : Int) < (s.size : Int) := by omega
    go_enter Tryd.func3, Tryd.ntmps3
    go_wp2_with fail
    go_ret
    exact ⟨rfl, Below.refl _ _⟩

end Go.Proofs.YtnjbnhljnmemdaaDoor
