/-
  The walk of casematelaw14.StripeStays.
-/
import Derived.Test.YtikjhcfalofgaaaLawS1
namespace Go.Proofs.Ytikjhcfalofgaaa
open Go.RowKit Go.Lib
set_option linter.unusedVariables false
set_option maxRecDepth 100000

theorem wrErr_zero {g : Geo} {L : List Ent} {H : List (List UInt8)} {ats : List Int} {bl : List (List UInt8)} {s : Int} (h : wrErr g L H ats bl s = 0) : (GeoOk g ∧ TabOk g.data L) ∧ HadOk g.data H ∧ (AtsOk g.data ats ∧ NumOk s) ∧ bl.length = ats.length ∧ ∀ x ∈ bl, x.length = 8 := by
  unfold wrErr at h
  split at h
  · cases h
  · split at h
    · cases h
    · split at h
      · cases h
      · split at h
        · cases h
        · rename_i h1 h2 h3 h4
          exact ⟨Classical.not_not.1 h1, Classical.not_not.1 h2, Classical.not_not.1 h3, Classical.not_not.1 h4⟩

/-- What was met of a block among those written, up to the j-th. -/
def HitQ (ats : List Int) (bl : List (List UInt8)) (par : List UInt8) (d k j : Nat) (f : Bool) (l : List UInt8) : Prop :=
  ((k : Int) ∉ ats.take j ∧ f = decide (k = d) ∧ l = par) ∨ (f = true ∧ ∃ t, t < j ∧ ats[t]? = some (k : Int) ∧ bl[t]? = some l)
section
variable {L : List Ent} {H : List (List UInt8)} {ats : List Int} {bl : List (List UInt8)} {par l b : List UInt8} {s : Int} {d k j : Nat} {f : Bool} {a : Int}
theorem hit_zero : HitQ ats bl par d k 0 (decide (k = d)) par := .inl ⟨by simp, rfl, rfl⟩
theorem hit_here (ha : ats[j]? = some a) (hb : bl[j]? = some b) (h : a = (k : Int)) : HitQ ats bl par d k (j + 1) true b := .inr ⟨rfl, j, by omega, by rw [ha, h], hb⟩
theorem hit_on (hq : HitQ ats bl par d k j f l) (ha : ats[j]? = some a) (h : a ≠ (k : Int)) : HitQ ats bl par d k (j + 1) f l := by
  rcases hq with ⟨h1, h2, h3⟩ | ⟨h1, t, h2, h3, h4⟩
  · refine .inl ⟨fun hm => ?_, h2, h3⟩
    obtain ⟨h5, e5⟩ := List.getElem?_eq_some_iff.1 ha
    rw [List.take_succ_eq_append_getElem h5, e5] at hm
    rcases List.mem_append.1 hm with h6 | h6
    · exact h1 h6
    · simp at h6
      exact h h6.symm
  · exact .inr ⟨h1, t, by omega, h3, h4⟩
theorem hit_end (hA : AtsOk (d : Int) ats) (hL : L.length = d + 1) (hq : HitQ ats bl (parN L H ats bl d) d k ats.length f l) (hk : k ≤ d) :
    (f = true ∧ (wrT L H ats bl s d)[k]? = some ⟨s, crc l, false⟩) ∨ (f = false ∧ ∃ x z, L[k]? = some x ∧ (wrT L H ats bl s d)[k]? = some ⟨x.stamp, x.sum, z⟩ ∧ (x.lost = true → z = true)) := by
  rcases hq with ⟨h1, h2, h3⟩ | ⟨h1, t, h2, h3, h4⟩
  · rw [List.take_length] at h1
    by_cases hkd : k = d
    · subst hkd
      exact .inl ⟨by simpa using h2, by rw [wrT_last, h3]⟩
    · refine .inr ⟨by simpa [hkd] using h2, L[k]'(by omega), ?_⟩
      have he : entN L k = L[k]'(by omega) := by unfold entN; rw [List.getElem?_eq_getElem (by omega)]; rfl
      obtain ⟨_, hne⟩ := now_out (L := L) (H := H) (s := s) (blkOf_none bl h1)
      rw [he] at hne
      by_cases hkn : knownL L H k = []
      · rw [if_pos hkn] at hne
        exact ⟨true, List.getElem?_eq_getElem (by omega), by rw [wrT_at (by omega), hne], fun _ => rfl⟩
      · rw [if_neg hkn] at hne
        exact ⟨(L[k]'(by omega)).lost, List.getElem?_eq_getElem (by omega), by rw [wrT_at (by omega), hne], id⟩
  · have hb := (hA.2 t (List.getElem?_eq_some_iff.1 h3).1).1
    rw [atN_at h3] at hb
    exact .inl ⟨h1, by rw [wrT_at (by omega), (now_in (s := s) (blkOf_at hA h3 h4)).2]⟩
end

set_option maxHeartbeats 4000000 in
theorem stripeStays_core {w : World} (g : Geo) (s : Int) (hs : InI s) {A B C E : Option Addr} {n c m cb q cq p cp : Nat} {L : List Ent} {H : List (List UInt8)} {ats : List Int} {bl : List (List UInt8)} (ha : Sl entR 3 w (Old w) A n c L) (hh : Rs w B m cb H) (hc : Is w C q cq ats) (hb : Rs w E p cp bl) :
    Calls Try.prog 5 #[g.v, .agg #[.slice A n c], .slice B m cb, .slice C q cq, .slice E p cp, .int .i64 s] w fun e w' => e = .returned (.bool true) ∧ Below w.heap.size w w' := by
  have hh1 := fun w ha hh => heavy13 A B n c m cb L H w ha hh
  have hh2 := fun w ha hb => heavy13 A E n c p cp L bl w ha hb
  unfold HeavyPost HeavyOut HeavyQ at hh1 hh2
  have hbad := fun hn hm hq hp h0 w ha hh hc hb => write_bad (g := g) (A := A) (B := B) (C := C) (E := E) (n := n) (c := c) (m := m) (cb := cb) (q := q) (cq := cq) (p := p) (cp := cp) (L := L) (H := H) (ats := ats) (bl := bl) s (w := w) ha hh hc hb hn hm hq hp h0
  have hok := fun (d : Nat) hG hd hT hH hA hl h8 hs w ha hh hc hb => write_ok (g := g) (d := d) hG hd (A := A) (B := B) (C := C) (E := E) (n := n) (c := c) (m := m) (cb := cb) (q := q) (cq := cq) (p := p) (cp := cp) (L := L) (H := H) (ats := ats) (bl := bl) s (w := w) ha hh hc hb hT hH hA hl h8 hs
  have hlz := fun h => wrErr_zero (g := g) (L := L) (H := H) (ats := ats) (bl := bl) (s := s) h
  obtain ⟨R, hR⟩ : ∃ R, R = wrErr g L H ats bl s := ⟨_, rfl⟩
  rw [← hR] at hbad hlz
  have hla := ha.len
  have hlh := hh.len
  have hlc := hc.len
  have hlb := hb.len
  obtain ⟨gz, gd, gs, gl, ga⟩ := g
  unfold Geo.v at *
  dsimp only at hbad hok hlz
  obtain ⟨W0, hW0⟩ : ∃ W0, W0 = (w.alloc (.cells #[.int .i64 gz, .int .i64 gd, .int .i64 gs, .int .i64 gl, .int .i64 ga] 23)).alloc (.cells #[.slice A n c] 26) := ⟨_, rfl⟩
  have hb0 : Below w.heap.size w W0 := by rw [hW0]; exact (alloc_below w _).alloc (by simp) _
  have hx : ∀ W, Below W0.heap.size W0 W → (W.cell? ⟨w.heap.size, 0, none⟩ = some (.int .i64 gz) ∧ W.cell? ⟨w.heap.size, 1, none⟩ = some (.int .i64 gd) ∧ W.cell? ⟨w.heap.size, 2, none⟩ = some (.int .i64 gs) ∧ W.cell? ⟨w.heap.size, 3, none⟩ = some (.int .i64 gl) ∧ W.cell? ⟨w.heap.size, 4, none⟩ = some (.int .i64 ga)) ∧ W.cell? ⟨w.heap.size + 1, 0, none⟩ = some (.slice A n c) := fun W hW => by
    have h1 : Below (w.alloc (.cells #[.int .i64 gz, .int .i64 gd, .int .i64 gs, .int .i64 gl, .int .i64 ga] 23)).heap.size (w.alloc (.cells #[.int .i64 gz, .int .i64 gd, .int .i64 gs, .int .i64 gl, .int .i64 ga] 23)) W0 := by rw [hW0]; exact alloc_below _ _
    have h3 := th h1 hW
    refine ⟨⟨box_cell h3 0 _ rfl, box_cell h3 1 _ rfl, box_cell h3 2 _ rfl, box_cell h3 3 _ rfl, box_cell h3 4 _ rfl⟩, ?_⟩
    subst hW0
    have := box_cell hW 0 _ rfl
    simpa using this
  have HX := hide hx
  have HH1 := hide hh1
  have HH2 := hide hh2
  have HBAD := hide hbad
  have HOK := hide hok
  have HLZ := hide hlz
  have HLA := hide hla
  have HLH := hide hlh
  have HLC := hide hlc
  have HLB := hide hlb
  have ha0 := ha.on entR_fine hb0
  have hh0 := hh.on bytesR_fine hb0
  have hc0 := hc.on intR_fine hb0
  have hbl0 := hb.on bytesR_fine hb0
  obtain ⟨⟨p0, p1, p2, p3, p4⟩, pt⟩ := hx W0 (Below.refl _ _)
  rw [hW0] at p0 p1 p2 p3 p4 pt
  clear hh1 hh2 hbad hok hlz hx hR hla hlh hlc hlb
  go_enter Try.func5, Try.ntmps5
  go_wp2_with fail
  rw [← hW0]
  clear p0 p1 p2 p3 p4 pt hW0
  refine (HH1.out _ ha0 hh0).mono ?_
  rintro e w1 ⟨hb1, b1, rfl, hq1⟩
  obtain ⟨⟨p0, p1, p2, p3, p4⟩, pt⟩ := HX.out w1 hb1
  cases b1 with
  | true =>
    clear hq1
    go_wp2_with fail
    go_ret
    exact ⟨rfl, th hb0 hb1⟩
  | false =>
    obtain ⟨l1, l2, l3⟩ := hq1 rfl
    have hn20 : n ≤ 20 := by rw [← HLA.out]; exact l1
    have hm20 : m ≤ 20 := by rw [← HLH.out]; exact l2
    clear hq1 l1 l2 l3
    go_wp2_with fail
    refine (HH2.out _ (ha0.on entR_fine hb1) (hbl0.on bytesR_fine hb1)).mono ?_
    rintro e w2 ⟨hb2, b2, rfl, hq2⟩
    have hb12 := th hb1 hb2
    cases b2 with
    | true =>
      clear hq2
      go_wp2_with fail
      go_ret
      exact ⟨rfl, th hb0 hb12⟩
    | false =>
      obtain ⟨l1, l2, l3⟩ := hq2 rfl
      have hp20 : p ≤ 20 := by rw [← HLB.out]; exact l2
      clear hq2 l1 l2 l3
      by_cases k1 : (20 : Int) < (q : Int)
      · have k1' : decide (20 < q) = true := by simp; omega
        go_wp2_with fail
        go_ret
        exact ⟨rfl, th hb0 hb12⟩
      · have k1' : decide (20 < q) = false := by simp; omega
        obtain ⟨⟨p0, p1, p2, p3, p4⟩, pt⟩ := HX.out w2 hb12
        by_cases hR : R = 0
        · obtain ⟨⟨hG, hT⟩, hH, ⟨hA, hS⟩, hl, h8⟩ := HLZ.out hR
          have hd := hG.2.1
          dsimp only at hd
          obtain ⟨d, rfl⟩ : ∃ d : Nat, gd = (d : Int) := ⟨gd.toNat, by omega⟩
          obtain rfl : n = d + 1 := by have h1 := hT.1; have h2 := HLA.out; omega
          obtain rfl : p = q := by have h1 := HLB.out; have h2 := HLC.out; omega
          have HWR := hide (HOK.out d hG rfl hT hH hA hl h8 hS)
          have HEND := hide fun k f l (hq : HitQ ats bl (parN L H ats bl d) d k ats.length f l) hk => hit_end (s := s) hA HLA.out hq hk
          have HH8 := hide h8
          clear hG hT hH hA hl h8 hS hR
          go_wp2_with fail
          refine (HWR.out _ (ha0.on entR_fine hb12) (hh0.on bytesR_fine hb12) (hc0.on intR_fine hb12) (hbl0.on bytesR_fine hb12)).mono ?_
          rintro e w3 ⟨V3, c3, P3, cP, rfl, hs3, hp3, hb3⟩
          obtain ⟨W4, hW4⟩ : ∃ W4, W4 = w3.alloc (.cells #[.slice V3 (d + 1) c3] 26) := ⟨_, rfl⟩
          have hE4 : Below w3.heap.size w3 W4 := by rw [hW4]; exact alloc_below _ _
          have hs4 := (hs3.old_ entR_fine).on entR_fine hE4
          have hp4 := (hp3.old_ byteR_fine).on byteR_fine hE4
          have hu : ∀ W, Below W4.heap.size W4 W → W.cell? ⟨w3.heap.size, 0, none⟩ = some (.slice V3 (d + 1) c3) := fun W hW => by
            subst hW4
            exact box_cell hW 0 _ rfl
          have HU := hide hu
          have hb04 := th hb12 (th hb3 hE4)
          obtain ⟨⟨p0, p1, p2, p3, p4⟩, pt⟩ := HX.out W4 hb04
          have u0 := hu W4 (Below.refl _ _)
          rw [hW4] at p0 p1 p2 p3 p4 pt u0
          clear hu
          obtain ⟨T, hT⟩ : ∃ T, T = wrT L H ats bl s d := ⟨_, rfl⟩
          obtain ⟨par, hpar⟩ : ∃ par, par = parN L H ats bl d := ⟨_, rfl⟩
          rw [← hT] at hs4 HEND
          rw [← hpar] at hp4 HEND
          clear hT hpar
          go_wp2_with fail
          rw [← hW4]
          clear p0 p1 p2 p3 p4 pt u0 hW4
          go_loopw [16] (fun i wr => ∃ k : Nat, k ≤ d + 1 ∧ i = .int .i64 k ∧ Below W4.heap.size W4 wr) (fun i _ => d + 1 - (RowKit.intOf i).toNat)
          case atStart => exact ⟨0, Nat.zero_le _, rfl, Below.refl _ _⟩
          case round =>
            obtain ⟨k, hk, rfl, hbr⟩ := hrel
            obtain ⟨wo, rfl⟩ : ∃ wo : World, wo = wr := ⟨_, rfl⟩
            have hb0r := th hb04 hbr
            have u0 := HU.out wo hbr
            obtain ⟨⟨p0, p1, p2, p3, p4⟩, pt⟩ := HX.out wo hb0r
            by_cases hlt : k < d + 1
            · have hlI : (k : Int) < (d : Int) + 1 := by omega
              have k0 : (0 : Int) ≤ (k : Int) := by omega
              obtain ⟨F, hF⟩ : ∃ F, F = ((k : Int) == (d : Int)) := ⟨_, rfl⟩
              have hFd : F = decide (k = d) := by
                rw [hF]
                by_cases h : k = d
                · simp [h]
                · have h2 : ¬ (k : Int) = (d : Int) := by omega
                  simp [h, h2]
              have hF1 : ((k : Int) == (d : Int)) = F := hF.symm
              have hF2 : (k == d) = F := by rw [hFd]; by_cases h : k = d <;> simp [h]
              have HFD := hide hFd
              clear hF hFd
              go_wp2_with fail
              clear hF1 hF2
              go_loopw [17, 18, 19] (fun u v i wr => ∃ j : Nat, ∃ f A' c' l, j ≤ p ∧ i = .int .i64 j ∧ u = .bool f ∧ v = .slice A' 8 c' ∧ Sl byteR 1 wr (Old wr) A' 8 c' l ∧ Hid (HitQ ats bl par d k j f l) ∧ Below wo.heap.size wo wr) (fun _ _ i _ => p - (RowKit.intOf i).toNat)
              case atStart => exact ⟨0, F, P3, cP, par, Nat.zero_le _, rfl, rfl, rfl, hp4.on byteR_fine hbr, hide (by rw [HFD.out]; exact hit_zero), Below.refl _ _⟩
              case round =>
                obtain ⟨j, f, A', c', l, hj, rfl, rfl, rfl, hsl, hhit, hbi⟩ := hrel
                have hb0i := th hb0 (th hb0r hbi)
                by_cases hltj : j < p
                · have jI : (j : Int) < (p : Int) := by omega
                  have j0 : (0 : Int) ≤ (j : Int) := by omega
                  obtain ⟨ad, a, rfl, hadl, haj, hai, hac⟩ := at_int (hc.on intR_fine hb0i) hltj
                  by_cases hak : a = (k : Int)
                  · obtain ⟨ed, x, A2, n2, c2, rfl, hedl, hxk, hxs, hxc⟩ := at_row (hb.on bytesR_fine hb0i) hltj
                    obtain rfl : n2 = 8 := by have h1 := hxs.len; have h2 := HH8.out x (List.mem_of_getElem? hxk); omega
                    have HH := hide (hit_here (par := par) (d := d) haj hxk hak)
                    have e1 : (a == (k : Int)) = true := by simpa using hak
                    clear hhit haj hxk hak
                    go_wp2_with fail
                    go_quiet (fail)
                    go_wp2_with fail
                    go_roundw
                    case rel => exact ⟨j + 1, true, A2, c2, x, by omega, by go_num, rfl, rfl, hxs.on byteR_fine (drewN_below _ _), HH, th hbi (drewN_below _ _)⟩
                    case measure => (first | omega | (simp [RowKit.intOf]; omega) | (unfold RowKit.intOf; simp; omega) | go_num)
                  · have HH := hide (hit_on hhit.out haj hak)
                    have e1 : (a == (k : Int)) = false := by simpa using hak
                    clear hhit haj hak
                    go_wp2_with fail
                    go_roundw
                    case rel => exact ⟨j + 1, f, A', c', l, by omega, by go_num, rfl, rfl, hsl, HH, hbi⟩
                    case measure => (first | omega | (simp [RowKit.intOf]; omega) | (unfold RowKit.intOf; simp; omega) | go_num)
                · obtain rfl : j = p := by omega
                  have hend := HEND.out k f l (by rw [HLC.out]; exact hhit.out) (by omega)
                  obtain ⟨vd, x, rfl, hvdl, hxk, hx1, hx2, e0, e1, e2⟩ := at_ent (hs4.on entR_fine (th hbr hbi)) (show k < d + 1 by omega)
                  have u0 := HU.out wr (th hbr hbi)
                  obtain ⟨⟨p0, p1, p2, p3, p4⟩, pt⟩ := HX.out wr (th hb0r hbi)
                  have hE5 := alloc_below wr (.cells #[.int .i64 x.stamp, .int .i64 x.sum, .bool x.lost] 61)
                  rcases hend with ⟨rfl, hu⟩ | ⟨rfl, y, z, hy, hu, hyz⟩
                  · rw [hu] at hxk
                    injection hxk with hxk
                    subst hxk
                    dsimp only at e0 e1 e2 hE5
                    have hsm : ∀ r, Calls Try.prog 28 #[.slice A' 8 c'] ((wr.alloc (.cells #[.int .i64 s, .int .i64 (crc l), .bool false] 61)).drewN r) fun e w' => e = .returned (.int .i64 (crc l)) ∧ w' = (wr.alloc (.cells #[.int .i64 s, .int .i64 (crc l), .bool false] 61)).drewN r := fun r =>
                      (ref_sum ((hsl.on byteR_fine hE5).on byteR_fine (drewN_below _ r)) (by omega)).mono fun e w' ⟨h1, h2⟩ => ⟨h1, h2.symm⟩
                    obtain ⟨c8, hc8⟩ : ∃ z : Nat, z = crc l := ⟨_, rfl⟩
                    rw [← hc8] at hsm e1 hE5
                    have HSM := hide hsm
                    clear hu hsm hc8 hhit
                    go_wp2_with fail
                    go_quiet ((go_at_call 28; exact Calls.quiet_of_same (HSM.out _)))
                    go_wp2_with fail
                    go_roundw
                    case rel => exact ⟨k + 1, by omega, by go_num, th hbr (th hbi (th hE5 (drewN_below _ _)))⟩
                    case measure => (first | omega | (simp [RowKit.intOf]; omega) | (unfold RowKit.intOf; simp; omega) | go_num)
                  · rw [hu] at hxk
                    injection hxk with hxk
                    subst hxk
                    dsimp only at e0 e1 e2 hE5
                    obtain ⟨td, y', rfl, htdl, hyk, _, _, t0, t1, t2⟩ := at_ent (ha0.on entR_fine (th hb0r hbi)) (show k < d + 1 by omega)
                    rw [hy] at hyk
                    injection hyk with hyk
                    subst hyk
                    have HTC : Hid (∀ W, Below wr.heap.size wr W → W.cell? (td.add (k * 3)) = some (.int .i64 y.stamp) ∧ W.cell? ⟨(td.add (k * 3)).block, (td.add (k * 3)).off + 1, none⟩ = some (.int .i64 y.sum) ∧ W.cell? ⟨(td.add (k * 3)).block, (td.add (k * 3)).off + 2, none⟩ = some (.bool y.lost)) := hide fun W hW => by
                      have hbk : (td.add (k * 3)).block < wr.heap.size := by rw [block_of_add]; exact htdl
                      exact ⟨(hW.cell hbk).trans t0, (hW.cell (by exact hbk)).trans t1, (hW.cell (by exact hbk)).trans t2⟩
                    obtain ⟨s0, s1, s2⟩ := HTC.out _ hE5
                    have pt5 := (HX.out _ (th (th hb0r hbi) hE5)).2
                    cases hyl : y.lost with
                    | true =>
                      obtain rfl := hyz hyl
                      rw [hyl] at t2 s2
                      clear hu hhit hy hyz hyl
                      go_wp2_with fail
                      go_quiet (fail)
                      go_wp2_with fail
                      go_roundw
                      case rel => exact ⟨k + 1, by omega, by go_num, th hbr (th hbi (th hE5 (drewN_below _ _)))⟩
                      case measure => (first | omega | (simp [RowKit.intOf]; omega) | (unfold RowKit.intOf; simp; omega) | go_num)
                    | false =>
                      rw [hyl] at t2 s2
                      clear hu hhit hy hyz hyl
                      go_wp2_with fail
                      go_quiet (fail)
                      go_wp2_with fail
                      go_roundw
                      case rel => exact ⟨k + 1, by omega, by go_num, th hbr (th hbi (th hE5 (drewN_below _ _)))⟩
                      case measure => (first | omega | (simp [RowKit.intOf]; omega) | (unfold RowKit.intOf; simp; omega) | go_num)
            · obtain rfl : k = d + 1 := by omega
              have hlI : ¬ ((d : Int) + 1 < (d : Int) + 1) := by omega
              go_wp2_with fail
              refine (wakes14 _).mono ?_
              rintro e w5 ⟨rfl, hb5⟩
              go_wp2_with fail
              go_ret
              exact ⟨rfl, th hb0 (th hb0r hb5)⟩
        · have hRb : (R != 0) = true := by simpa using hR
          have HNB := hide (HBAD.out (by omega) (by omega) (by omega) (by omega) hR)
          clear hR
          go_wp2_with fail
          refine (HNB.out _ (ha0.on entR_fine hb12) (hh0.on bytesR_fine hb12) (hc0.on intR_fine hb12) (hbl0.on bytesR_fine hb12)).mono ?_
          rintro e w3 ⟨rfl, hb3⟩
          have hE4 := alloc_below w3 (.cells #[.slice none 0 0] 26)
          go_wp2_with fail
          refine (wakes14 _).mono ?_
          rintro e w4 ⟨rfl, hb4⟩
          go_wp2_with fail
          go_ret
          exact ⟨rfl, th hb0 (th hb12 (th hb3 (th hE4 hb4)))⟩

theorem law_stripeStays {w : World} {v0 v1 : Value} {g : Geo} {L : List Ent} {B C E : Option Addr} {m cb q cq p cp : Nat} {H : List (List UInt8)} {ats : List Int} {bl : List (List UInt8)} (hg : ArgR geoR w v0 g) (ht : ArgR tabR w v1 L) (hh : Rs w B m cb H) (hc : Is w C q cq ats) (hb : Rs w E p cp bl) (s : Int) (hs : InI s) :
    Calls Try.prog 5 #[v0, v1, .slice B m cb, .slice C q cq, .slice E p cp, .int .i64 s] w fun e w' => e = .returned (.bool true) ∧ Below w.heap.size w w' := by
  obtain ⟨rfl, _⟩ := geo_form hg
  obtain ⟨A, n, c, rfl, ha⟩ := tab_form ht
  exact stripeStays_core g s hs ha hh hc hb

end Go.Proofs.Ytikjhcfalofgaaa
