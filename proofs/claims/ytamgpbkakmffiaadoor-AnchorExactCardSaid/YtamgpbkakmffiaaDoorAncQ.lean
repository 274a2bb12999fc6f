/-
  Contract: casemateref08.AnchorBytes of a right anchor.
-/
import Derived.Test.YtamgpbkakmffiaaDoorAncA
import Derived.Test.YtamgpbkakmffiaaDoorRefP
import Derived.Deep.RegionHeld3
import Derived.Deep.DeepCutAuto
namespace Go.Proofs.YtamgpbkakmffiaaDoor
open Go.RowKit Go.Lib
set_option linter.unusedVariables false
set_option maxRecDepth 100000

def plL (l : List Int) : List UInt8 := l.map fun p => UInt8.ofNat p.toNat
theorem plL_take {l : List Int} {k p : Nat} (h : l[k]? = some (p : Int)) : plL (l.take (k + 1)) = plL (l.take k) ++ le 1 p := by
  obtain ⟨hk, e⟩ := List.getElem?_eq_some_iff.1 h
  unfold plL
  rw [List.take_succ_eq_append_getElem hk, List.map_append, e]
  rfl
theorem homL_pl (x : Hom) : homL x = plL x.places ++ le 1 x.next.toNat ++ le 4 x.root.toNat := rfl

set_option maxHeartbeats 8000000 in
theorem rabytes_yes {g : Geo} {a : Anc} (hGe : GeoOk g) (ho : AncOk g a) {A : Option Addr} {n c : Nat} {w : World} (ha : Sl homR 3 w (Old w) A n c a.homes) :
    Calls Tryd.prog 41 #[a.v (.slice A n c)] w fun e w' => Below w.heap.size w w' ∧ ∃ V cv, e = .returned (.slice V (ancL a).length cv) ∧ Bs w' V (ancL a).length cv (ancL a) := by
  obtain ⟨j0, hj0, hy0, hy1, hy2⟩ := info_parts u8_info
  have hzs := hGe.1
  have hds := hGe.2.1
  have hss := hGe.2.2.1
  have hsl := hGe.2.2.2.1
  have h24 := lab_len ho.2.1
  rw [sL_len] at h24
  have hnz : (n : Int) = g.zones := by rw [← ha.len]; exact ho.2.2.1
  have hHM : ∀ x ∈ a.homes, ∃ N R : Nat, x.next = (N : Int) ∧ x.root = (R : Int) ∧ N ≤ 255 ∧ R < 4294967296 ∧ x.places.length ≤ 5 ∧ ∀ p ∈ x.places, ∃ q : Nat, p = (q : Int) ∧ q ≤ 255 := fun x hx => by
    obtain ⟨e0, ⟨e1, e2⟩, ⟨e3, e4⟩, e5⟩ := ho.2.2.2 x hx
    refine ⟨x.next.toNat, x.root.toNat, by omega, by omega, by omega, by omega, by omega, fun p hp => ?_⟩
    obtain ⟨i, hi, ei⟩ := List.mem_iff_getElem.1 hp
    have := (e5 i p (by rw [List.getElem?_eq_getElem hi, ei])).1
    exact ⟨p.toNat, by omega, by omega⟩
  obtain ⟨⟨h1, h1'⟩, ⟨h2, h2'⟩, ⟨h3, h3'⟩, ⟨h4, h4'⟩, _, _, h5, h5'⟩ := ho.1
  have hlb := fun w => rlbytes_any a.label (by omega) w
  obtain ⟨gen, epoch, pos, seq, last, s, L⟩ := a
  dsimp only at *
  obtain ⟨G, rfl⟩ : ∃ G : Nat, gen = (G : Int) := ⟨gen.toNat, by omega⟩
  obtain ⟨E, rfl⟩ : ∃ E : Nat, epoch = (E : Int) := ⟨epoch.toNat, by omega⟩
  obtain ⟨P, rfl⟩ : ∃ P : Nat, pos = (P : Int) := ⟨pos.toNat, by omega⟩
  obtain ⟨Q, rfl⟩ : ∃ Q : Nat, seq = (Q : Int) := ⟨seq.toNat, by omega⟩
  obtain ⟨T, rfl⟩ : ∃ T : Nat, last = (T : Int) := ⟨last.toNat, by omega⟩
  have hGb : G < 4294967296 := by omega
  have hEb : E < 4294967296 := by omega
  have hPb : P < 256 := by omega
  have hQb : Q < 4294967296 := by omega
  have hTb : T < 4294967296 := by omega
  obtain ⟨HD, hHD⟩ : ∃ HD, HD = le 4 G ++ le 4 E ++ le 4 Q ++ le 4 T ++ le 1 P := ⟨_, rfl⟩
  obtain ⟨LB, hLB⟩ : ∃ LB, LB = labB (sL s) := ⟨_, rfl⟩
  have hAL : ancL ⟨(G : Int), (E : Int), (P : Int), (Q : Int), (T : Int), s, L⟩ = HD ++ LB ++ homsL L := by rw [hHD, hLB]; rfl
  rw [hAL]
  have hn4 : n ≤ 4 := by omega
  have HLB := hide hlb
  have HHM := hide hHM
  have HLEN := hide ha.len
  have HHD := hide hHD
  rw [← hLB] at HLB
  clear hlb hHM ho hGe h1 h1' h2 h2' h3 h3' h4 h4' h5 h5' hAL hzs hds hss hsl hnz hHD hLB
  unfold Anc.v
  dsimp only
  obtain ⟨W0, hW0⟩ : ∃ W0, W0 = w.alloc (.cells #[.int .i64 (G : Int), .int .i64 (E : Int), .int .i64 (P : Int), .int .i64 (Q : Int), .int .i64 (T : Int), .string s, .slice A n c] 26) := ⟨_, rfl⟩
  have hb0 : Below w.heap.size w W0 := by rw [hW0]; exact alloc_below w _
  have ha0 := ha.on homR_fine hb0
  have hN : w.heap.size < W0.heap.size := by rw [hW0]; simp
  have hsv : Sev W0 w.heap.size (.int .i64 (G : Int)) (.int .i64 (E : Int)) (.int .i64 (P : Int)) (.int .i64 (Q : Int)) (.int .i64 (T : Int)) (.string s) (.slice A n c) := by rw [hW0]; exact Sev.new rfl (Below.refl _ _)
  have HSV := hide hsv
  rw [hW0] at hsv
  obtain ⟨q0, q1, q2, q3, q4, q5, q6⟩ := hsv
  go_enter Tryd.func41, Tryd.ntmps41
  go_wp2_with fail
  rw [← hW0]
  clear hW0 q0 q1 q2 q3 q4 q5 q6
  refine (rput_any (Sl.nil_ _) (by omega) G 4 (by omega) (by omega)).mono ?_
  rintro e w1 ⟨V1, c1, rfl, ho1, hb1⟩
  obtain ⟨q0, q1, q2, q3, q4, q5, q6⟩ := HSV.out.onB hN hb1
  go_wp2_with fail
  refine (rput_any (ho1.read byteR_fine) (by omega) E 4 (by omega) (by omega)).mono ?_
  rintro e w2 ⟨V2, c2, rfl, ho2, hb2⟩
  have hb02 := th hb1 hb2
  obtain ⟨q0, q1, q2, q3, q4, q5, q6⟩ := HSV.out.onB hN hb02
  go_wp2_with fail
  refine (rput_any (ho2.read byteR_fine) (by omega) Q 4 (by omega) (by omega)).mono ?_
  rintro e w3 ⟨V3, c3, rfl, ho3, hb3⟩
  have hb03 := th hb02 hb3
  obtain ⟨q0, q1, q2, q3, q4, q5, q6⟩ := HSV.out.onB hN hb03
  go_wp2_with fail
  refine (rput_any (ho3.read byteR_fine) (by omega) T 4 (by omega) (by omega)).mono ?_
  rintro e w4 ⟨V4, c4, rfl, ho4, hb4⟩
  have hb04 := th hb03 hb4
  have hr4 := ho4.read byteR_fine
  clear q0 q1 q2 q3 q4 q5 q6
  have HS : Hid (∀ W, Below w4.heap.size w4 W → W.cell? ⟨w.heap.size, 2, none⟩ = some (.int .i64 (P : Int)) ∧ W.cell? ⟨w.heap.size, 5, none⟩ = some (.string s)) := hide fun W hW => by
    obtain ⟨_, _, x2, _, _, x5, _⟩ := HSV.out.onB hN (th hb04 hW)
    exact ⟨x2, x5⟩
  have hcur := Below.refl w4.heap.size w4
  obtain ⟨K, hK⟩ : ∃ K, K = 17 + (1 + s.size) := ⟨_, rfl⟩
  have HHK := hide hK
  go_upto_region 5 with fail
  go_cut [3] (fun v wx => ∃ V c, v = .slice V K c ∧ Bs wx V K c (HD ++ LB) ∧ Below w4.heap.size w4 wx)
  case first =>
    go_region_held3 (fun W => W.cell? ⟨w.heap.size, 2, none⟩ = some (.int .i64 (P : Int)) ∧ W.cell? ⟨w.heap.size, 5, none⟩ = some (.string s)) (first | with_reducible exact HS.out _ hcur | with_reducible exact HS.out _ hcur.drew) (first
      | (go_at_call 86; refine Calls.mono (rput_any (hr4.on byteR_fine (by first | with_reducible exact hcur | with_reducible exact hcur.drew)) (by omega) P 1 (by omega) (by omega)) ?_; rintro e w5 ⟨V5, c5, rfl, ho5, hb5⟩; have hop := ho5.less byteR_fine (Below.size (by first | with_reducible exact hcur | with_reducible exact hcur.drew)) (Nat.zero_le _); have hcur := th (by first | with_reducible exact hcur | with_reducible exact hcur.drew) hb5; (first | (have hl6 := hl6.on byteR_fine (by first | exact hb5 | exact th (Below.refl _ _).drew hb5)) | skip))
      | (go_at_call 87; (with_reducible refine (HLB.out _).mono ?_); rintro e w6 ⟨hb6, V6, c6, rfl, ho6⟩; have hcur := th (by first | with_reducible exact hcur | with_reducible exact hcur.drew) hb6; (first | (have hop := hop.below byteR_fine (by first | exact hb6 | exact th (Below.refl _ _).drew hb6)) | skip); have hl6 := ho6.read byteR_fine)
      | (refine step_append_ow _ (by rfl) _ _ _ (by rfl) byteR_fine w4.heap.size 0 5 j0 _ 1 Tryd.underlying58 hj0 hy0 hy1 hy2 rfl (by omega) (.slice V5 17 c5) 17 _ (by rfl) (by first | exact hop | exact hop.below byteR_fine (Below.refl _ _).drew) (Old _) V6 (1 + s.size) c6 LB (by rfl) (by first | exact hl6 | exact hl6.on byteR_fine (Below.refl _ _).drew) (fun _ _ _ h => h) (by simp only [maxLen]; omega) (by omega) (by first | exact hcur.size | exact hcur.drew.size) ?_; intro V8 w8 ho8 hg8 hat8; obtain ⟨A8, c8, rfl⟩ := ho8.form; have hcur := Below.trans (by first | with_reducible exact hcur | with_reducible exact hcur.drew) (below_grown (base := w4.heap.size) hg8 hop.lt hcur.size)))
    all_goals (go_wp2_with fail; go_meet; exact ⟨A8, c8, by rw [HHK.out], by rw [HHK.out, HHD.out]; first | simpa [List.append_assoc] using ho8.read byteR_fine | simpa [List.append_assoc] using Sl.drew byteR_fine (ho8.read byteR_fine), by first | exact hcur | exact hcur.drew⟩)
  case rest =>
    obtain ⟨V5, c5, rfl, hr5, hb5⟩ := hcut
    have hKb : K ≤ 42 := by rw [HHK.out]; omega
    have hKl : (HD ++ LB).length = K := hr5.len
    obtain ⟨w5, hw5⟩ : ∃ w5, w5 = wc := ⟨_, rfl⟩
    have hb05 := th hb04 hb5
    go_wp2_with fail
    go_loopw [3, 4] (fun v i wr => ∃ k q : Nat, ∃ V cv, k ≤ n ∧ q ≤ K + 10 * k ∧ i = .int .i64 k ∧ v = .slice V q cv ∧ Bs wr V q cv (HD ++ LB ++ homsL (L.take k)) ∧ Below W0.heap.size W0 wr) (fun _ i _ => n - (RowKit.intOf i).toNat)
    case atStart => exact ⟨0, K, V5, c5, Nat.zero_le _, by omega, rfl, rfl, by simpa [homsL] using hr5, hb05⟩
    case round =>
      obtain ⟨k, q, V, cv, hk, hq, rfl, rfl, hr, hb⟩ := hrel
      obtain ⟨q0, q1, q2, q3, q4, q5, q6⟩ := HSV.out.onB hN hb
      by_cases hlt : k < n
      · obtain ⟨ad, x, A', m, c', rfl, hadl, hx, _, _, hs, d0, d1, d2⟩ := at_hom (ha0.on homR_fine hb) hlt
        obtain ⟨N, R, hxN, hxR, hNb, hRb, hpl5, hpp⟩ := HHM.out x (List.mem_of_getElem? hx)
        have hm5 : m ≤ 5 := by rw [← hs.len]; exact hpl5
        have HTK := hide (homsL_take hx)
        have HPP := hide hpp
        have HXN := hide hxN
        have HXR := hide hxR
        have ablk : (ad.add (k * 3)).block = ad.block := by unfold Addr.add; split <;> rfl
        have d1' : wr.cell? ⟨(ad.add (k * 3)).block, (ad.add (k * 3)).off + 1, none⟩ = some (.int .i64 (N : Int)) := by rw [← hxN]; exact d1
        have d2' : wr.cell? ⟨(ad.add (k * 3)).block, (ad.add (k * 3)).off + 2, none⟩ = some (.int .i64 (R : Int)) := by rw [← hxR]; exact d2
        have HC : Hid (∀ W, Below wr.heap.size wr W → W.cell? ⟨w.heap.size, 6, none⟩ = some (.slice (some ad) n c) ∧ W.cell? (ad.add (k * 3)) = some (.slice A' m c') ∧ W.cell? ⟨(ad.add (k * 3)).block, (ad.add (k * 3)).off + 1, none⟩ = some (.int .i64 (N : Int)) ∧ W.cell? ⟨(ad.add (k * 3)).block, (ad.add (k * 3)).off + 2, none⟩ = some (.int .i64 (R : Int))) := hide fun W hW =>
          ⟨(HSV.out.onB hN (th hb hW)).2.2.2.2.2.2, below_cell hW hadl d0, (hW.cell (p := ⟨(ad.add (k * 3)).block, (ad.add (k * 3)).off + 1, none⟩) (by show (ad.add (k * 3)).block < _; rw [ablk]; exact hadl)).trans d1', (hW.cell (p := ⟨(ad.add (k * 3)).block, (ad.add (k * 3)).off + 2, none⟩) (by show (ad.add (k * 3)).block < _; rw [ablk]; exact hadl)).trans d2'⟩
        obtain ⟨TT, hTT⟩ : ∃ TT, TT = HD ++ LB ++ homsL (L.take k) := ⟨_, rfl⟩
        rw [← hTT] at hr
        have HTT := hide hTT
        have K0 : (0 : Int) ≤ (k : Int) := by omega
        have K1 : (k : Int) < (n : Int) := by omega
        have hbK := hb
        obtain ⟨wo, hwo⟩ : ∃ wo, wo = wr := ⟨_, rfl⟩
        subst hwo
        clear hx hpp hxN hxR ablk d0 d1 d2 d1' d2' hTT
        go_wp2_with fail
        go_loopw [3, 5] (fun v i wz => ∃ j p : Nat, ∃ V2 c2, j ≤ m ∧ p = q + j ∧ i = .int .i64 j ∧ v = .slice V2 p c2 ∧ Bs wz V2 p c2 (TT ++ plL (x.places.take j)) ∧ Below wo.heap.size wo wz) (fun _ i _ => m - (RowKit.intOf i).toNat)
        case atStart => exact ⟨0, q, V, cv, Nat.zero_le _, by omega, rfl, rfl, by simpa [plL] using hr, Below.refl _ _⟩
        case round =>
          obtain ⟨j, p, V2, c2, hj, hp, rfl, rfl, hr2, hb2⟩ := hrel
          obtain ⟨g6, g0, g1, g2⟩ := HC.out _ hb2
          by_cases hlt2 : j < m
          · obtain ⟨pd, y, rfl, hpdl, hy, _, hyc⟩ := at_int (hs.on intR_fine hb2) hlt2
            obtain ⟨u, hyu, hub⟩ := HPP.out y (List.mem_of_getElem? hy)
            subst hyu
            have HPT := hide (plL_take hy)
            have J0 : (0 : Int) ≤ (j : Int) := by omega
            have J1 : (j : Int) < (m : Int) := by omega
            have HP := hide hp
            clear hy hp
            go_wp2_with fail
            refine (rput_any hr2 (by have := HP.out; omega) u 1 (by omega) (by omega)).mono ?_
            rintro e w7 ⟨V7, c7, rfl, ho7, hb7⟩
            go_wp2_with fail
            go_roundw
            case rel => exact ⟨j + 1, p + 1, V7, c7, by omega, by have := HP.out; omega, by go_num, rfl, by rw [HPT.out, ← List.append_assoc]; exact ho7.read byteR_fine, th hb2 hb7⟩
            case measure => (first | omega | (simp [RowKit.intOf]; omega) | go_num)
          · obtain rfl : j = m := by omega
            have hfull : x.places.take j = x.places := List.take_of_length_le (by rw [hs.len]; exact Nat.le_refl _)
            rw [hfull] at hr2
            have hpb : p ≤ 59000 := by omega
            have HP1 : Hid (∀ W, Below wr.heap.size wr W → Calls Tryd.prog 86 #[.slice V2 p c2, .int .i64 (N : Int), .int .i64 1] W fun e w' => ∃ V cv, e = .returned (.slice V (p + 1) cv) ∧ Ow byteR 1 w' W.heap.size W.heap.size 5 (.slice V (p + 1) cv) (p + 1) (TT ++ plL x.places ++ le 1 N) ∧ Below W.heap.size W w') := hide fun W hW => rput_any (hr2.on byteR_fine hW) (by omega) N 1 (by omega) (by omega)
            have HSS : Hid (∀ W, Below wr.heap.size wr W → W.cell? ⟨w.heap.size, 6, none⟩ = some (.slice (some ad) n c) ∧ W.cell? ⟨(ad.add (k * 3)).block, (ad.add (k * 3)).off + 1, none⟩ = some (.int .i64 (N : Int)) ∧ W.cell? ⟨(ad.add (k * 3)).block, (ad.add (k * 3)).off + 2, none⟩ = some (.int .i64 (R : Int))) := hide fun W hW => by
              obtain ⟨a1, _, a2, a3⟩ := HC.out _ (th hb2 hW)
              exact ⟨a1, a2, a3⟩
            have hcur := Below.refl wr.heap.size wr
            have HPE := hide hp
            clear hp hfull hr2
            go_upto_region 13 with fail
            go_region_held3 (fun W => W.cell? ⟨w.heap.size, 6, none⟩ = some (.slice (some ad) n c) ∧ W.cell? ⟨(ad.add (k * 3)).block, (ad.add (k * 3)).off + 1, none⟩ = some (.int .i64 (N : Int)) ∧ W.cell? ⟨(ad.add (k * 3)).block, (ad.add (k * 3)).off + 2, none⟩ = some (.int .i64 (R : Int))) (first | with_reducible exact HSS.out _ hcur | with_reducible exact HSS.out _ hcur.drew) (first
              | (go_at_call 86; (with_reducible refine (HP1.out _ (by first | with_reducible exact hcur | with_reducible exact hcur.drew)).mono ?_); rintro e w7 ⟨V7, c7, rfl, ho7, hb7⟩; have hcur := th (by first | with_reducible exact hcur | with_reducible exact hcur.drew) hb7; have hr7 := ho7.read byteR_fine)
              | (go_at_call 86; refine Calls.mono (rput_any (by first | exact hr7 | exact Sl.drew byteR_fine hr7) (by omega) R 4 (by omega) (by omega)) ?_; rintro e w8 ⟨V8, c8, rfl, ho8, hb8⟩; have hcur := th (by first | with_reducible exact hcur | with_reducible exact hcur.drew) hb8))
            all_goals
              go_wp2_with fail
              go_roundw
              case rel => exact ⟨k + 1, p + 1 + 4, V8, c8, by omega, by have := HPE.out; omega, by go_num, rfl, by
                rw [HTK.out, ← List.append_assoc, ← HTT.out]
                have e : homL x = plL x.places ++ le 1 N ++ le 4 R := by rw [homL_pl, HXN.out, HXR.out]; rfl
                rw [e]
                first | simpa [List.append_assoc] using ho8.read byteR_fine | simpa [List.append_assoc] using Sl.drew byteR_fine (ho8.read byteR_fine), th hbK (th hb2 (by first | exact hcur | exact hcur.drew))⟩
              case measure => (first | omega | (simp [RowKit.intOf]; omega) | go_num)
      · obtain rfl : k = n := by omega
        have hfin : L.take k = L := List.take_of_length_le (by rw [HLEN.out]; exact Nat.le_refl _)
        rw [hfin] at hr
        obtain rfl := hr.len
        have hrr := hr
        go_wp2_with fail
        go_ret
        exact ⟨th hb0 hb, V, cv, rfl, hrr⟩

end Go.Proofs.YtamgpbkakmffiaaDoor
