/-
  Contract: casemateref08.AnchorBytes of a right anchor.
  Contract: casemateref08.ReadAnchor.
-/
import Derived.Test.YtamgpbkakmffiaaDoorAncA
import Derived.Test.YtamgpbkakmffiaaDoorRefP
import Derived.Deep.RegionHeld3
import Derived.Deep.DeepCutAuto
import Derived.Test.YtamgpbkakmffiaaDoorAncR
import Derived.Test.YtamgpbkakmffiaaDoorLabT
import Derived.Deep.CutRange
namespace Go.Proofs.YtamgpbkakmffiaaDoor
open Go.RowKit Go.Lib
set_option linter.unusedVariables false
set_option maxRecDepth 100000

def plL (l : List Int) : List UInt8 := l.map fun p => UInt8.ofNat p.toNat
theorem plL_take {l : List Int} {k p : Nat} (h : l[k]? = some (p : Int)) : plL (l.take (k + 1)) = plL (l.take k) ++ le 1 p := by
  obtain ⟨hk, e⟩ := List.getElem?_eq_some_iff.1 h
  unfold plL
  rw [List.take_succ_eq_append_getElem hk, List.map_append, e]
  rfl
theorem homL_pl (x : Hom) : homL x = plL x.places ++ le 1 x.next.toNat ++ le 4 x.root.toNat := rfl

set_option maxHeartbeats 8000000 in
theorem rabytes_yes {g : Geo} {a : Anc} (hGe : GeoOk g) (ho : AncOk g a) {A : Option Addr} {n c : Nat} {w : World} (ha : Sl homR 3 w (Old w) A n c a.homes) :
    Calls Tryd.prog 41 #[a.v (.slice A n c)] w fun e w' => Below w.heap.size w w' ∧ ∃ V cv, e = .returned (.slice V (ancL a).length cv) ∧ Bs w' V (ancL a).length cv (ancL a) := by
  obtain ⟨j0, hj0, hy0, hy1, hy2⟩ := info_parts u8_info
  have hzs := hGe.1
  have hds := hGe.2.1
  have hss := hGe.2.2.1
  have hsl := hGe.2.2.2.1
  have h24 := lab_len ho.2.1
  rw [sL_len] at h24
  have hnz : (n : Int) = g.zones := by rw [← ha.len]; exact ho.2.2.1
  have hHM : ∀ x ∈ a.homes, ∃ N R : Nat, x.next = (N : Int) ∧ x.root = (R : Int) ∧ N ≤ 255 ∧ R < 4294967296 ∧ x.places.length ≤ 5 ∧ ∀ p ∈ x.places, ∃ q : Nat, p = (q : Int) ∧ q ≤ 255 := fun x hx => by
    obtain ⟨e0, ⟨e1, e2⟩, ⟨e3, e4⟩, e5⟩ := ho.2.2.2 x hx
    refine ⟨x.next.toNat, x.root.toNat, by omega, by omega, by omega, by omega, by omega, fun p hp => ?_⟩
    obtain ⟨i, hi, ei⟩ := List.mem_iff_getElem.1 hp
    have := (e5 i p (by rw [List.getElem?_eq_getElem hi, ei])).1
    exact ⟨p.toNat, by omega, by omega⟩
  obtain ⟨⟨h1, h1'⟩, ⟨h2, h2'⟩, ⟨h3, h3'⟩, ⟨h4, h4'⟩, _, _, h5, h5'⟩ := ho.1
  have hlb := fun w => rlbytes_any a.label (by omega) w
  obtain ⟨gen, epoch, pos, seq, last, s, L⟩ := a
  dsimp only at *
  obtain ⟨G, rfl⟩ : ∃ G : Nat, gen = (G : Int) := ⟨gen.toNat, by omega⟩
  obtain ⟨E, rfl⟩ : ∃ E : Nat, epoch = (E : Int) := ⟨epoch.toNat, by omega⟩
  obtain ⟨P, rfl⟩ : ∃ P : Nat, pos = (P : Int) := ⟨pos.toNat, by omega⟩
  obtain ⟨Q, rfl⟩ : ∃ Q : Nat, seq = (Q : Int) := ⟨seq.toNat, by omega⟩
  obtain ⟨T, rfl⟩ : ∃ T : Nat, last = (T : Int) := ⟨last.toNat, by omega⟩
  have hGb : G < 4294967296 := by omega
  have hEb : E < 4294967296 := by omega
  have hPb : P < 256 := by omega
  have hQb : Q < 4294967296 := by omega
  have hTb : T < 4294967296 := by omega
  obtain ⟨HD, hHD⟩ : ∃ HD, HD = le 4 G ++ le 4 E ++ le 4 Q ++ le 4 T ++ le 1 P := ⟨_, rfl⟩
  obtain ⟨LB, hLB⟩ : ∃ LB, LB = labB (sL s) := ⟨_, rfl⟩
  have hAL : ancL ⟨(G : Int), (E : Int), (P : Int), (Q : Int), (T : Int), s, L⟩ = HD ++ LB ++ homsL L := by rw [hHD, hLB]; rfl
  rw [hAL]
  have hn4 : n ≤ 4 := by omega
  have HLB := hide hlb
  have HHM := hide hHM
  have HLEN := hide ha.len
  have HHD := hide hHD
  rw [← hLB] at HLB
  clear hlb hHM ho hGe h1 h1' h2 h2' h3 h3' h4 h4' h5 h5' hAL hzs hds hss hsl hnz hHD hLB
  unfold Anc.v
  dsimp only
  obtain ⟨W0, hW0⟩ : ∃ W0, W0 = w.alloc (.cells #[.int .i64 (G : Int), .int .i64 (E : Int), .int .i64 (P : Int), .int .i64 (Q : Int), .int .i64 (T : Int), .string s, .slice A n c] 26) := ⟨_, rfl⟩
  have hb0 : Below w.heap.size w W0 := by rw [hW0]; exact alloc_below w _
  have ha0 := ha.on homR_fine hb0
  have hN : w.heap.size < W0.heap.size := by rw [hW0]; simp
  have hsv : Sev W0 w.heap.size (.int .i64 (G : Int)) (.int .i64 (E : Int)) (.int .i64 (P : Int)) (.int .i64 (Q : Int)) (.int .i64 (T : Int)) (.string s) (.slice A n c) := by rw [hW0]; exact Sev.new rfl (Below.refl _ _)
  have HSV := hide hsv
  rw [hW0] at hsv
  obtain ⟨q0, q1, q2, q3, q4, q5, q6⟩ := hsv
  go_enter Tryd.func41, Tryd.ntmps41
  go_wp2_with fail
  rw [← hW0]
  clear hW0 q0 q1 q2 q3 q4 q5 q6
  refine (rput_any (Sl.nil_ _) (by omega) G 4 (by omega) (by omega)).mono ?_
  rintro e w1 ⟨V1, c1, rfl, ho1, hb1⟩
  obtain ⟨q0, q1, q2, q3, q4, q5, q6⟩ := HSV.out.onB hN hb1
  go_wp2_with fail
  refine (rput_any (ho1.read byteR_fine) (by omega) E 4 (by omega) (by omega)).mono ?_
  rintro e w2 ⟨V2, c2, rfl, ho2, hb2⟩
  have hb02 := th hb1 hb2
  obtain ⟨q0, q1, q2, q3, q4, q5, q6⟩ := HSV.out.onB hN hb02
  go_wp2_with fail
  refine (rput_any (ho2.read byteR_fine) (by omega) Q 4 (by omega) (by omega)).mono ?_
  rintro e w3 ⟨V3, c3, rfl, ho3, hb3⟩
  have hb03 := th hb02 hb3
  obtain ⟨q0, q1, q2, q3, q4, q5, q6⟩ := HSV.out.onB hN hb03
  go_wp2_with fail
  refine (rput_any (ho3.read byteR_fine) (by omega) T 4 (by omega) (by omega)).mono ?_
  rintro e w4 ⟨V4, c4, rfl, ho4, hb4⟩
  have hb04 := th hb03 hb4
  have hr4 := ho4.read byteR_fine
  clear q0 q1 q2 q3 q4 q5 q6
  have HS : Hid (∀ W, Below w4.heap.size w4 W → W.cell? ⟨w.heap.size, 2, none⟩ = some (.int .i64 (P : Int)) ∧ W.cell? ⟨w.heap.size, 5, none⟩ = some (.string s)) := hide fun W hW => by
    obtain ⟨_, _, x2, _, _, x5, _⟩ := HSV.out.onB hN (th hb04 hW)
    exact ⟨x2, x5⟩
  have hcur := Below.refl w4.heap.size w4
  obtain ⟨K, hK⟩ : ∃ K, K = 17 + (1 + s.size) := ⟨_, rfl⟩
  have HHK := hide hK
  go_upto_region 5 with fail
  go_cut [3] (fun v wx => ∃ V c, v = .slice V K c ∧ Bs wx V K c (HD ++ LB) ∧ Below w4.heap.size w4 wx)
  case first =>
    go_region_held3 (fun W => W.cell? ⟨w.heap.size, 2, none⟩ = some (.int .i64 (P : Int)) ∧ W.cell? ⟨w.heap.size, 5, none⟩ = some (.string s)) (first | with_reducible exact HS.out _ hcur | with_reducible exact HS.out _ hcur.drew) (first
      | (go_at_call 86; refine Calls.mono (rput_any (hr4.on byteR_fine (by first | with_reducible exact hcur | with_reducible exact hcur.drew)) (by omega) P 1 (by omega) (by omega)) ?_; rintro e w5 ⟨V5, c5, rfl, ho5, hb5⟩; have hop := ho5.less byteR_fine (Below.size (by first | with_reducible exact hcur | with_reducible exact hcur.drew)) (Nat.zero_le _); have hcur := th (by first | with_reducible exact hcur | with_reducible exact hcur.drew) hb5; (first | (have hl6 := hl6.on byteR_fine (by first | exact hb5 | exact th (Below.refl _ _).drew hb5)) | skip))
      | (go_at_call 87; (with_reducible refine (HLB.out _).mono ?_); rintro e w6 ⟨hb6, V6, c6, rfl, ho6⟩; have hcur := th (by first | with_reducible exact hcur | with_reducible exact hcur.drew) hb6; (first | (have hop := hop.below byteR_fine (by first | exact hb6 | exact th (Below.refl _ _).drew hb6)) | skip); have hl6 := ho6.read byteR_fine)
      | (refine step_append_ow _ (by rfl) _ _ _ (by rfl) byteR_fine w4.heap.size 0 5 j0 _ 1 Tryd.underlying58 hj0 hy0 hy1 hy2 rfl (by omega) (.slice V5 17 c5) 17 _ (by rfl) (by first | exact hop | exact hop.below byteR_fine (Below.refl _ _).drew) (Old _) V6 (1 + s.size) c6 LB (by rfl) (by first | exact hl6 | exact hl6.on byteR_fine (Below.refl _ _).drew) (fun _ _ _ h => h) (by simp only [maxLen]; omega) (by omega) (by first | exact hcur.size | exact hcur.drew.size) ?_; intro V8 w8 ho8 hg8 hat8; obtain ⟨A8, c8, rfl⟩ := ho8.form; have hcur := Below.trans (by first | with_reducible exact hcur | with_reducible exact hcur.drew) (below_grown (base := w4.heap.size) hg8 hop.lt hcur.size)))
    all_goals (go_wp2_with fail; go_meet; exact ⟨A8, c8, by rw [HHK.out], by rw [HHK.out, HHD.out]; first | simpa [List.append_assoc] using ho8.read byteR_fine | simpa [List.append_assoc] using Sl.drew byteR_fine (ho8.read byteR_fine), by first | exact hcur | exact hcur.drew⟩)
  case rest =>
    obtain ⟨V5, c5, rfl, hr5, hb5⟩ := hcut
    have hKb : K ≤ 42 := by rw [HHK.out]; omega
    have hKl : (HD ++ LB).length = K := hr5.len
    obtain ⟨w5, hw5⟩ : ∃ w5, w5 = wc := ⟨_, rfl⟩
    have hb05 := th hb04 hb5
    go_wp2_with fail
    go_loopw [3, 4] (fun v i wr => ∃ k q : Nat, ∃ V cv, k ≤ n ∧ q ≤ K + 10 * k ∧ i = .int .i64 k ∧ v = .slice V q cv ∧ Bs wr V q cv (HD ++ LB ++ homsL (L.take k)) ∧ Below W0.heap.size W0 wr) (fun _ i _ => n - (RowKit.intOf i).toNat)
    case atStart => exact ⟨0, K, V5, c5, Nat.zero_le _, by omega, rfl, rfl, by simpa [homsL] using hr5, hb05⟩
    case round =>
      obtain ⟨k, q, V, cv, hk, hq, rfl, rfl, hr, hb⟩ := hrel
      obtain ⟨q0, q1, q2, q3, q4, q5, q6⟩ := HSV.out.onB hN hb
      by_cases hlt : k < n
      · obtain ⟨ad, x, A', m, c', rfl, hadl, hx, _, _, hs, d0, d1, d2⟩ := at_hom (ha0.on homR_fine hb) hlt
        obtain ⟨N, R, hxN, hxR, hNb, hRb, hpl5, hpp⟩ := HHM.out x (List.mem_of_getElem? hx)
        have hm5 : m ≤ 5 := by rw [← hs.len]; exact hpl5
        have HTK := hide (homsL_take hx)
        have HPP := hide hpp
        have HXN := hide hxN
        have HXR := hide hxR
        have ablk : (ad.add (k * 3)).block = ad.block := by unfold Addr.add; split <;> rfl
        have d1' : wr.cell? ⟨(ad.add (k * 3)).block, (ad.add (k * 3)).off + 1, none⟩ = some (.int .i64 (N : Int)) := by rw [← hxN]; exact d1
        have d2' : wr.cell? ⟨(ad.add (k * 3)).block, (ad.add (k * 3)).off + 2, none⟩ = some (.int .i64 (R : Int)) := by rw [← hxR]; exact d2
        have HC : Hid (∀ W, Below wr.heap.size wr W → W.cell? ⟨w.heap.size, 6, none⟩ = some (.slice (some ad) n c) ∧ W.cell? (ad.add (k * 3)) = some (.slice A' m c') ∧ W.cell? ⟨(ad.add (k * 3)).block, (ad.add (k * 3)).off + 1, none⟩ = some (.int .i64 (N : Int)) ∧ W.cell? ⟨(ad.add (k * 3)).block, (ad.add (k * 3)).off + 2, none⟩ = some (.int .i64 (R : Int))) := hide fun W hW =>
          ⟨(HSV.out.onB hN (th hb hW)).2.2.2.2.2.2, below_cell hW hadl d0, (hW.cell (p := ⟨(ad.add (k * 3)).block, (ad.add (k * 3)).off + 1, none⟩) (by show (ad.add (k * 3)).block < _; rw [ablk]; exact hadl)).trans d1', (hW.cell (p := ⟨(ad.add (k * 3)).block, (ad.add (k * 3)).off + 2, none⟩) (by show (ad.add (k * 3)).block < _; rw [ablk]; exact hadl)).trans d2'⟩
        obtain ⟨TT, hTT⟩ : ∃ TT, TT = HD ++ LB ++ homsL (L.take k) := ⟨_, rfl⟩
        rw [← hTT] at hr
        have HTT := hide hTT
        have K0 : (0 : Int) ≤ (k : Int) := by omega
        have K1 : (k : Int) < (n : Int) := by omega
        have hbK := hb
        obtain ⟨wo, hwo⟩ : ∃ wo, wo = wr := ⟨_, rfl⟩
        subst hwo
        clear hx hpp hxN hxR ablk d0 d1 d2 d1' d2' hTT
        go_wp2_with fail
        go_loopw [3, 5] (fun v i wz => ∃ j p : Nat, ∃ V2 c2, j ≤ m ∧ p = q + j ∧ i = .int .i64 j ∧ v = .slice V2 p c2 ∧ Bs wz V2 p c2 (TT ++ plL (x.places.take j)) ∧ Below wo.heap.size wo wz) (fun _ i _ => m - (RowKit.intOf i).toNat)
        case atStart => exact ⟨0, q, V, cv, Nat.zero_le _, by omega, rfl, rfl, by simpa [plL] using hr, Below.refl _ _⟩
        case round =>
          obtain ⟨j, p, V2, c2, hj, hp, rfl, rfl, hr2, hb2⟩ := hrel
          obtain ⟨g6, g0, g1, g2⟩ := HC.out _ hb2
          by_cases hlt2 : j < m
          · obtain ⟨pd, y, rfl, hpdl, hy, _, hyc⟩ := at_int (hs.on intR_fine hb2) hlt2
            obtain ⟨u, hyu, hub⟩ := HPP.out y (List.mem_of_getElem? hy)
            subst hyu
            have HPT := hide (plL_take hy)
            have J0 : (0 : Int) ≤ (j : Int) := by omega
            have J1 : (j : Int) < (m : Int) := by omega
            have HP := hide hp
            clear hy hp
            go_wp2_with fail
            refine (rput_any hr2 (by have := HP.out; omega) u 1 (by omega) (by omega)).mono ?_
            rintro e w7 ⟨V7, c7, rfl, ho7, hb7⟩
            go_wp2_with fail
            go_roundw
            case rel => exact ⟨j + 1, p + 1, V7, c7, by omega, by have := HP.out; omega, by go_num, rfl, by rw [HPT.out, ← List.append_assoc]; exact ho7.read byteR_fine, th hb2 hb7⟩
            case measure => (first | omega | (simp [RowKit.intOf]; omega) | go_num)
          · obtain rfl : j = m := by omega
            have hfull : x.places.take j = x.places := List.take_of_length_le (by rw [hs.len]; exact Nat.le_refl _)
            rw [hfull] at hr2
            have hpb : p ≤ 59000 := by omega
            have HP1 : Hid (∀ W, Below wr.heap.size wr W → Calls Tryd.prog 86 #[.slice V2 p c2, .int .i64 (N : Int), .int .i64 1] W fun e w' => ∃ V cv, e = .returned (.slice V (p + 1) cv) ∧ Ow byteR 1 w' W.heap.size W.heap.size 5 (.slice V (p + 1) cv) (p + 1) (TT ++ plL x.places ++ le 1 N) ∧ Below W.heap.size W w') := hide fun W hW => rput_any (hr2.on byteR_fine hW) (by omega) N 1 (by omega) (by omega)
            have HSS : Hid (∀ W, Below wr.heap.size wr W → W.cell? ⟨w.heap.size, 6, none⟩ = some (.slice (some ad) n c) ∧ W.cell? ⟨(ad.add (k * 3)).block, (ad.add (k * 3)).off + 1, none⟩ = some (.int .i64 (N : Int)) ∧ W.cell? ⟨(ad.add (k * 3)).block, (ad.add (k * 3)).off + 2, none⟩ = some (.int .i64 (R : Int))) := hide fun W hW => by
              obtain ⟨a1, _, a2, a3⟩ := HC.out _ (th hb2 hW)
              exact ⟨a1, a2, a3⟩
            have hcur := Below.refl wr.heap.size wr
            have HPE := hide hp
            clear hp hfull hr2
            go_upto_region 13 with fail
            go_region_held3 (fun W => W.cell? ⟨w.heap.size, 6, none⟩ = some (.slice (some ad) n c) ∧ W.cell? ⟨(ad.add (k * 3)).block, (ad.add (k * 3)).off + 1, none⟩ = some (.int .i64 (N : Int)) ∧ W.cell? ⟨(ad.add (k * 3)).block, (ad.add (k * 3)).off + 2, none⟩ = some (.int .i64 (R : Int))) (first | with_reducible exact HSS.out _ hcur | with_reducible exact HSS.out _ hcur.drew) (first
              | (go_at_call 86; (with_reducible refine (HP1.out _ (by first | with_reducible exact hcur | with_reducible exact hcur.drew)).mono ?_); rintro e w7 ⟨V7, c7, rfl, ho7, hb7⟩; have hcur := th (by first | with_reducible exact hcur | with_reducible exact hcur.drew) hb7; have hr7 := ho7.read byteR_fine)
              | (go_at_call 86; refine Calls.mono (rput_any (by first | exact hr7 | exact Sl.drew byteR_fine hr7) (by omega) R 4 (by omega) (by omega)) ?_; rintro e w8 ⟨V8, c8, rfl, ho8, hb8⟩; have hcur := th (by first | with_reducible exact hcur | with_reducible exact hcur.drew) hb8))
            all_goals
              go_wp2_with fail
              go_roundw
              case rel => exact ⟨k + 1, p + 1 + 4, V8, c8, by omega, by have := HPE.out; omega, by go_num, rfl, by
                rw [HTK.out, ← List.append_assoc, ← HTT.out]
                have e : homL x = plL x.places ++ le 1 N ++ le 4 R := by rw [homL_pl, HXN.out, HXR.out]; rfl
                rw [e]
                first | simpa [List.append_assoc] using ho8.read byteR_fine | simpa [List.append_assoc] using Sl.drew byteR_fine (ho8.read byteR_fine), th hbK (th hb2 (by first | exact hcur | exact hcur.drew))⟩
              case measure => (first | omega | (simp [RowKit.intOf]; omega) | go_num)
      · obtain rfl : k = n := by omega
        have hfin : L.take k = L := List.take_of_length_le (by rw [HLEN.out]; exact Nat.le_refl _)
        rw [hfin] at hr
        obtain rfl := hr.len
        have hrr := hr
        go_wp2_with fail
        go_ret
        exact ⟨th hb0 hb, V, cv, rfl, hrr⟩

end Go.Proofs.YtamgpbkakmffiaaDoor

namespace Go.Proofs.YtamgpbkakmffiaaDoor
open Go.RowKit Go.Lib
set_option linter.unusedVariables false
set_option maxRecDepth 100000

/-- What casemateref08.ReadAnchor tells. -/
def RAncIs (g : Geo) (b : List UInt8) (a : Anc) (r : Bool) : Prop := (r = true ∧ ancOf g.zones.toNat g.data.toNat b = some a ∧ AncOk g a) ∨ (r = false ∧ (∀ a', ancOf g.zones.toNat g.data.toNat b = some a' → ¬ AncOk g a') ∧ a = noAnc)
def RAncPost (w : World) (g : Geo) (b : List UInt8) (e : Ending) (w' : World) : Prop := Below w.heap.size w w' ∧ ∃ a V m d r, e = .returned (.tuple #[a.v (.slice V m d), .bool r]) ∧ Sl homR 3 w' (Old w') V m d a.homes ∧ RAncIs g b a r
def RAncPostN (w : World) (g : Geo) (b : List UInt8) (e : Ending) (w' : World) : Prop := Below w.heap.size w w' ∧ ∃ a V m d r, e = .returned (.tuple #[a.v (.slice V m d), .bool r]) ∧ Sl homR 3 w' (New w.heap.size w') V m d a.homes ∧ RAncIs g b a r
theorem num_at {l : List UInt8} {i : Nat} {x : UInt8} (h : l[i]? = some x) : num ((l.drop i).take 1) = x.toNat := by
  obtain ⟨hi, e⟩ := List.getElem?_eq_some_iff.1 h
  rw [List.drop_eq_getElem_cons hi, e]
  simp [num]
theorem pl_take {l : List UInt8} {k : Nat} {x : UInt8} (h : l[k]? = some x) : (l.take (k + 1)).map (fun x => (x.toNat : Int)) = (l.take k).map (fun x => (x.toNat : Int)) ++ [(x.toNat : Int)] := by
  obtain ⟨hk, e⟩ := List.getElem?_eq_some_iff.1 h
  rw [List.take_succ_eq_append_getElem hk, List.map_append, e]
  rfl
theorem anc_few {z d : Nat} {b : List UInt8} (h : b.length < 18) : ancOf z d b = none := by
  refine ancOf_none ?_
  cases hr : readLab (b.drop 17) with
  | none => rfl
  | some s =>
    have h1 := (readLab_some hr).2.2
    rw [List.length_drop] at h1
    omega

set_option maxHeartbeats 8000000 in
theorem ranch_new (g : Geo) (hG : GeoOk g) (A : Option Addr) (n c : Nat) (b : List UInt8) (w : World) (hb : Bs w A n c b) (hn : n ≤ 60000) :
    Calls Tryd.prog 39 #[g.v, .slice A n c] w (RAncPostN w g b) := by
  obtain ⟨e0, he0, ee0, ee1, ee2⟩ := info_parts hom_info
  obtain ⟨i0, hi0, ii0, ii1, ii2⟩ := info_parts int_info
  obtain ⟨W0, hW0⟩ : ∃ W0, W0 = (w.alloc (.cells #[.int .i64 g.zones, .int .i64 g.data, .int .i64 g.spares, .int .i64 g.slots, .int .i64 g.anchors] 23)).alloc (.cells #[.int .i64 0, .int .i64 0, .int .i64 0, .int .i64 0, .int .i64 0, .string ⟨#[]⟩, .slice none 0 0] 26) := ⟨_, rfl⟩
  have hS0 : (w.alloc (.cells #[.int .i64 g.zones, .int .i64 g.data, .int .i64 g.spares, .int .i64 g.slots, .int .i64 g.anchors] 23)).heap.size = w.heap.size + 1 := by simp
  have hNB : w.heap.size + 1 < W0.heap.size := by rw [hW0]; simp
  have hb0 : Below w.heap.size w W0 := by rw [hW0]; exact (alloc_below w _).alloc (by simp) _
  have hr0 := hb.on byteR_fine hb0
  have hg0 : GeoAt W0 w.heap.size g := by rw [hW0]; exact (GeoAt.new w g 23).on (alloc_below _ _)
  have hz0 : Sev W0 (w.heap.size + 1) (.int .i64 0) (.int .i64 0) (.int .i64 0) (.int .i64 0) (.int .i64 0) (.string ⟨#[]⟩) (.slice none 0 0) := by rw [hW0]; exact Sev.new hS0 (Below.refl _ _)
  have hf0 : ∀ W, Below W0.heap.size W0 W → ∀ k, W.frozen? ⟨w.heap.size + 1, k, none⟩ = false := fun W hW k => by subst hW0; exact bx_free2 hS0 hW k
  have HF0 := hide hf0
  have HLEN := hide hb.len
  have HRA := hide fun (X : Anc) (V : Option Addr) (m q : Nat) (W : World) (h : Sl homR 3 W (Old W) V m q X.homes) (hin : X.In) (hl : Light X) => ranchor_any g hG X V m q W h hin hl
  unfold RAncPostN
  have hcap := hb.cap
  unfold Geo.v Anc.v at *
  obtain ⟨z, hz⟩ : ∃ z : Nat, g.zones = (z : Int) := ⟨g.zones.toNat, by have := hG.1; omega⟩
  obtain ⟨d, hd⟩ : ∃ d : Nat, g.data = (d : Int) := ⟨g.data.toNat, by have := hG.2.1; omega⟩
  have hz4 : 1 ≤ z ∧ z ≤ 4 := by have := hG.1; omega
  have hd4 : 1 ≤ d ∧ d ≤ 4 := by have := hG.2.1; omega
  have hbad : (∀ a', ancOf z d b = some a' → ¬ AncOk g a') → RAncIs g b noAnc false := fun h => .inr ⟨rfl, by rw [show g.zones.toNat = z by omega, show g.data.toNat = d by omega]; exact h, rfl⟩
  have hgood : ∀ a, ancOf z d b = some a → AncOk g a → RAncIs g b a true := fun a h1 h2 => .inl ⟨rfl, by rw [show g.zones.toNat = z by omega, show g.data.toNat = d by omega]; exact h1, h2⟩
  obtain ⟨gz, gd, gs, gl, ga⟩ := g
  dsimp only at hz hd
  subst hz
  subst hd
  dsimp only at *
  have HBAD := hide hbad
  have HGOOD := hide hgood
  obtain ⟨hz1, hz4⟩ := hz4
  obtain ⟨hd1, hd4⟩ := hd4
  clear hf0 hbad hgood hS0 hb hG
  by_cases h18 : n < 18
  · have h18' : (n : Int) < 18 := by omega
    have HAF := hide (HBAD.out fun a' h => by rw [anc_few (by have := HLEN.out; omega)] at h; cases h)
    go_enter Tryd.func39, Tryd.ntmps39
    go_upto_region 2 with fail
    rw [← hW0]
    clear hW0
    obtain ⟨y0, y1, y2, y3, y4, y5, y6⟩ := hz0.onB hNB (Below.refl _ _)
    have f0 := HF0.out _ (Below.refl _ _) 0
    have f1 := HF0.out _ (Below.refl _ _) 1
    have f2 := HF0.out _ (Below.refl _ _) 2
    have f3 := HF0.out _ (Below.refl _ _) 3
    have f4 := HF0.out _ (Below.refl _ _) 4
    have f5 := HF0.out _ (Below.refl _ _) 5
    have f6 := HF0.out _ (Below.refl _ _) 6
    have hzu := put7_sev (hz0.onB hNB (Below.refl _ _)) (.int .i64 0) (.int .i64 0) (.int .i64 0) (.int .i64 0) (.int .i64 0) (.string ⟨#[]⟩) (.slice none 0 0)
    unfold put7 at hzu
    have HZU := hide hzu
    clear hzu
    go_wp2_with fail
    obtain ⟨u0, u1, u2, u3, u4, u5, u6⟩ := HZU.out
    exact bodyPost_ret (v := .tuple #[.agg #[.int .i64 0, .int .i64 0, .int .i64 0, .int .i64 0, .int .i64 0, .string ⟨#[]⟩, .slice none 0 0], .bool false]) (by simp [results, Tryd.results39, go_sem, u0, u1, u2, u3, u4, u5, u6]) rfl ⟨put7_below (th hb0 (Below.refl _ _)) (by omega) _ _ _ _ _ _ _, noAnc, none, 0, 0, false, rfl, Sl.nil_ _, HAF.out⟩
  have h18' : ¬ (n : Int) < 18 := by omega
  obtain ⟨ad, rfl, _, _⟩ := hr0.at0 (by omega)
  obtain ⟨ad', x16, e16, hadl, hx16, hc16⟩ := at_byte hr0 (show 16 < n by omega)
  injection e16 with e16
  subst e16
  have vadd : ∀ k : Nat, k ≠ 0 → ad.add k = ⟨ad.block, ad.off + k, none⟩ := fun k hk => by unfold Addr.add; rw [if_neg hk]
  have r4 := rest1 hr0 (i := 4) (by omega) (by omega)
  have r8 := rest1 hr0 (i := 8) (by omega) (by omega)
  have r12 := rest1 hr0 (i := 12) (by omega) (by omega)
  have r17 := rest1 hr0 (i := 17) (by omega) (by omega)
  simp only [Option.map_some] at r4 r8 r12 r17
  obtain ⟨N0, hN0⟩ : ∃ N0 : Int, N0 = (num (b.take 4) : Nat) := ⟨_, rfl⟩
  obtain ⟨N1, hN1⟩ : ∃ N1 : Int, N1 = (num ((b.drop 4).take 4) : Nat) := ⟨_, rfl⟩
  obtain ⟨N2, hN2⟩ : ∃ N2 : Int, N2 = (num ((b.drop 8).take 4) : Nat) := ⟨_, rfl⟩
  obtain ⟨N3, hN3⟩ : ∃ N3 : Int, N3 = (num ((b.drop 12).take 4) : Nat) := ⟨_, rfl⟩
  obtain ⟨N4, hN4⟩ : ∃ N4 : Int, N4 = (num ((b.drop 16).take 1) : Nat) := ⟨_, rfl⟩
  have v16 : (x16.toNat : Int) = N4 := by rw [hN4, num_at hx16]
  have W16 : IntKind.i64.wrap N4 = N4 := by rw [← v16]; exact IntWalk.i64_in _ (by have := x16.toNat_lt; omega)
  rw [v16] at hc16
  have mv : ∀ {A n c l}, Bs W0 A n c l → ∀ W, Below W0.heap.size W0 W → Bs W A n c l := fun h W hW => h.on byteR_fine hW
  have G0 : Hid (∀ W, Below W0.heap.size W0 W → Calls Tryd.prog 43 #[.slice (some ad) n c, .int .i64 4] W fun e w' => e = .returned (.int .i64 N0) ∧ W = w') := hide fun W hW => by rw [hN0]; exact rget_any (mv hr0 W hW) 4 (by omega) (by omega)
  have G4 : Hid (∀ W, Below W0.heap.size W0 W → Calls Tryd.prog 43 #[.slice (some ⟨ad.block, ad.off + 4, none⟩) (n - 4) (c - 4), .int .i64 4] W fun e w' => e = .returned (.int .i64 N1) ∧ W = w') := hide fun W hW => by rw [hN1, ← vadd 4 (by omega)]; exact rget_any (mv r4 W hW) 4 (by omega) (by omega)
  have G8 : Hid (∀ W, Below W0.heap.size W0 W → Calls Tryd.prog 43 #[.slice (some ⟨ad.block, ad.off + 8, none⟩) (n - 8) (c - 8), .int .i64 4] W fun e w' => e = .returned (.int .i64 N2) ∧ W = w') := hide fun W hW => by rw [hN2, ← vadd 8 (by omega)]; exact rget_any (mv r8 W hW) 4 (by omega) (by omega)
  have G12 : Hid (∀ W, Below W0.heap.size W0 W → Calls Tryd.prog 43 #[.slice (some ⟨ad.block, ad.off + 12, none⟩) (n - 12) (c - 12), .int .i64 4] W fun e w' => e = .returned (.int .i64 N3) ∧ W = w') := hide fun W hW => by rw [hN3, ← vadd 12 (by omega)]; exact rget_any (mv r12 W hW) 4 (by omega) (by omega)
  have HRL : Hid (∀ W, Below W0.heap.size W0 W → Calls Tryd.prog 85 #[.slice (some ⟨ad.block, ad.off + 17, none⟩) (n - 17) (c - 17)] W (RReadPost W (b.drop 17))) := hide fun W hW => by rw [← vadd 17 (by omega)]; exact rread_any _ _ _ _ W (mv r17 W hW) (by omega)
  have HS : Hid (∀ W, Below W0.heap.size W0 W → W.cell? ⟨ad.block, ad.off + 16, none⟩ = some (.int .u8 N4)) := hide fun W hW => by rw [← vadd 16 (by omega)]; exact below_cell hW hadl hc16
  have hcur := Below.refl W0.heap.size W0
  have HCAND : Hid (∀ s : List UInt8, candA z d b s = ⟨N0, N1, N4, N2, N3, mkS s, homsOf d z (b.drop (18 + s.length))⟩) := hide fun s => by rw [hN0, hN1, hN2, hN3, hN4]; rfl
  have B0 : (4 : Int) ≤ (n : Int) := by omega
  have B1 : (8 : Int) ≤ (n : Int) := by omega
  have B2 : (12 : Int) ≤ (n : Int) := by omega
  have B3 : (16 : Int) < (n : Int) := by omega
  have B4 : (17 : Int) ≤ (n : Int) := by omega
  have B5 : (n : Int) ≤ (c : Int) := by omega
  have C0 : ¬ c = 4 := by omega
  have C1 : ¬ c = 8 := by omega
  have C2 : ¬ c = 12 := by omega
  have C3 : ¬ c = 17 := by omega
  have HR0 := hide hr0
  clear mv r4 r8 r12 r17 hN0 hN1 hN2 hN3 hN4 hx16 v16 hc16 hr0
  go_enter Tryd.func39, Tryd.ntmps39
  go_upto_region 3 with fail
  rw [← hW0]
  clear hW0
  go_cut [6] (fun v wx => v = .pointer (some ⟨W0.heap.size, 0, none⟩) ∧ Below W0.heap.size W0 wx ∧ Sev wx W0.heap.size (.int .i64 N0) (.int .i64 N1) (.int .i64 N4) (.int .i64 N2) (.int .i64 N3) (.string ⟨#[]⟩) (.slice none 0 0) ∧ (∀ k, wx.frozen? ⟨W0.heap.size, k, none⟩ = false) ∧ W0.heap.size < wx.heap.size)
  case first =>
    go_region_held3 (fun W => W.cell? ⟨ad.block, ad.off + 16, none⟩ = some (.int .u8 N4)) (first | with_reducible exact HS.out _ hcur | with_reducible exact HS.out _ hcur.drew | with_reducible exact HS.out _ (alloc_below W0 _) | with_reducible exact HS.out _ (alloc_below W0 _).drew) (first
      | (go_at_call 43; (with_reducible refine (G0.out _ (by first | with_reducible exact hcur | with_reducible exact hcur.drew | with_reducible exact alloc_below W0 _ | with_reducible exact (alloc_below W0 _).drew)).mono ?_); rintro e w7 ⟨rfl, rfl⟩)
      | (go_at_call 43; (with_reducible refine (G4.out _ (by first | with_reducible exact hcur | with_reducible exact hcur.drew | with_reducible exact alloc_below W0 _ | with_reducible exact (alloc_below W0 _).drew)).mono ?_); rintro e w7 ⟨rfl, rfl⟩)
      | (go_at_call 43; (with_reducible refine (G8.out _ (by first | with_reducible exact hcur | with_reducible exact hcur.drew | with_reducible exact alloc_below W0 _ | with_reducible exact (alloc_below W0 _).drew)).mono ?_); rintro e w7 ⟨rfl, rfl⟩)
      | (go_at_call 43; (with_reducible refine (G12.out _ (by first | with_reducible exact hcur | with_reducible exact hcur.drew | with_reducible exact alloc_below W0 _ | with_reducible exact (alloc_below W0 _).drew)).mono ?_); rintro e w7 ⟨rfl, rfl⟩))
    all_goals (go_wp2_with fail; go_meet; first
      | exact ⟨rfl, alloc_below _ _, Sev.new rfl (Below.refl _ _), fun k => box_free (Below.refl _ _) k, by simp⟩
      | exact ⟨rfl, (alloc_below _ _).drew, Sev.new rfl (Below.refl _ _).drew, fun k => box_free (Below.refl _ _).drew k, by show _ < (W0.alloc _).heap.size; simp⟩)
  case rest =>
    obtain ⟨rfl, hb3, hsv3, hf3, hN3⟩ := hcut
    obtain ⟨w3, hw3⟩ : ∃ w3, w3 = wc := ⟨_, rfl⟩
    subst hw3
    have HSV3 := hide hsv3
    have HF3 := hide hf3
    clear hsv3 hf3 G0 G4 G8 G12 HS hcur W16
    go_wp2_with fail
    refine (HRL.out _ hb3).mono ?_
    unfold RReadPost RRead
    rintro e w4 ⟨hb4, s, k4, rfl, hq⟩
    have hb04 := th hb3 hb4
    rcases hq with ⟨s', hrl, rfl, rfl⟩ | ⟨hrl, rfl, rfl⟩
    · obtain ⟨hlab, htk, hle⟩ := readLab_some hrl
      have h24 := lab_len hlab
      rw [List.length_drop, HLEN.out] at hle
      obtain ⟨K, hK⟩ : ∃ K : Nat, K = 1 + s.length := ⟨_, rfl⟩
      obtain ⟨Q, hQ⟩ : ∃ Q : Nat, Q = 18 + s.length := ⟨_, rfl⟩
      have hKi : (1 : Int) + (s.length : Int) = (K : Int) := by omega
      rw [hKi]
      have eQ : IntKind.i64.wrap (17 + (K : Int)) = (Q : Int) := by rw [IntWalk.i64_in _ (by omega)]; omega
      have k0 : ¬ (K : Int) = 0 := by omega
      have k1 : ((K : Int) == 0) = false := by simpa using k0
      have k2 : ¬ K = 0 := by omega
      have q0 : (0 : Int) ≤ (Q : Int) := by omega
      have q1 : (Q : Int) ≤ (n : Int) := by omega
      obtain ⟨D6, hD6⟩ : ∃ D6 : Nat, D6 = d + 6 := ⟨_, rfl⟩
      have e6 : IntKind.i64.wrap ((d : Int) + 6) = (D6 : Int) := by rw [IntWalk.i64_in _ (by omega)]; omega
      obtain ⟨T, hT⟩ : ∃ T : Nat, T = z * D6 := ⟨_, rfl⟩
      have hTle : T ≤ 40 := by
        rw [hT]
        exact Nat.le_trans (Nat.mul_le_mul hz4 (show D6 ≤ 10 by omega)) (by omega)
      have hTge : 7 ≤ T := by
        rw [hT]
        exact Nat.le_trans (by omega) (Nat.mul_le_mul hz1 (show 7 ≤ D6 by omega))
      have eT : IntKind.i64.wrap ((z : Int) * (D6 : Int)) = (T : Int) := by
        have h1 : (z : Int) * (D6 : Int) = (T : Int) := by rw [hT, Int.natCast_mul]
        rw [h1]
        exact IntWalk.i64_in _ (by omega)
      have HIFF : Hid (b.length = 18 + s.length + z * (d + 6) ↔ n - Q = T) := hide (by rw [HLEN.out, hT, hD6]; omega)
      have HQ := hide hQ
      have HK := hide hK
      have HT := hide hT
      have HD6 := hide hD6
      obtain ⟨_, p0, p1, p2, p3, p4⟩ := hg0.on hb04
      have hD67 : 7 ≤ D6 ∧ D6 ≤ 10 := by omega
      have hQ42 : Q ≤ 42 := by omega
      clear htk hle hKi hlab hQ hK hT hD6
      by_cases hcQ : c = Q
      · have hnQ : n - c = 0 := by omega
        have HAF := hide (HBAD.out fun a' h => by
          rw [ancOf_cand hrl, if_neg (fun e => by have := HIFF.out.1 e; omega)] at h
          cases h)
        have t0 : ((0 : Int) != (T : Int)) = true := by simp; omega
        have t1 : ¬ (0 : Int) = (T : Int) := by omega
        have t2 : ¬ 0 = T := by omega
        subst hcQ
        obtain ⟨y0, y1, y2, y3, y4, y5, y6⟩ := hz0.onB hNB hb04
        have f0 := HF0.out _ hb04 0
        have f1 := HF0.out _ hb04 1
        have f2 := HF0.out _ hb04 2
        have f3 := HF0.out _ hb04 3
        have f4 := HF0.out _ hb04 4
        have f5 := HF0.out _ hb04 5
        have f6 := HF0.out _ hb04 6
        have hzu := put7_sev (hz0.onB hNB hb04) (.int .i64 0) (.int .i64 0) (.int .i64 0) (.int .i64 0) (.int .i64 0) (.string ⟨#[]⟩) (.slice none 0 0)
        unfold put7 at hzu
        have HZU := hide hzu
        clear hzu
        go_wp2_with fail
        obtain ⟨u0, u1, u2, u3, u4, u5, u6⟩ := HZU.out
        exact bodyPost_ret (v := .tuple #[.agg #[.int .i64 0, .int .i64 0, .int .i64 0, .int .i64 0, .int .i64 0, .string ⟨#[]⟩, .slice none 0 0], .bool false]) (by simp [results, Tryd.results39, go_sem, u0, u1, u2, u3, u4, u5, u6]) rfl ⟨put7_below (th hb0 hb04) (by omega) _ _ _ _ _ _ _, noAnc, none, 0, 0, false, rfl, Sl.nil_ _, HAF.out⟩
      · obtain ⟨m, hm⟩ : ∃ m : Nat, n - Q = m := ⟨_, rfl⟩
        have HM := hide hm
        rw [hm] at HIFF
        have hmc : m ≤ c - Q := by omega
        by_cases hl : m = T
        · subst hl
          have t0 : ((m : Int) != (m : Int)) = false := by simp
          obtain ⟨v0, v1, v2, v3, v4, v5, v6⟩ := HSV3.out.on hN3 hb4
          have f5 := (hb4.frozen (p := ⟨W0.heap.size, 5, none⟩) hN3).trans (HF3.out 5)
          obtain ⟨W5, hW5⟩ : ∃ W5, W5 = w4.setCell ⟨W0.heap.size, 5, none⟩ (.string (mkS s)) := ⟨_, rfl⟩
          have hb45 : Below W0.heap.size W0 W5 := by rw [hW5]; exact hb04.setCell (Nat.le_refl _) _
          have hN5 : W0.heap.size < W5.heap.size := by rw [hW5, set_size]; have := hb4.size; omega
          have hsv5 : Sev W5 W0.heap.size (.int .i64 N0) (.int .i64 N1) (.int .i64 N4) (.int .i64 N2) (.int .i64 N3) (.string (mkS s)) (.slice none 0 0) := by
            rw [hW5]
            exact ⟨put_off' (by omega) v0, put_off' (by omega) v1, put_off' (by omega) v2, put_off' (by omega) v3, put_off' (by omega) v4, put_same v5, put_off' (by omega) v6⟩
          have hfr5 : W5.frozen? ⟨W0.heap.size, 6, none⟩ = false := by rw [hW5]; exact (put_free _ _ _ _).trans ((hb4.frozen (p := ⟨W0.heap.size, 6, none⟩) hN3).trans (HF3.out 6))
          have hrs : Bs W0 (some (ad.add Q)) m (c - Q) (b.drop Q) := by
            have h1 := rest1 HR0.out (i := Q) (by omega) hcQ
            rw [HM.out] at h1
            simpa using h1
          have HSV5 := hide hsv5
          have HFR5 := hide hfr5
          have HRS := hide hrs
          clear hsv5 hfr5 hrs
          go_upto_region 9 with fail
          rw [← hW5]
          clear hW5 v0 v1 v2 v3 v4 v5 v6 f5 t0 k0 k1 k2 eQ q0 q1 B0 B1 B2 B3 B4 B5 C0 C1 C2 C3 p0 p1 p2 p3 p4
          go_wp2_with fail
          go_loopw [9, 10] (fun rv i wr => ∃ k q m' : Nat, ∃ R cr V cv, k ≤ z ∧ i = .int .i64 k ∧ Hid (q = k * D6) ∧ q + m' = m ∧ rv = .slice R m' cr ∧ Hid (k < z → Bs W0 R m' cr (b.drop (Q + q))) ∧ Ow homR 3 wr (W0.heap.size + 1) (W0.heap.size + 1) 44 (.slice V k cv) k (homsOf d k (b.drop Q)) ∧ Hid (Sev wr W0.heap.size (.int .i64 N0) (.int .i64 N1) (.int .i64 N4) (.int .i64 N2) (.int .i64 N3) (.string (mkS s)) (.slice V k cv)) ∧ Hid (wr.frozen? ⟨W0.heap.size, 6, none⟩ = false) ∧ Below W0.heap.size W0 wr ∧ W0.heap.size + 1 ≤ wr.heap.size) (fun _ i _ => z - (RowKit.intOf i).toNat)
          case atStart => exact ⟨0, 0, m, some (ad.add Q), c - Q, none, 0, Nat.zero_le _, rfl, hide (by omega), by omega, rfl, hide (fun _ => HRS.out), Ow.nil_ _ _ _ _, HSV5, HFR5, hb45, hN5⟩
          case round =>
            obtain ⟨k, q, m', R, cr, V, cv, hk, rfl, hq, hqm, rfl, hrest, ho, hsev, hfr, hbr, hsz⟩ := hrel
            obtain ⟨wo, hwo⟩ : ∃ wo : World, wo = wr := ⟨_, rfl⟩
            subst hwo
            obtain ⟨_, p0, p1, p2, p3, p4⟩ := hg0.on hbr
            by_cases hlt : k < z
            · have hrB := hrest.out hlt
              have hD6m : D6 ≤ m' := by
                have h1 : (k + 1) * D6 ≤ m := by rw [HT.out]; exact Nat.mul_le_mul_right _ hlt
                rw [Nat.add_mul, Nat.one_mul, ← hq.out] at h1
                omega
              obtain ⟨rd, rfl, hrdl, _⟩ := hrB.at0 (by omega)
              have hcr := hrB.cap
              have hmd : d + 6 ≤ (b.drop (Q + q)).length := by rw [hrB.len, ← HD6.out]; exact hD6m
              obtain ⟨hpl, hin1, hin2⟩ := homOf_in hmd
              have hsn := homsOf_snoc d k (b.drop Q)
              rw [← HD6.out, ← hq.out, List.drop_drop] at hsn
              have hplH : (homOf d (b.drop (Q + q))).places = ((b.drop (Q + q)).take (d + 1)).map fun x => (x.toNat : Int) := rfl
              have hnxH : (homOf d (b.drop (Q + q))).next = (num (((b.drop (Q + q)).drop (d + 1)).take 1) : Nat) := rfl
              have hrtH : (homOf d (b.drop (Q + q))).root = (num (((b.drop (Q + q)).drop (d + 2)).take 4) : Nat) := rfl
              obtain ⟨H, hH⟩ : ∃ H, H = homOf d (b.drop (Q + q)) := ⟨_, rfl⟩
              rw [← hH] at hpl hin1 hin2 hsn hplH hnxH hrtH
              have HSN := hide hsn
              have HPL := hide hplH
              have HNX := hide hnxH
              have HRT := hide hrtH
              have HIN := hide (And.intro hin1 hin2)
              obtain ⟨WH, hWH⟩ : ∃ WH, WH = wo.alloc (.cells #[.slice none 0 0, .int .i64 0, .int .i64 0] 44) := ⟨_, rfl⟩
              have hbh : Below wo.heap.size wo WH := by rw [hWH]; exact alloc_below _ _
              have hsh : wo.heap.size + 1 ≤ WH.heap.size := by rw [hWH]; simp
              have h0 : WH.cell? ⟨wo.heap.size, 0, none⟩ = some (.slice none 0 0) := by rw [hWH]; exact box_cell (Below.refl _ _) 0 _ rfl
              have h1 : WH.cell? ⟨wo.heap.size, 1, none⟩ = some (.int .i64 0) := by rw [hWH]; exact box_cell (Below.refl _ _) 1 _ rfl
              have h2 : WH.cell? ⟨wo.heap.size, 2, none⟩ = some (.int .i64 0) := by rw [hWH]; exact box_cell (Below.refl _ _) 2 _ rfl
              have h3 : ∀ k, WH.frozen? ⟨wo.heap.size, k, none⟩ = false := fun k => by rw [hWH]; exact box_free (Below.refl _ _) k
              have H0 := hide h0
              have H1 := hide (And.intro h1 h2)
              have H3 := hide h3
              have HRB := hide hrB
              have HHE := hide hH
              have hKz : (k : Int) < (z : Int) := by omega
              clear h0 h1 h2 h3 hpl hin1 hin2 hsn hplH hnxH hrtH hmd hrB hH
              go_wp2_with fail
              rw [← hWH]
              clear hWH p0 p1 p2 p3 p4
              go_loopw [12] (fun i wr => ∃ j : Nat, ∃ U cu, j ≤ d + 1 ∧ i = .int .i64 j ∧ Ow intR 1 wr (wo.heap.size + 1) (wo.heap.size + 1) 3 (.slice U j cu) j (((b.drop (Q + q)).take j).map fun x => (x.toNat : Int)) ∧ wr.cell? ⟨wo.heap.size, 0, none⟩ = some (.slice U j cu) ∧ Hid (wr.cell? ⟨wo.heap.size, 1, none⟩ = some (.int .i64 0) ∧ wr.cell? ⟨wo.heap.size, 2, none⟩ = some (.int .i64 0)) ∧ Hid (∀ k, wr.frozen? ⟨wo.heap.size, k, none⟩ = false) ∧ Below wo.heap.size wo wr ∧ wo.heap.size + 1 ≤ wr.heap.size) (fun i _ => d + 1 - (RowKit.intOf i).toNat)
              case atStart => exact ⟨0, none, 0, Nat.zero_le _, rfl, Ow.nil_ _ _ _ _, H0.out, H1, H3, hbh, hsh⟩
              case round =>
                obtain ⟨j, U, cu, hj, rfl, hu, ct, c1, ft, hbr2, hszr⟩ := hrel
                obtain ⟨_, p0, p1, p2, p3, p4⟩ := hg0.on (hbr.trans (hbr2.mono hbr.size))
                have hrw := (HRB.out.on byteR_fine hbr).on byteR_fine hbr2
                by_cases hlt2 : j < d + 1
                · have hle : (j : Int) ≤ (d : Int) := by omega
                  obtain ⟨rd', x, erd, _, hxj, hxc⟩ := at_byte hrw (show j < m' by omega)
                  injection erd with erd
                  subst erd
                  have hjm : (j : Int) < (m' : Int) := by omega
                  have hj0 : (0 : Int) ≤ (j : Int) := by omega
                  have wx : IntKind.i64.wrap (x.toNat : Int) = (x.toNat : Int) := IntWalk.i64_in _ (by have := x.toNat_lt; omega)
                  have hE := (alloc_below wr (.cells #[.int .i64 (x.toNat : Int)] 3)).drew
                  have huE := hu.below intR_fine hE
                  have ctE : (wr.alloc (.cells #[.int .i64 (x.toNat : Int)] 3)).drew.cell? ⟨wo.heap.size, 0, none⟩ = some (.slice U j cu) := (hE.cell (by exact hszr)).trans ct
                  have hlit : Is (wr.alloc (.cells #[.int .i64 (x.toNat : Int)] 3)) (some ⟨wr.heap.size, 0, none⟩) 1 1 [(x.toNat : Int)] := lit_ints_at (n := 1) (l := [(x.toNat : Int)]) rfl rfl (by omega) (fun z hz => by simp at hz; subst hz; exact ⟨by omega, by have := x.toNat_lt; omega⟩) rfl
                  have hlitd := Sl.drew intR_fine hlit
                  have hsE : wo.heap.size + 1 ≤ (wr.alloc (.cells #[.int .i64 (x.toNat : Int)] 3)).drew.heap.size := Nat.le_trans hszr hE.size
                  have HC1 := hide (And.intro ((hE.cell (p := ⟨wo.heap.size, 1, none⟩) (by exact hszr)).trans c1.out.1) ((hE.cell (p := ⟨wo.heap.size, 2, none⟩) (by exact hszr)).trans c1.out.2))
                  have HFT : Hid (∀ k, (wr.alloc (.cells #[.int .i64 (x.toNat : Int)] 3)).drew.frozen? ⟨wo.heap.size, k, none⟩ = false) := hide fun k => (hE.frozen (p := ⟨wo.heap.size, k, none⟩) (by exact hszr)).trans (ft.out k)
                  have HPT := hide (pl_take hxj)
                  clear c1 hxj hlit hrw
                  go_upto_region 16 with fail
                  go_region_law (first
                    | (refine step_append_ow _ (by rfl) _ _ _ (by rfl) intR_fine (wo.heap.size + 1) (wo.heap.size + 1) 3 i0 _ 8 Tryd.underlying42 hi0 ii0 ii1 ii2 rfl (by omega) (.slice U j cu) j _ (by rfl) huE _ _ 1 1 _ (by rfl) hlitd (fun _ _ _ h => h) (by simp only [maxLen]; omega) (by omega) hsE ?_; intro V6 w6 ho6 hg6 hat6; obtain ⟨A6, c6, rfl⟩ := ho6.form; have hb6 := below_grown (base := wo.heap.size + 1) hg6 huE.lt hsE; have ct6 : w6.cell? ⟨wo.heap.size, 0, none⟩ = some (.slice U j cu) := (hb6.cell (by simp)).trans ctE; have ft6 : w6.frozen? ⟨wo.heap.size, 0, none⟩ = false := (hb6.frozen (by simp)).trans (HFT.out 0)))
                  all_goals
                    go_wp2_with fail
                    rw [← HPT.out] at ho6
                    go_roundw
                    case rel => exact ⟨j + 1, A6, c6, by omega, by go_num, intPut ho6 _ _ (by simp), put_same ct6, hide ⟨put_off' (by omega) ((hb6.cell (by simp)).trans HC1.out.1), put_off' (by omega) ((hb6.cell (by simp)).trans HC1.out.2)⟩, hide (fun k => (put_free _ _ _ _).trans ((hb6.frozen (by simp)).trans (HFT.out k))), ((hbr2.trans (hE.mono hbr2.size)).trans (hb6.mono (by omega))).setCell (by simp) _, by rw [set_size]; exact Nat.le_trans hsE hg6.size⟩
                    case measure => (first | omega | (simp [RowKit.intOf]; omega) | (unfold RowKit.intOf; simp; omega) | go_num)
                · obtain rfl : j = d + 1 := by omega
                  have hle : ¬ ((d + 1 : Nat) : Int) ≤ (d : Int) := by omega
                  have hle2 : ¬ ((d : Int) + 1 ≤ (d : Int)) := by omega
                  obtain ⟨D1, hD1⟩ : ∃ D1 : Nat, D1 = d + 1 := ⟨_, rfl⟩
                  obtain ⟨D2, hD2⟩ : ∃ D2 : Nat, D2 = d + 2 := ⟨_, rfl⟩
                  have hw1 : IntKind.i64.wrap ((d : Int) + 1) = (D1 : Int) := (IntWalk.i64_in _ (by omega)).trans (by omega)
                  have hw2 : IntKind.i64.wrap ((d : Int) + 2) = (D2 : Int) := (IntWalk.i64_in _ (by omega)).trans (by omega)
                  have hrwo := HRB.out.on byteR_fine hbr
                  obtain ⟨rd', x, erd, hrdo, hxj, hxc⟩ := at_byte hrwo (show D1 < m' by have := HD6.out; omega)
                  injection erd with erd
                  subst erd
                  have vx : (x.toNat : Int) = H.next := by rw [HNX.out, ← hD1, num_at hxj]
                  have wx : IntKind.i64.wrap H.next = H.next := IntWalk.i64_in _ ⟨HIN.out.1.1, by have := HIN.out.1.2; omega⟩
                  rw [vx] at hxc
                  have rD2 := rest1 hrwo (i := D2) (by have := HD6.out; omega) (by have := HD6.out; omega)
                  simp only [Option.map_some] at rD2
                  have GD : Hid (∀ W, Below wo.heap.size wo W → Calls Tryd.prog 43 #[.slice (some (rd.add D2)) (m' - D2) (cr - D2), .int .i64 4] W fun e w' => e = .returned (.int .i64 H.root) ∧ W = w') := hide fun W hW => by
                    rw [HRT.out, ← hD2]
                    exact rget_any (rD2.on byteR_fine hW) 4 (by omega) (by have := HD6.out; omega)
                  have HCELL : Hid (∀ W, Below wo.heap.size wo W → W.cell? (rd.add D1) = some (.int .u8 H.next) ∧ W.cell? ⟨w.heap.size, 1, none⟩ = some (.int .i64 (d : Int))) := hide fun W hW =>
                    ⟨below_cell hW hrdo hxc, (hg0.on (hbr.trans (hW.mono hbr.size))).2.2.1⟩
                  have d0 : (0 : Int) ≤ (D1 : Int) := by omega
                  have d1 : (D1 : Int) < (m' : Int) := by have := HD6.out; omega
                  have d2 : (0 : Int) ≤ (D2 : Int) := by omega
                  have d3 : (D2 : Int) ≤ (m' : Int) := by have := HD6.out; omega
                  have d4 : (m' : Int) ≤ (cr : Int) := by omega
                  have d5 : ¬ cr = D2 := by have := HD6.out; omega
                  have hcur := hbr2
                  have HD1 := hide hD1
                  have g1 := ft.out 1
                  have g2 := ft.out 2
                  have c1' := c1.out.1
                  have c2' := c1.out.2
                  have HBR2 := hide hbr2
                  clear hD1 hD2 vx hxj rD2 hrw hxc hrwo
                  go_upto_region 17 with fail
                  go_region_held3 (fun W => W.cell? (rd.add D1) = some (.int .u8 H.next) ∧ W.cell? ⟨w.heap.size, 1, none⟩ = some (.int .i64 (d : Int))) (first | with_reducible exact HCELL.out _ hcur | with_reducible exact HCELL.out _ hcur.drew | with_reducible exact HCELL.out _ (hcur.setCell (Nat.le_refl _) _) | with_reducible exact HCELL.out _ (hcur.setCell (Nat.le_refl _) _).drew | with_reducible exact HCELL.out _ ((hcur.setCell (Nat.le_refl _) _).setCell (Nat.le_refl _) _) | with_reducible exact HCELL.out _ ((hcur.setCell (Nat.le_refl _) _).setCell (Nat.le_refl _) _).drew) ((go_at_call 43; (with_reducible refine (GD.out _ (by first | with_reducible exact hcur | with_reducible exact hcur.drew | with_reducible exact hcur.setCell (Nat.le_refl _) _ | with_reducible exact (hcur.setCell (Nat.le_refl _) _).drew)).mono ?_); rintro e w7 ⟨rfl, rfl⟩))
                  all_goals
                    obtain ⟨W9, hW9⟩ : ∃ W9, W9 = ((wr.setCell ⟨wo.heap.size, 1, none⟩ (.int .i64 H.next)).setCell ⟨wo.heap.size, 2, none⟩ (.int .i64 H.root)).drew := ⟨_, rfl⟩
                    rw [← hW9]
                    have hb9 : Below wo.heap.size wo W9 := by rw [hW9]; exact ((HBR2.out.setCell (Nat.le_refl _) _).setCell (Nat.le_refl _) _).drew
                    have hs9 : wr.heap.size ≤ W9.heap.size := by rw [hW9]; show _ ≤ (World.setCell _ _ _).heap.size; rw [set_size, set_size]; exact Nat.le_refl _
                    have t0 : W9.cell? ⟨wo.heap.size, 0, none⟩ = some (.slice U (d + 1) cu) := by rw [hW9]; exact put_off' (by omega) (put_off' (by omega) ct)
                    have t1 : W9.cell? ⟨wo.heap.size, 1, none⟩ = some (.int .i64 H.next) := by rw [hW9]; exact put_off' (by omega) (put_same c1')
                    have t2 : W9.cell? ⟨wo.heap.size, 2, none⟩ = some (.int .i64 H.root) := by rw [hW9]; exact put_same (put_off' (by omega) c2')
                    have hu9 : Ow intR 1 W9 (wo.heap.size + 1) (wo.heap.size + 1) 3 (.slice U (d + 1) cu) (d + 1) H.places := by
                      rw [hW9, HPL.out]
                      exact Ow.drew intR_fine (intPut (intPut hu _ _ (by simp)) _ _ (by simp))
                    have hE := alloc_below W9 (.cells #[.slice U (d + 1) cu, .int .i64 H.next, .int .i64 H.root] 44)
                    have ho9 := ho.below homR_fine hb9
                    have hoE := ho9.below homR_fine hE
                    have hsE : W0.heap.size + 1 ≤ (W9.alloc (.cells #[.slice U (d + 1) cu, .int .i64 H.next, .int .i64 H.root] 44)).heap.size := Nat.le_trans hsz (Nat.le_trans hb9.size hE.size)
                    have hbut : ∀ b, b < (W9.alloc (.cells #[.slice U (d + 1) cu, .int .i64 H.next, .int .i64 H.root] 44)).heap.size → wo.heap.size + 1 ≤ b → But (W9.alloc (.cells #[.slice U (d + 1) cu, .int .i64 H.next, .int .i64 H.root] 44)) (W0.heap.size + 1) (.slice V k cv) b := fun b h1 h2 => ⟨by omega, h1, fun e => by have := (ho.lt b e.symm).2; omega⟩
                    have hlit : Sl homR 3 (W9.alloc (.cells #[.slice U (d + 1) cu, .int .i64 H.next, .int .i64 H.root] 44)) (But (W9.alloc (.cells #[.slice U (d + 1) cu, .int .i64 H.next, .int .i64 H.root] 44)) (W0.heap.size + 1) (.slice V k cv)) (some ⟨W9.heap.size, 0, none⟩) 1 1 [H] :=
                      lit_hom (x := H) (((hu9.below intR_fine hE).new_ intR_fine (Nat.le_refl _) (Nat.le_refl _)).move intR_fine (fun _ _ => rfl) (fun b hb => hbut b hb.2 hb.1)) HIN.out.1 HIN.out.2 (hbut _ (by simp) (by omega))
                    have hsev9 := hsev.out.on hsz hb9
                    have x6 : (W9.alloc (.cells #[.slice U (d + 1) cu, .int .i64 H.next, .int .i64 H.root] 44)).cell? ⟨W0.heap.size, 6, none⟩ = some (.slice V k cv) := (hE.cell (by show W0.heap.size < _; have := hb9.size; omega)).trans hsev9.2.2.2.2.2.2
                    have hfrE : Hid ((W9.alloc (.cells #[.slice U (d + 1) cu, .int .i64 H.next, .int .i64 H.root] 44)).frozen? ⟨W0.heap.size, 6, none⟩ = false) := hide ((hE.frozen (by show W0.heap.size < _; have := hb9.size; omega)).trans ((hb9.frozen (p := ⟨W0.heap.size, 6, none⟩) (by exact hsz)).trans hfr.out))
                    have HSV : Hid (Sev (W9.alloc (.cells #[.slice U (d + 1) cu, .int .i64 H.next, .int .i64 H.root] 44)) W0.heap.size (.int .i64 N0) (.int .i64 N1) (.int .i64 N4) (.int .i64 N2) (.int .i64 N3) (.string (mkS s)) (.slice V k cv)) := hide (hsev9.on (by have := hb9.size; omega) hE)
                    have hb2E := hbr.trans ((th hb9 hE).mono hbr.size)
                    have hv6 := hsev9.2.2.2.2.2.2
                    have HG9 := hide ((hg0.on hb2E).2.2.1)
                    have d6a : (0 : Int) ≤ (D6 : Int) := by omega
                    have d6b : (D6 : Int) ≤ (m' : Int) := by omega
                    have hgN : w.heap.size < W0.heap.size + 1 := by omega
                    have hgN2 : w.heap.size ≠ W0.heap.size := by omega
                    have hbsz := hbr.size
                    clear hbut hsev9 hW9 hu9
                    by_cases hc6 : cr = D6
                    · have hend : ¬ k + 1 < z := fun h => by
                        have h1 : (k + 1 + 1) * D6 ≤ m := by rw [HT.out]; exact Nat.mul_le_mul_right _ h
                        rw [Nat.add_mul, Nat.add_mul, Nat.one_mul, ← hq.out] at h1
                        omega
                      go_wp2_with (at_builtin; refine wpList_append_ow _ rfl (.tmp 98) (.tmp 100) _ rfl homR_fine (W0.heap.size + 1) (W0.heap.size + 1) 44 e0 _ 40 Tryd.underlying24 he0 ee0 ee1 ee2 rfl (by omega) (.slice V k cv) k _ rfl hoE _ _ 1 1 _ rfl hlit (fun _ _ _ h => h) (by simp only [maxLen]; omega) (by omega) hsE ?_; intro V8 w8 ho8 hg8 hat8; obtain ⟨A8, c8, rfl⟩ := ho8.form; have hb8 := below_grown (base := W0.heap.size + 1) hg8 hoE.lt hsE; have ct8 : w8.cell? ⟨W0.heap.size, 6, none⟩ = some (.slice V k cv) := (hb8.cell (by simp)).trans x6; have ft8 : w8.frozen? ⟨W0.heap.size, 6, none⟩ = false := (hb8.frozen (by simp)).trans hfrE.out; have p9 : (w8.setCell ⟨W0.heap.size, 6, none⟩ (.slice A8 (k + 1) c8)).cell? ⟨w.heap.size, 1, none⟩ = some (.int .i64 (d : Int)) := put_cell_other hgN2 ((hb8.cell (p := ⟨w.heap.size, 1, none⟩) hgN).trans HG9.out))
                      go_roundw
                      case rel => exact ⟨k + 1, q + D6, m' - D6, _, _, A8, c8, by omega, by go_num, hide (by rw [Nat.add_mul, Nat.one_mul, ← hq.out]), by omega, rfl, hide (fun h => absurd h hend), by rw [HSN.out]; exact homPut ho8 _ _ (by simp) (by simp), hide ((HSV.out.onB (by omega) hb8).six _), hide ((put_free _ _ _ _).trans ft8), (hb2E.trans (hb8.mono (by omega))).setCell (Nat.le_refl _) _, by rw [set_size]; exact Nat.le_trans hsE hg8.size⟩
                      case measure => (first | omega | (simp [RowKit.intOf]; omega) | (unfold RowKit.intOf; simp; omega) | go_num)
                    · have hnext : Bs W0 (some (rd.add D6)) (m' - D6) (cr - D6) (b.drop (Q + (q + D6))) := by
                        have h1 := rest1 HRB.out (i := D6) hD6m hc6
                        rw [List.drop_drop] at h1
                        rw [← Nat.add_assoc]
                        simpa using h1
                      have HNE := hide hnext
                      clear hnext
                      go_wp2_with (at_builtin; refine wpList_append_ow _ rfl (.tmp 98) (.tmp 100) _ rfl homR_fine (W0.heap.size + 1) (W0.heap.size + 1) 44 e0 _ 40 Tryd.underlying24 he0 ee0 ee1 ee2 rfl (by omega) (.slice V k cv) k _ rfl hoE _ _ 1 1 _ rfl hlit (fun _ _ _ h => h) (by simp only [maxLen]; omega) (by omega) hsE ?_; intro V8 w8 ho8 hg8 hat8; obtain ⟨A8, c8, rfl⟩ := ho8.form; have hb8 := below_grown (base := W0.heap.size + 1) hg8 hoE.lt hsE; have ct8 : w8.cell? ⟨W0.heap.size, 6, none⟩ = some (.slice V k cv) := (hb8.cell (by simp)).trans x6; have ft8 : w8.frozen? ⟨W0.heap.size, 6, none⟩ = false := (hb8.frozen (by simp)).trans hfrE.out; have p9 : (w8.setCell ⟨W0.heap.size, 6, none⟩ (.slice A8 (k + 1) c8)).cell? ⟨w.heap.size, 1, none⟩ = some (.int .i64 (d : Int)) := put_cell_other hgN2 ((hb8.cell (p := ⟨w.heap.size, 1, none⟩) hgN).trans HG9.out))
                      go_roundw
                      case rel => exact ⟨k + 1, q + D6, m' - D6, _, _, A8, c8, by omega, by go_num, hide (by rw [Nat.add_mul, Nat.one_mul, ← hq.out]), by omega, rfl, hide (fun _ => HNE.out), by rw [HSN.out]; exact homPut ho8 _ _ (by simp) (by simp), hide ((HSV.out.onB (by omega) hb8).six _), hide ((put_free _ _ _ _).trans ft8), (hb2E.trans (hb8.mono (by omega))).setCell (Nat.le_refl _) _, by rw [set_size]; exact Nat.le_trans hsE hg8.size⟩
                      case measure => (first | omega | (simp [RowKit.intOf]; omega) | (unfold RowKit.intOf; simp; omega) | go_num)
            · obtain rfl : k = z := by omega
              have hkk : ¬ (k : Int) < (k : Int) := by omega
              have hcnd := HCAND.out s
              rw [← HQ.out] at hcnd
              have hlenX : 18 + s.length + k * (d + 6) = b.length := (HIFF.out.2 (by first | trivial | rfl)).symm
              have hin := cand_in (z := k) (d := d) (b := b) (s := s) (by rw [HLEN.out]; omega) h24
              rw [hcnd] at hin
              have hlt : Light (⟨N0, N1, N4, N2, N3, mkS s, homsOf d k (b.drop Q)⟩ : Anc) := ⟨by show (mkS s).size ≤ 60000; rw [← sL_len, sL_mk]; omega, by show (homsOf d k (b.drop Q)).length ≤ 6000; rw [homsOf_len]; omega, fun h hm => by have := (homsOf_in d k (b.drop Q) (by rw [List.length_drop, ← hlenX, HQ.out]; omega) h hm).1; omega⟩
              have hof : ancOf k d b = some ⟨N0, N1, N4, N2, N3, mkS s, homsOf d k (b.drop Q)⟩ := by rw [ancOf_cand hrl, if_pos hlenX.symm, hcnd]
              have hra := HRA.out ⟨N0, N1, N4, N2, N3, mkS s, homsOf d k (b.drop Q)⟩ V k cv wo (ho.read homR_fine) hin hlt
              obtain ⟨v0, v1, v2, v3, v4, v5, v6⟩ := hsev.out
              by_cases hok : AncOk ⟨(k : Int), (d : Int), gs, gl, ga⟩ ⟨N0, N1, N4, N2, N3, mkS s, homsOf d k (b.drop Q)⟩
              · rw [decide_eq_true hok] at hra
                have HAF := hide (HGOOD.out _ hof hok)
                have HRQ := hide hra
                clear hra hok hof hcnd hlenX hin hlt
                go_wp2_with fail
                with_reducible refine HRQ.out.mono ?_
                rintro e w6 ⟨rfl, hb6⟩
                have hb06 := th hbr hb6
                have ho6 := ho.below homR_fine hb6
                obtain ⟨v0, v1, v2, v3, v4, v5, v6⟩ := hsev.out.on hsz hb6
                obtain ⟨y0, y1, y2, y3, y4, y5, y6⟩ := hz0.onB hNB hb06
                have f0 := HF0.out _ hb06 0
                have f1 := HF0.out _ hb06 1
                have f2 := HF0.out _ hb06 2
                have f3 := HF0.out _ hb06 3
                have f4 := HF0.out _ hb06 4
                have f5 := HF0.out _ hb06 5
                have f6 := HF0.out _ hb06 6
                have hzu := put7_sev (hz0.onB hNB hb06) (.int .i64 N0) (.int .i64 N1) (.int .i64 N4) (.int .i64 N2) (.int .i64 N3) (.string (mkS s)) (.slice V k cv)
                unfold put7 at hzu
                have HZU := hide hzu
                have hsl := put7_new homR_fine (ho6.new_ homR_fine (Nat.le_refl _) (Nat.le_refl _)) (show w.heap.size + 1 < W0.heap.size + 1 by omega) (.int .i64 N0) (.int .i64 N1) (.int .i64 N4) (.int .i64 N2) (.int .i64 N3) (.string (mkS s)) (.slice V k cv)
                have HSL := hide (hsl.new_less homR_fine (show w.heap.size ≤ W0.heap.size + 1 by omega))
                clear hzu hsl
                go_wp2_with fail
                obtain ⟨u0, u1, u2, u3, u4, u5, u6⟩ := HZU.out
                exact bodyPost_ret (v := .tuple #[.agg #[.int .i64 N0, .int .i64 N1, .int .i64 N4, .int .i64 N2, .int .i64 N3, .string (mkS s), .slice V k cv], .bool true]) (by simp [results, Tryd.results39, go_sem, u0, u1, u2, u3, u4, u5, u6]) rfl ⟨put7_below (th hb0 hb06) (by omega) _ _ _ _ _ _ _, ⟨N0, N1, N4, N2, N3, mkS s, homsOf d k (b.drop Q)⟩, V, k, cv, true, rfl, HSL.out, HAF.out⟩
              · rw [decide_eq_false hok] at hra
                have HAF := hide (HBAD.out fun a' h => by
                  rw [hof] at h
                  injection h with h
                  subst h
                  exact hok)
                have HRQ := hide hra
                clear hra hok hof hcnd hlenX hin hlt
                go_wp2_with fail
                with_reducible refine HRQ.out.mono ?_
                rintro e w6 ⟨rfl, hb6⟩
                have hb06 := th hbr hb6
                obtain ⟨y0, y1, y2, y3, y4, y5, y6⟩ := hz0.onB hNB hb06
                have f0 := HF0.out _ hb06 0
                have f1 := HF0.out _ hb06 1
                have f2 := HF0.out _ hb06 2
                have f3 := HF0.out _ hb06 3
                have f4 := HF0.out _ hb06 4
                have f5 := HF0.out _ hb06 5
                have f6 := HF0.out _ hb06 6
                have hzu := put7_sev (hz0.onB hNB hb06) (.int .i64 0) (.int .i64 0) (.int .i64 0) (.int .i64 0) (.int .i64 0) (.string ⟨#[]⟩) (.slice none 0 0)
                unfold put7 at hzu
                have HZU := hide hzu
                clear hzu
                go_wp2_with fail
                obtain ⟨u0, u1, u2, u3, u4, u5, u6⟩ := HZU.out
                exact bodyPost_ret (v := .tuple #[.agg #[.int .i64 0, .int .i64 0, .int .i64 0, .int .i64 0, .int .i64 0, .string ⟨#[]⟩, .slice none 0 0], .bool false]) (by simp [results, Tryd.results39, go_sem, u0, u1, u2, u3, u4, u5, u6]) rfl ⟨put7_below (th hb0 hb06) (by omega) _ _ _ _ _ _ _, noAnc, none, 0, 0, false, rfl, Sl.nil_ _, HAF.out⟩
        · have t0 : ((m : Int) != (T : Int)) = true := by simp; omega
          have t1 : ¬ (m : Int) = (T : Int) := by omega
          have t2 : ¬ m = T := hl
          have HAF := hide (HBAD.out fun a' h => by
            rw [ancOf_cand hrl, if_neg (fun e => hl (HIFF.out.1 e))] at h
            cases h)
          clear hl
          obtain ⟨y0, y1, y2, y3, y4, y5, y6⟩ := hz0.onB hNB hb04
          have f0 := HF0.out _ hb04 0
          have f1 := HF0.out _ hb04 1
          have f2 := HF0.out _ hb04 2
          have f3 := HF0.out _ hb04 3
          have f4 := HF0.out _ hb04 4
          have f5 := HF0.out _ hb04 5
          have f6 := HF0.out _ hb04 6
          have hzu := put7_sev (hz0.onB hNB hb04) (.int .i64 0) (.int .i64 0) (.int .i64 0) (.int .i64 0) (.int .i64 0) (.string ⟨#[]⟩) (.slice none 0 0)
          unfold put7 at hzu
          have HZU := hide hzu
          clear hzu
          go_wp2_with fail
          obtain ⟨u0, u1, u2, u3, u4, u5, u6⟩ := HZU.out
          exact bodyPost_ret (v := .tuple #[.agg #[.int .i64 0, .int .i64 0, .int .i64 0, .int .i64 0, .int .i64 0, .string ⟨#[]⟩, .slice none 0 0], .bool false]) (by simp [results, Tryd.results39, go_sem, u0, u1, u2, u3, u4, u5, u6]) rfl ⟨put7_below (th hb0 hb04) (by omega) _ _ _ _ _ _ _, noAnc, none, 0, 0, false, rfl, Sl.nil_ _, HAF.out⟩
    · have HAF := hide (HBAD.out fun a' h => by
        rw [ancOf_none hrl] at h
        cases h)
      obtain ⟨y0, y1, y2, y3, y4, y5, y6⟩ := hz0.onB hNB hb04
      have f0 := HF0.out _ hb04 0
      have f1 := HF0.out _ hb04 1
      have f2 := HF0.out _ hb04 2
      have f3 := HF0.out _ hb04 3
      have f4 := HF0.out _ hb04 4
      have f5 := HF0.out _ hb04 5
      have f6 := HF0.out _ hb04 6
      have hzu := put7_sev (hz0.onB hNB hb04) (.int .i64 0) (.int .i64 0) (.int .i64 0) (.int .i64 0) (.int .i64 0) (.string ⟨#[]⟩) (.slice none 0 0)
      unfold put7 at hzu
      have HZU := hide hzu
      clear hzu
      go_wp2_with fail
      obtain ⟨u0, u1, u2, u3, u4, u5, u6⟩ := HZU.out
      exact bodyPost_ret (v := .tuple #[.agg #[.int .i64 0, .int .i64 0, .int .i64 0, .int .i64 0, .int .i64 0, .string ⟨#[]⟩, .slice none 0 0], .bool false]) (by simp [results, Tryd.results39, go_sem, u0, u1, u2, u3, u4, u5, u6]) rfl ⟨put7_below (th hb0 hb04) (by omega) _ _ _ _ _ _ _, noAnc, none, 0, 0, false, rfl, Sl.nil_ _, HAF.out⟩

theorem ranch_any (g : Geo) (hG : GeoOk g) (A : Option Addr) (n c : Nat) (b : List UInt8) (w : World) (hb : Bs w A n c b) (hn : n ≤ 60000) :
    Calls Tryd.prog 39 #[g.v, .slice A n c] w (RAncPost w g b) :=
  (ranch_new g hG A n c b w hb hn).mono fun e w' ⟨hb, a, V, m, d, r, he, hs, hi⟩ => ⟨hb, a, V, m, d, r, he, hs.old_ homR_fine, hi⟩

end Go.Proofs.YtamgpbkakmffiaaDoor
