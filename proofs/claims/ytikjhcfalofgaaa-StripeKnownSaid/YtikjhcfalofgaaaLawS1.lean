/-
  The walks of casematelaw14.wakes.
-/
import Derived.Test.YtikjhcfalofgaaaStrV
import Derived.Test.YtikjhcfalofgaaaStrI
import Derived.Test.YtikjhcfalofgaaaZFull
namespace Go.Proofs.Ytikjhcfalofgaaa
open Go.RowKit Go.Lib
set_option linter.unusedVariables false
set_option maxRecDepth 100000

def b14 : List UInt8 := [1, 2, 3, 4, 5, 6, 7, 8]
def L14 : List Ent := fullT 0 (fullB 2 [] [])
def H14 : List (List UInt8) := fullH (fullB 2 [] [])
theorem bs14_len : (fullB 2 [] []).length = 2 := fullB_len _ _ _
theorem t14_ok : TabOk 2 L14 := tab_full ⟨by omega, by omega⟩ bs14_len
theorem h14_ok : HadOk 2 H14 := had_full (fullB_8 _ _ _) bs14_len (by unfold H14; rw [fullH_len, bs14_len]) fun j h hj => .inr hj
theorem k14 (i : Nat) (hi : i < 2) : knownL L14 H14 i = zero8 := by
  have e0 := fullT_at (s := 0) (fullB_at (d := 2) (i := i) [] [] hi)
  have a0 := fullH_at (fullB_at (d := 2) (i := i) [] [] hi)
  have h := (known_full (H := H14) (fullB_8 _ _ _) (by unfold H14; rw [fullH_len]) (fun j h hj => .inr hj) e0 a0).2 (by rfl)
  exact h.2.1 a0
theorem a14_ok : AtsOk 2 [1] := ⟨by simp, fun k hk => by
  obtain rfl : k = 0 := by simpa using hk
  exact ⟨⟨by decide, by decide⟩, .inl rfl⟩⟩
theorem n14_0 : nowB L14 H14 [1] [b14] 0 = zero8 := by
  rw [(now_out (s := 4) (blkOf_none _ (by simp))).1, k14 0 (by omega)]
theorem n14_1 : nowB L14 H14 [1] [b14] 1 = b14 := (now_in (s := 4) rfl).1
theorem par14 : parN L14 H14 [1] [b14] 2 = b14 := by
  unfold parN stayL
  rw [show List.range 2 = [0, 1] from rfl, List.map_cons, List.map_cons, List.map_nil, n14_0, n14_1]
  decide +kernel
theorem w14_0 : (wrT L14 H14 [1] [b14] 4 2)[0]? = some ⟨0, crc zero8, false⟩ := by
  rw [wrT_at (by omega), (now_out (s := 4) (blkOf_none _ (by simp))).2, k14 0 (by omega), if_neg (by decide)]
  unfold entN L14
  rw [fullT_at (s := 0) (fullB_at (d := 2) (i := 0) [] [] (by omega))]
  rfl
theorem w14_1 : (wrT L14 H14 [1] [b14] 4 2)[1]? = some ⟨4, crc b14, false⟩ := by
  rw [wrT_at (by omega), (now_in (s := 4) rfl).2]
theorem at_sec {w : World} {S : Nat → Prop} {A : Option Addr} {n c : Nat} {L : List Sec} (h : Sl secR 3 w S A n c L) {k : Nat} (hk : k < n) : ∃ ad x A' n' c', A = some ad ∧ S ad.block ∧ L[k]? = some x ∧ InI x.addr ∧ InI x.stamp ∧ Sl byteR 1 w S A' n' c' x.load ∧
    w.cell? (ad.add (k * 3)) = some (.int .i64 x.addr) ∧ w.cell? ⟨(ad.add (k * 3)).block, (ad.add (k * 3)).off + 1, none⟩ = some (.int .i64 x.stamp) ∧ w.cell? ⟨(ad.add (k * 3)).block, (ad.add (k * 3)).off + 2, none⟩ = some (.slice A' n' c') := by
  obtain ⟨ad, x, cs, rfl, hS, hx, ⟨A', n', c', rfl, h1, h2, hs⟩, hat⟩ := h.at_ hk
  refine ⟨ad, x, A', n', c', rfl, hS, hx, h1, h2, hs, ?_, hat 1 _ rfl, hat 2 _ rfl⟩
  have := hat 0 _ rfl
  rwa [add_zero'] at this

set_option maxHeartbeats 4000000 in
theorem wakes14 (w : World) : Calls Try.prog 17 #[] w fun e w' => e = .returned (.bool true) ∧ Below w.heap.size w w' := by
  have hsome := some_any 0 1 0 0 0 ⟨by omega, by omega⟩ ⟨by omega, by omega⟩ ⟨by omega, by omega⟩ ⟨by omega, by omega⟩ ⟨by omega, by omega⟩ w
  rw [show someG 0 1 0 0 0 = ⟨1, 2, 0, 14, 1⟩ from by kernel_rfl] at hsome
  have hfull := fun W => full_any ⟨1, 2, 0, 14, 1⟩ 2 rfl (by omega) (C := none) (D := none) (nb := 0) (cb := 0) (nl := 0) (cl := 0) (B := []) (F := []) 0 ⟨by omega, by omega⟩ (w := W) (Sl.nil_ _) (Sl.nil_ _)
  unfold FullPost at hfull
  rw [show fullT 0 (fullB 2 [] []) = L14 from rfl, show fullH (fullB 2 [] []) = H14 from rfl] at hfull
  have hwr := fun (A B C E : Option Addr) (c cb cq cp : Nat) (W : World) ha hh hc hb => write_ok (g := ⟨1, 2, 0, 14, 1⟩) (d := 2) g13_ok rfl (A := A) (B := B) (C := C) (E := E) (n := 3) (c := c) (m := 3) (cb := cb) (q := 1) (cq := cq) (p := 1) (cp := cp) (L := L14) (H := H14) (ats := [1]) (bl := [b14]) 4 (w := W) ha hh hc hb t14_ok h14_ok a14_ok rfl (fun x hx => by simp at hx; subst hx; rfl) ⟨by omega, by omega⟩
  have him := fun (A C E P : Option Addr) (c cq cp cP : Nat) (W : World) ha hP hc hb => images_ok (g := ⟨1, 2, 0, 14, 1⟩) (d := 2) g13_ok rfl (A := A) (C := C) (E := E) (P := P) (n := 3) (c := c) (q := 1) (cq := cq) (p := 1) (cp := cp) (cP := cP) (L := wrT L14 H14 [1] [b14] 4 2) (ats := [1]) (bl := [b14]) (par := b14) 0 ⟨by omega, by omega⟩ (w := W) ha hP hc hb (wrT_ok ⟨by omega, by omega⟩ t14_ok) ⟨by decide, by decide⟩ a14_ok rfl (fun x hx => by simp at hx; subst hx; rfl)
  rw [par14] at hwr
  have h0 := w14_0
  have h1 := w14_1
  obtain ⟨T14, hT14⟩ : ∃ T, T = wrT L14 H14 [1] [b14] 4 2 := ⟨_, rfl⟩
  rw [← hT14] at hwr him h0 h1
  unfold Geo.v at hsome hfull hwr him
  dsimp only at hsome hfull hwr him
  have HFU := hide hfull
  have HWR := hide hwr
  have HIM := hide him
  have H0 := hide h0
  have H1 := hide h1
  clear hfull hwr him h0 h1 hT14
  go_enter Try.func17, Try.ntmps17
  go_wp2_with fail
  refine hsome.mono ?_
  rintro e w1 ⟨rfl, hb1⟩
  clear hsome
  have hE2 := alloc_below w1 (.cells #[.int .i64 1, .int .i64 2, .int .i64 0, .int .i64 14, .int .i64 1] 23)
  have HG : Hid (∀ W, Below (w1.alloc (.cells #[.int .i64 1, .int .i64 2, .int .i64 0, .int .i64 14, .int .i64 1] 23)).heap.size (w1.alloc (.cells #[.int .i64 1, .int .i64 2, .int .i64 0, .int .i64 14, .int .i64 1] 23)) W → W.cell? ⟨w1.heap.size, 0, none⟩ = some (.int .i64 1) ∧ W.cell? ⟨w1.heap.size, 1, none⟩ = some (.int .i64 2) ∧ W.cell? ⟨w1.heap.size, 2, none⟩ = some (.int .i64 0) ∧ W.cell? ⟨w1.heap.size, 3, none⟩ = some (.int .i64 14) ∧ W.cell? ⟨w1.heap.size, 4, none⟩ = some (.int .i64 1)) := hide fun W h => ⟨box_cell h 0 _ rfl, box_cell h 1 _ rfl, box_cell h 2 _ rfl, box_cell h 3 _ rfl, box_cell h 4 _ rfl⟩
  go_wp2_with fail
  refine (HFU.out _).mono ?_
  rintro e w3 ⟨hb3, A, c, C, c', rfl, ht, ho⟩
  obtain ⟨W7, hW7⟩ : ∃ W7, W7 = (((w3.alloc (.cells #[.slice A 3 c] 26)).alloc (.cells #[.int .u8 1, .int .u8 2, .int .u8 3, .int .u8 4, .int .u8 5, .int .u8 6, .int .u8 7, .int .u8 8] 5)).alloc (.cells #[.int .i64 1] 3)).alloc (.cells #[.slice (some ⟨w3.heap.size + 1, 0, none⟩) 8 8] 29) := ⟨_, rfl⟩
  have hE7 : Below w3.heap.size w3 W7 := by rw [hW7]; exact (((alloc_below _ _).alloc (by simp) _).alloc (by simp; omega) _).alloc (by simp; omega) _
  have hb02 := th hb1 (th hE2 hb3)
  have hb07 := th hb02 hE7
  have hp := HG.out _ (th hb3 hE7)
  have hbl : Bs ((w3.alloc (.cells #[.slice A 3 c] 26)).alloc (.cells #[.int .u8 1, .int .u8 2, .int .u8 3, .int .u8 4, .int .u8 5, .int .u8 6, .int .u8 7, .int .u8 8] 5)) (some ⟨w3.heap.size + 1, 0, none⟩) 8 8 b14 := lit_bytes_at (by simp) rfl (by omega) rfl
  have hbl7 : Bs W7 (some ⟨w3.heap.size + 1, 0, none⟩) 8 8 b14 := by rw [hW7]; exact hbl.on byteR_fine (th (alloc_below _ _) (alloc_below _ _))
  have hE5 : Below w3.heap.size w3 ((w3.alloc (.cells #[.slice A 3 c] 26)).alloc (.cells #[.int .u8 1, .int .u8 2, .int .u8 3, .int .u8 4, .int .u8 5, .int .u8 6, .int .u8 7, .int .u8 8] 5)) := (alloc_below _ _).alloc (by simp) _
  obtain ⟨p0, p1, p2, p3, p4⟩ := HG.out _ (th hb3 hE5)
  have hc7 : Is W7 (some ⟨w3.heap.size + 1 + 1, 0, none⟩) 1 1 [1] := by
    rw [hW7]
    have h1 : Is (((w3.alloc (.cells #[.slice A 3 c] 26)).alloc (.cells #[.int .u8 1, .int .u8 2, .int .u8 3, .int .u8 4, .int .u8 5, .int .u8 6, .int .u8 7, .int .u8 8] 5)).alloc (.cells #[.int .i64 1] 3)) (some ⟨w3.heap.size + 1 + 1, 0, none⟩) 1 1 [1] := by
      have h2 := lit_plain (R := intR) (w := (w3.alloc (.cells #[.slice A 3 c] 26)).alloc (.cells #[.int .u8 1, .int .u8 2, .int .u8 3, .int .u8 4, .int .u8 5, .int .u8 6, .int .u8 7, .int .u8 8] 5)) (S := Old (((w3.alloc (.cells #[.slice A 3 c] 26)).alloc (.cells #[.int .u8 1, .int .u8 2, .int .u8 3, .int .u8 4, .int .u8 5, .int .u8 6, .int .u8 7, .int .u8 8] 5)).alloc (.cells #[.int .i64 1] 3))) (u := .int .i64 1) (x := 1) (e := 3) ⟨rfl, by unfold InI; omega⟩ (by show _ < _; simp)
      simpa using h2
    exact h1.on intR_fine (alloc_below _ _)
  have hr7 : Rs W7 (some ⟨w3.heap.size + 1 + 1 + 1, 0, none⟩) 1 1 [b14] := by
    rw [hW7]
    have h1 := lit_one 29 (hbl.on byteR_fine (alloc_below _ (.cells #[.int .i64 1] 3)))
    simpa using h1
  have ht7 := (ht.move (S' := Old w3) entR_fine (fun _ _ => rfl) (fun b hb => hb.2.1)).on entR_fine hE7
  have ho7 := (ho.read bytesR_fine).on bytesR_fine hE7
  have HP7 := hide hp
  clear hp ht ho hbl hE5
  go_wp2_with fail
  rw [← hW7]
  clear p0 p1 p2 p3 p4 hW7
  refine (HWR.out _ _ _ _ _ _ _ _ _ ht7 ho7 hc7 hr7).mono ?_
  rintro e w8 ⟨V, cv, P, cP, rfl, hs8, hp8, hb8⟩
  have hs8' : Sl entR 3 w8 (New W7.heap.size w8) V 3 cv T14 := hs8
  have hb58 : Bs W7 (some ⟨w3.heap.size + 1, 0, none⟩) 8 8 b14 := hbl7
  have hE9 := alloc_below w8 (.cells #[.slice V 3 cv] 26)
  have hE10 := alloc_below (w8.alloc (.cells #[.slice V 3 cv] 26)) (.cells #[.int .i64 1] 3)
  obtain ⟨W11, hW11⟩ : ∃ W11, W11 = ((w8.alloc (.cells #[.slice V 3 cv] 26)).alloc (.cells #[.int .i64 1] 3)).alloc (.cells #[.slice (some ⟨w3.heap.size + 1, 0, none⟩) 8 8] 29) := ⟨_, rfl⟩
  have hE11 : Below w8.heap.size w8 W11 := by rw [hW11]; exact ((alloc_below _ _).alloc (by simp) _).alloc (by simp; omega) _
  have hq : ∀ W, Below W11.heap.size W11 W → W.cell? ⟨w8.heap.size, 0, none⟩ = some (.slice V 3 cv) := fun W hW => by
    have h1 : Below (w8.alloc (.cells #[.slice V 3 cv] 26)).heap.size (w8.alloc (.cells #[.slice V 3 cv] 26)) W11 := by rw [hW11]; exact th hE10 (alloc_below _ _)
    exact box_cell (th h1 hW) 0 _ rfl
  have HQ := hide hq
  have hcB : Is W11 (some ⟨w8.heap.size + 1, 0, none⟩) 1 1 [1] := by
    rw [hW11]
    have h2 := lit_plain (R := intR) (w := w8.alloc (.cells #[.slice V 3 cv] 26)) (S := Old ((w8.alloc (.cells #[.slice V 3 cv] 26)).alloc (.cells #[.int .i64 1] 3))) (u := .int .i64 1) (x := 1) (e := 3) ⟨rfl, by unfold InI; omega⟩ (by show _ < _; simp)
    have h3 : Is ((w8.alloc (.cells #[.slice V 3 cv] 26)).alloc (.cells #[.int .i64 1] 3)) (some ⟨w8.heap.size + 1, 0, none⟩) 1 1 [1] := by simpa using h2
    exact h3.on intR_fine (alloc_below _ _)
  have hrB : Rs W11 (some ⟨w8.heap.size + 1 + 1, 0, none⟩) 1 1 [b14] := by
    rw [hW11]
    have h1 := lit_one 29 (hbl7.on byteR_fine (th hb8 (th hE9 hE10)))
    simpa using h1
  have htB := (hs8'.old_ entR_fine).on entR_fine hE11
  have hpB := (hp8.old_ byteR_fine).on byteR_fine hE11
  have hblB := hbl7.on byteR_fine (th hb8 hE11)
  obtain ⟨p0, p1, p2, p3, p4⟩ := HG.out _ (th hb3 (th hE7 (th hb8 hE9)))
  have hb0B := th hb07 (th hb8 hE11)
  clear hs8 hp8 hq hE10
  go_wp2_with fail
  rw [← hW11]
  clear p0 p1 p2 p3 p4 hW11
  refine (HIM.out _ _ _ _ _ _ _ _ _ htB hpB hcB hrB).mono ?_
  rintro e wC ⟨X, cx, rfl, hsC, hbC⟩
  have hbB := bytes_same b14 (hpB.on byteR_fine hbC) (hblB.on byteR_fine hbC) (by omega)
  have HBB := hide hbB
  clear hbB
  go_wp2_with fail
  refine HBB.out.mono ?_
  rintro e wD ⟨rfl, hbD⟩
  have u0 := HQ.out _ (th hbC hbD)
  obtain ⟨ad, x1, rfl, _, hx1, _, _, c0, _, _⟩ := at_ent (htB.on entR_fine (th hbC hbD)) (show 1 < 3 by omega)
  obtain ⟨ad', x0, had, _, hx0, _, _, d0, _, _⟩ := at_ent (htB.on entR_fine (th hbC hbD)) (show 0 < 3 by omega)
  injection had with had
  subst had
  rw [H1.out] at hx1
  rw [H0.out] at hx0
  injection hx1 with hx1
  injection hx0 with hx0
  subst hx1
  subst hx0
  obtain ⟨xd, y, A', n', c'', rfl, _, hy, _, _, _, _, e1, _⟩ := at_sec (hsC.on secR_fine hbD) (show 2 < 3 by omega)
  have hy2 : y.stamp = 255 := by
    have h : (imgL 0 T14 b14 [1] [b14])[2]? = some ⟨0, 255, tabL T14⟩ := rfl
    rw [h] at hy
    injection hy with hy
    rw [← hy]
  rw [hy2] at e1
  rw [Nat.zero_mul, add_zero'] at d0
  have c0' : wD.cell? ⟨ad.block, ad.off + 3, none⟩ = some (.int .i64 4) := c0
  have e1' : wD.cell? ⟨xd.block, xd.off + 6 + 1, none⟩ = some (.int .i64 255) := e1
  clear hy hy2 c0 e1
  go_wp2_with fail
  go_ret
  exact ⟨rfl, th hb0B (th hbC hbD)⟩

end Go.Proofs.Ytikjhcfalofgaaa
