/-
  An array of three numbers, as it reads; a list of them.
  Plain: the places of a zone's blocks, asked one behind the other; how many spares each zone has had.
  Plain: what stands at the head of a round: the geometry's box, the anchor's, the list of what each zone has had.
-/
import Derived.Test.YtjlppkbmapmbiaaDoorOpen
import Derived.Laws.IdiomArrays
import Derived.OpenShut
import Derived.Test.YtjlppkbmapmbiaaDoorPl4
import Derived.Test.YtjlppkbmapmbiaaDoorAncL1
import Derived.Test.YtjlppkbmapmbiaaDoorPlL1
namespace Go.Proofs.YtjlppkbmapmbiaaDoor
open Go.RowKit Go.ChangeShapes
set_option linter.unusedVariables false

structure Tri where
  x : Int
  y : Int
  z : Int
def triR : Rp Tri := fun _ _ cs t => cs = [.int .i64 t.x, .int .i64 t.y, .int .i64 t.z] ∧ InI t.x ∧ InI t.y ∧ InI t.z
theorem triR_fine : Fine triR 3 where
  size := by rintro _ _ _ _ ⟨rfl, _⟩; rfl
  one := by rintro _ _ _ _ ⟨rfl, _⟩ u hu; simp at hu; rcases hu with rfl | rfl | rfl <;> rfl
  move := by rintro _ _ _ _ _ _ h _ _; exact h
theorem opens_tri {P : Program} {t e : TypeId} (ht : P.underlying t = some (.array 3 e)) (hc : P.cellsOf t = 3) (he : P.cellsOf e = 1) (oi : Opens P e intR) : Opens P t triR := by
  intro H enc w base spare held fuel cs x h
  obtain ⟨xs, m, _, _, hl, _, _⟩ := DataW.trod_array ht h
  rw [hc] at hl
  match cs, hl with
  | [c0, c1, c2], _ =>
    obtain ⟨y0, y1, y2, k, _, h0, h1, h2⟩ := trod_array3 ht he h
    obtain ⟨a0, e0, i0⟩ := oi enc w base spare held k _ _ h0
    obtain ⟨a1, e1, i1⟩ := oi enc w base spare held k _ _ h1
    obtain ⟨a2, e2, i2⟩ := oi enc w base spare held k _ _ h2
    simp at e0 e1 e2
    subst e0; subst e1; subst e2
    exact ⟨⟨a0, a1, a2⟩, rfl, i0, i1, i2⟩
theorem at_tri {w : World} {S : Nat → Prop} {A : Option Addr} {n c : Nat} {L : List Tri} (h : Sl triR 3 w S A n c L) {k : Nat} (hk : k < n) : ∃ ad t, A = some ad ∧ S ad.block ∧ L[k]? = some t ∧ InI t.x ∧ InI t.y ∧ InI t.z ∧
    w.cell? (ad.add (k * 3)) = some (.int .i64 t.x) ∧ w.cell? ⟨(ad.add (k * 3)).block, (ad.add (k * 3)).off + 1, none⟩ = some (.int .i64 t.y) ∧ w.cell? ⟨(ad.add (k * 3)).block, (ad.add (k * 3)).off + 2, none⟩ = some (.int .i64 t.z) := by
  obtain ⟨ad, t, cs, rfl, hS, ht, ⟨rfl, i0, i1, i2⟩, hat⟩ := h.at_ hk
  refine ⟨ad, t, rfl, hS, ht, i0, i1, i2, ?_, hat 1 _ rfl, hat 2 _ rfl⟩
  have := hat 0 _ rfl
  rwa [add_zero'] at this

end Go.Proofs.YtjlppkbmapmbiaaDoor

namespace Go.Proofs.YtjlppkbmapmbiaaDoor
open Go.RowKit Go.Lib
set_option linter.unusedVariables false

/-- A new volume's anchor, with other homes. -/
def aH (HS : List Hom) : Anc := ⟨1, 0, 0, 1, 0, ⟨#[]⟩, HS⟩
/-- How many spares each zone has had. -/
def hadL (D : Nat) (HS : List Hom) : List Int := HS.map fun h => h.next - ((D : Int) + 1)
theorem had_at {D z : Nat} {HS : List Hom} {h : Hom} (hz : HS[z]? = some h) : (hadL D HS)[z]? = some (h.next - ((D : Int) + 1)) := by
  unfold hadL
  rw [List.getElem?_map, hz]
  rfl
theorem had_put (D z : Nat) (HS : List Hom) (h : Hom) : hadL D (HS.set z h) = (hadL D HS).set z (h.next - ((D : Int) + 1)) := by
  unfold hadL
  rw [List.map_set]
theorem had_new (Z D : Nat) : hadL D (List.replicate Z (newHom D)) = List.replicate Z 0 := by
  unfold hadL
  rw [List.map_replicate]
  congr 1
  show (D : Int) + 1 - ((D : Int) + 1) = 0
  omega
theorem aH_new (Z D : Nat) : newAnc Z D ⟨#[]⟩ = aH (List.replicate Z (newHom D)) := rfl
theorem aH_skip (HS : List Hom) (z : Nat) (h : Hom) : skipA (aH HS) z h = aH (HS.set z { h with next := h.next + 1 }) := rfl
theorem aH_move (HS : List Hom) (z : Nat) (h : Hom) (i : Nat) : moveA (aH HS) z h i = aH (HS.set z { places := h.places.set i h.next, next := h.next + 1, root := h.root }) := rfl
theorem aH_in (HS : List Hom) : (aH HS).In := ⟨inI_1, inI_0, inI_0, inI_1, inI_0, by show (ByteArray.mk #[]).size ≤ maxLen; decide⟩

/-- Where the block that is asked as the m-th stands: the parity comes first. -/
def metAt (D m : Nat) : Nat := if m = 0 then D else m - 1
theorem metAt_le {D m : Nat} (h : m ≤ D) : metAt D m ≤ D := by unfold metAt; split <;> omega
theorem metAt_ne {D k m : Nat} (hk : k < m) (hm : m ≤ D) : metAt D k ≠ metAt D m := by
  unfold metAt
  split <;> split <;> omega
theorem metAt_at {g : Geo} {D m : Nat} (hd : g.data = (D : Int)) : atI g ((m : Int) - 1) = (metAt D m : Int) := by
  unfold atI metAt
  by_cases h : m = 0
  · subst h
    rw [if_pos (by omega), if_pos rfl, hd]
  · rw [if_neg (by omega), if_neg h]
    omega
def plAt (pl : List Int) (D m : Nat) : Int := pl[metAt D m]?.getD 0
def metL (g : Geo) (z : Int) (D : Nat) (pl : List Int) (m : Nat) : List Int := (List.range m).map fun j => slotN g z (plAt pl D j)
theorem met_succ (g : Geo) (z : Int) (D : Nat) (pl : List Int) (m : Nat) : metL g z D pl (m + 1) = metL g z D pl m ++ [slotN g z (plAt pl D m)] := by
  unfold metL
  rw [List.range_succ, List.map_append]
  rfl
theorem met_len (g : Geo) (z : Int) (D : Nat) (pl : List Int) (m : Nat) : (metL g z D pl m).length = m := by simp [metL]
theorem pl_at {pl : List Int} {D m : Nat} (hl : pl.length = D + 1) (hm : m ≤ D) : pl[metAt D m]? = some (plAt pl D m) := by
  have h := metAt_le hm
  unfold plAt
  rw [List.getElem?_eq_getElem (by omega)]
  rfl
theorem met_apart {g : Geo} {z : Int} {D : Nat} {pl : List Int} {nx : Int} (hp : PlOk nx pl) (hl : pl.length = D + 1) {k m : Nat} (hk : k < m) (hm : m ≤ D) {x : Int} (hx : (metL g z D pl m)[k]? = some x) : x ≠ slotN g z (plAt pl D m) := by
  unfold metL at hx
  rw [List.getElem?_map, List.getElem?_range hk] at hx
  injection hx with hx
  subst hx
  intro he
  have e : plAt pl D k = plAt pl D m := by
    have h : slotN g z (plAt pl D k) = slotN g z (plAt pl D m) := he
    unfold slotN at h
    omega
  have h1 := pl_at hl (m := k) (by omega)
  have h2 := pl_at hl hm
  rw [plOk_iff] at hp
  have hne := metAt_ne hk hm
  rw [e] at h1
  rcases Nat.lt_or_gt_of_ne hne with h | h
  · exact hp.2 _ _ _ h h2 h1
  · exact hp.2 _ _ _ h h1 h2
theorem pl_room {pl : List Int} {D m : Nat} {nx : Int} (hp : PlOk nx pl) (hl : pl.length = D + 1) (hm : m ≤ D) : 0 ≤ plAt pl D m ∧ plAt pl D m ≤ nx - 1 := (hp _ _ (pl_at hl hm)).1

end Go.Proofs.YtjlppkbmapmbiaaDoor

namespace Go.Proofs.YtjlppkbmapmbiaaDoor
open Go.RowKit Go.Lib
set_option linter.unusedVariables false
set_option maxRecDepth 100000

structure PAt (w : World) (Ng Na Nh : Nat) (eI : TypeId) (g : Geo) (Z : Nat) (V : Option Addr) (cv : Nat) (HS : List Hom) (X : List Int) (wr : World) : Prop where
  geo : GeoAt wr Ng g
  anc : Sev wr Na (.int .i64 1) (.int .i64 0) (.int .i64 0) (.int .i64 1) (.int .i64 0) (.string ⟨#[]⟩) (.slice V Z cv)
  free : ∀ j, wr.frozen? ⟨Na, j, none⟩ = false
  homes : Sl homR 3 wr (fun b => b < wr.heap.size ∧ b ≠ Na ∧ b ≠ Nh) V Z cv HS
  had : Ow intR 1 wr Nh Nh eI (.slice (some ⟨Nh, 0, none⟩) Z Z) Z X
  ng : w.heap.size ≤ Ng ∧ Ng < Na ∧ Na < Nh ∧ Nh < wr.heap.size
  bel : Below w.heap.size w wr

section
variable {w wr wr' : World} {Ng Na Nh : Nat} {eI : TypeId} {g : Geo} {Z : Nat} {V V' : Option Addr} {cv cv' : Nat} {HS HS' : List Hom} {X : List Int}
theorem PAt.on (h : PAt w Ng Na Nh eI g Z V cv HS X wr) (hb : Below wr.heap.size wr wr') : PAt w Ng Na Nh eI g Z V cv HS X wr' := by
  have n := h.ng
  refine ⟨h.geo.on hb, h.anc.on (by omega) hb, fun j => (hb.frozen (by show Na < _; omega)).trans (h.free j), h.homes.move homR_fine (fun b hb' => hb.block b hb'.1) (fun b hb' => ⟨Nat.lt_of_lt_of_le hb'.1 hb.size, hb'.2⟩), h.had.below intR_fine hb, ⟨n.1, n.2.1, n.2.2.1, Nat.lt_of_lt_of_le n.2.2.2 hb.size⟩, h.bel.trans (hb.mono h.bel.size)⟩
theorem sev_other {N M k : Nat} {v v0 v1 v2 v3 v4 v5 v6 : Value} (hne : N ≠ M) (h : Sev wr N v0 v1 v2 v3 v4 v5 v6) : Sev (wr.setCell ⟨M, k, none⟩ v) N v0 v1 v2 v3 v4 v5 v6 := by
  obtain ⟨h0, h1, h2, h3, h4, h5, h6⟩ := h
  exact ⟨put_cell_other hne h0, put_cell_other hne h1, put_cell_other hne h2, put_cell_other hne h3, put_cell_other hne h4, put_cell_other hne h5, put_cell_other hne h6⟩
theorem geo_other {N M k : Nat} {v : Value} (hne : N ≠ M) (h : GeoAt wr N g) : GeoAt (wr.setCell ⟨M, k, none⟩ v) N g := by
  obtain ⟨hN, h0, h1, h2, h3, h4⟩ := h
  exact ⟨by rw [set_size]; exact hN, put_cell_other hne h0, put_cell_other hne h1, put_cell_other hne h2, put_cell_other hne h3, put_cell_other hne h4⟩
theorem PAt.put (h : PAt w Ng Na Nh eI g Z V cv HS X wr) {k : Nat} (hk : k < Z) {x : Int} (hx : InI x) : PAt w Ng Na Nh eI g Z V cv HS (X.set k x) (wr.setCell ⟨Nh, k, none⟩ (.int .i64 x)) := by
  have n := h.ng
  obtain ⟨gb, y, u, e, _, _, _, _, _, _, hst⟩ := h.had.spot intR_fine hk
  injection e with e
  injection e with e
  subst e
  refine ⟨geo_other (by omega) h.geo, sev_other (by omega) h.anc, fun j => by rw [put_free]; exact h.free j, h.homes.move homR_fine (fun b hb' => put_blk _ _ _ _ hb'.2.2) (fun b hb' => ⟨by rw [set_size]; exact hb'.1, hb'.2⟩), hst (.int .i64 x) x rfl ⟨rfl, hx⟩, ⟨n.1, n.2.1, n.2.2.1, by rw [set_size]; exact n.2.2.2⟩, h.bel.setCell (by show w.heap.size ≤ Nh; omega) _⟩
theorem PAt.had_at (h : PAt w Ng Na Nh eI g Z V cv HS X wr) {k : Nat} (hk : k < Z) {x : Int} (hx : X[k]? = some x) : wr.cell? ⟨Nh, k, none⟩ = some (.int .i64 x) ∧ wr.frozen? ⟨Nh, k, none⟩ = false := by
  obtain ⟨gb, y, u, e, _, _, hy, hr, hc, hf, _⟩ := h.had.spot intR_fine hk
  injection e with e
  injection e with e
  subst e
  rw [hx] at hy
  injection hy with hy
  subst hy
  obtain ⟨hr, _⟩ := hr
  injection hr with hr
  subst hr
  exact ⟨hc, hf⟩
theorem geo_put7 {N M : Nat} {v0 v1 v2 v3 v4 v5 v6 : Value} (hne : N ≠ M) (h : GeoAt wr N g) : GeoAt (put7 wr M v0 v1 v2 v3 v4 v5 v6) N g :=
  geo_other hne (geo_other hne (geo_other hne (geo_other hne (geo_other hne (geo_other hne (geo_other hne h))))))
theorem free_put7 {N : Nat} {a : Addr} {v0 v1 v2 v3 v4 v5 v6 : Value} (h : wr.frozen? a = false) : (put7 wr N v0 v1 v2 v3 v4 v5 v6).frozen? a = false := by
  unfold put7
  simp only [put_free]
  exact h
theorem PAt.take {B : Nat} (h : PAt w Ng Na Nh eI g Z V cv HS X wr) (hs : Sl homR 3 wr (New B wr) V' Z cv' HS') (hB : Nh < B) : PAt w Ng Na Nh eI g Z V' cv' HS' X (put7 wr Na (.int .i64 1) (.int .i64 0) (.int .i64 0) (.int .i64 1) (.int .i64 0) (.string ⟨#[]⟩) (.slice V' Z cv')) := by
  have n := h.ng
  refine ⟨geo_put7 (by omega) h.geo, put7_sev h.anc _ _ _ _ _ _ _, fun j => free_put7 (h.free j), (put7_new homR_fine hs (by omega) _ _ _ _ _ _ _).move homR_fine (fun _ _ => rfl) (fun b hb => ⟨hb.2, by have := hb.1; omega, by have := hb.1; omega⟩), ?_, ⟨n.1, n.2.1, n.2.2.1, by rw [put7_size]; exact n.2.2.2⟩, put7_below h.bel (by omega) _ _ _ _ _ _ _⟩
  exact intPut (intPut (intPut (intPut (intPut (intPut (intPut h.had _ _ (by show Na < Nh; omega)) _ _ (by show Na < Nh; omega)) _ _ (by show Na < Nh; omega)) _ _ (by show Na < Nh; omega)) _ _ (by show Na < Nh; omega)) _ _ (by show Na < Nh; omega)) _ _ (by show Na < Nh; omega)
theorem PAt.read (h : PAt w Ng Na Nh eI g Z V cv HS X wr) : Sl homR 3 wr (Old wr) V Z cv HS := h.homes.move homR_fine (fun _ _ => rfl) (fun b hb => hb.1)
end

/-- A list of noughts just made. -/
theorem made_ints (w : World) (e : TypeId) (n : Nat) (hn : n ≤ 65536) :
    Ow intR 1 (w.alloc (.cells (madeCells #[.int .i64 0] n) e)) w.heap.size w.heap.size e (.slice (some ⟨w.heap.size, 0, none⟩) n n) n (List.replicate n 0) :=
  Ow.made w _ (by simp only [maxLen]; omega) (by rw [size_madeCells, Nat.mul_one]) (by simp) (by
    rw [toList_madeCells_one]
    intro u hu
    rw [(List.mem_replicate.1 hu).2]
    rfl) (fun i x hx => by
    have hi := (List.getElem?_eq_some_iff.1 hx).1
    rw [List.length_replicate] at hi
    rw [List.getElem?_replicate, if_pos hi] at hx
    injection hx with hx
    subst hx
    rw [toList_madeCells_one, List.drop_replicate, List.take_replicate, show min 1 (n - i * 1) = 1 from by omega]
    exact ⟨rfl, inI_0⟩) intR_fine

/-- The anchor of homes in a geometry, right: what each zone still has. -/
theorem had_ok {g : Geo} {Z D S : Nat} {HS : List Hom} (hz : g.zones = (Z : Int)) (hd : g.data = (D : Int)) (hs : g.spares = (S : Int)) (ho : AncOk g (aH HS)) {z : Nat} (hlt : z < Z) :
    ∃ (h : Hom) (k : Nat), HS[z]? = some h ∧ h.next = (D : Int) + 1 + (k : Int) ∧ k ≤ S ∧ h.places.length = D + 1 ∧ PlOk h.next h.places := by
  have h3 : (HS.length : Int) = g.zones := ho.2.2.1
  have hl : z < HS.length := by omega
  have hh := ho.2.2.2 HS[z] (List.getElem_mem hl)
  obtain ⟨e0, ⟨e1, e2⟩, e3, e4⟩ := hh
  exact ⟨HS[z], (HS[z].next - (D + 1)).toNat, List.getElem?_eq_getElem hl, by omega, by omega, by omega, e4⟩

theorem aH_light {g : Geo} {HS : List Hom} (hG : GeoOk g) (ho : AncOk g (aH HS)) : Light (aH HS) := by
  obtain ⟨⟨z1, z4⟩, ⟨d1, d4⟩, _⟩ := hG
  have h3 : (HS.length : Int) = g.zones := ho.2.2.1
  refine ⟨by show (ByteArray.mk #[]).size ≤ 60000; decide, by show HS.length ≤ 6000; omega, fun h hh => ?_⟩
  have := (ho.2.2.2 h hh).1
  omega
theorem slot_room {g : Geo} (hG : GeoOk g) {z : Int} (h0 : 0 ≤ z) (hz : z < g.zones) (p : Int) : 0 ≤ slotN g z 0 ∧ slotN g z 0 ≤ 1000 ∧ slotN g z p = slotN g z 0 + p := by
  obtain ⟨⟨z1, z4⟩, ⟨d1, d4⟩, ⟨s0, s2⟩, ⟨sl1, sl2⟩, an1, an3⟩ := hG
  have hm : 0 ≤ z * (g.data + 1 + g.spares) ∧ z * (g.data + 1 + g.spares) ≤ 4 * (g.data + 1 + g.spares) := ⟨Int.mul_nonneg h0 (by omega), Int.mul_le_mul_of_nonneg_right (by omega) (by omega)⟩
  unfold slotN slotsN tablesN
  omega

/-- A spare passed, or a block moved: the new anchor stands in the box Nb. -/
def Turned (g : Geo) (D Z z kk : Nat) (HS : List Hom) (w7 : World) (u : Value) (wx : World) : Prop :=
  u = .int .i64 0 ∧ Below w7.heap.size w7 wx ∧ ∃ (V : Option Addr) (cv : Nat) (h : Hom), Sev wx w7.heap.size (.int .i64 1) (.int .i64 0) (.int .i64 0) (.int .i64 1) (.int .i64 0) (.string ⟨#[]⟩) (.slice V Z cv) ∧
    Sl homR 3 wx (New (w7.heap.size + 1) wx) V Z cv (HS.set z h) ∧ AncOk g (aH (HS.set z h)) ∧ h.next = (D : Int) + 1 + (kk : Int) + 1 ∧ w7.heap.size < wx.heap.size

theorem turned_mk {g : Geo} {D Z z kk B cv : Nat} {HS : List Hom} {w7 w9 : World} {V : Option Addr} {h : Hom} {u0 u1 u2 u3 u4 u5 u6 : Value} (hb : Below w7.heap.size w7 w9) (hv : Sev w9 w7.heap.size u0 u1 u2 u3 u4 u5 u6) (hs : Sl homR 3 w9 (New B w9) V Z cv (HS.set z h)) (hB : B = w7.heap.size + 1)
    (ho : AncOk g (aH (HS.set z h))) (hn : h.next = (D : Int) + 1 + (kk : Int) + 1) (hsz : w7.heap.size < w9.heap.size) :
    Turned g D Z z kk HS w7 (.int .i64 0) (put7 w9 w7.heap.size (.int .i64 1) (.int .i64 0) (.int .i64 0) (.int .i64 1) (.int .i64 0) (.string ⟨#[]⟩) (.slice V Z cv)) := by
  subst hB
  exact ⟨rfl, put7_below hb (Nat.le_refl _) _ _ _ _ _ _ _, V, cv, h, put7_sev hv _ _ _ _ _ _ _, put7_new homR_fine hs (by omega) _ _ _ _ _ _ _, ho, hn, by rw [put7_size]; exact hsz⟩

end Go.Proofs.YtjlppkbmapmbiaaDoor
