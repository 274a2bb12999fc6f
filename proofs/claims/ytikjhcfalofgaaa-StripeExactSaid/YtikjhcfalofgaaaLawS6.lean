/-
  The walk of casematelaw14.StripeExact.
-/
import Derived.Test.YtikjhcfalofgaaaStrR
import Derived.Test.YtikjhcfalofgaaaStrS
import Derived.Deep.CutBlock
namespace Go.Proofs.Ytikjhcfalofgaaa
open Go.RowKit Go.Lib
set_option linter.unusedVariables false
set_option maxRecDepth 100000

theorem wrErr_nil {g : Geo} {L : List Ent} {H : List (List UInt8)} {ats : List Int} {bl : List (List UInt8)} {s : Int} (h : wrErr g L H ats bl s = 0) : (GeoOk g ∧ TabOk g.data L) ∧ HadOk g.data H ∧ (AtsOk g.data ats ∧ NumOk s) ∧ bl.length = ats.length ∧ ∀ x ∈ bl, x.length = 8 := by
  unfold wrErr at h
  split at h
  · cases h
  · split at h
    · cases h
    · split at h
      · cases h
      · split at h
        · cases h
        · rename_i h1 h2 h3 h4
          exact ⟨Classical.not_not.1 h1, Classical.not_not.1 h2, Classical.not_not.1 h3, Classical.not_not.1 h4⟩

theorem imErr_nil {g : Geo} {z : Int} {L : List Ent} {par : List UInt8} {ats : List Int} {bl : List (List UInt8)} (h : imErr g z L par ats bl = 0) : (GeoOk g ∧ TabOk g.data L) ∧ ((0 ≤ z ∧ z < g.zones) ∧ AtsOk g.data ats) ∧ (bl.length = ats.length ∧ ∀ x ∈ bl, x.length = 8) ∧ par.length = 8 := by
  unfold imErr at h
  split at h
  · cases h
  · split at h
    · cases h
    · split at h
      · cases h
      · rename_i h1 h2 h3
        exact ⟨Classical.not_not.1 h1, Classical.not_not.1 h2, Classical.not_not.1 h3⟩


/-- Write, whatever comes of it. -/
theorem write_sym {g : Geo} {A B C E : Option Addr} {n c m cb q cq p cp : Nat} {L : List Ent} {H : List (List UInt8)} {ats : List Int} {bl : List (List UInt8)} (s : Int) {w : World}
    (ha : Sl entR 3 w (Old w) A n c L) (hh : Rs w B m cb H) (hc : Is w C q cq ats) (hb : Rs w E p cp bl) (hn : n ≤ 65536) (hm : m ≤ 65536) (hq : q ≤ 65536) (hp : p ≤ 65536) {R : Int} {UL : List Ent} {PL : List UInt8} (hR : R = wrErr g L H ats bl s) (h0 : R = 0 → UL = wrT L H ats bl s g.data.toNat ∧ PL = parN L H ats bl g.data.toNat) (h1 : R ≠ 0 → UL = [] ∧ PL = []) :
    Calls Try.prog 11 #[g.v, .agg #[.slice A n c], .slice B m cb, .slice C q cq, .slice E p cp, .int .i64 s] w fun e w' => Below w.heap.size w w' ∧ ∃ V n' cv P np cP, e = .returned (.tuple #[.agg #[.slice V n' cv], .slice P np cP, .int .i64 R]) ∧ Sl entR 3 w' (Old w') V n' cv UL ∧ Bs w' P np cP PL := by
  by_cases hz : R = 0
  · obtain ⟨rfl, rfl⟩ := h0 hz
    obtain ⟨⟨hG, hT⟩, hH, ⟨hA, hS⟩, hl, h8⟩ := wrErr_nil (hR.symm.trans hz)
    have hd := hG.2.1
    refine (write_ok (d := g.data.toNat) hG (by omega) s ha hh hc hb hT hH hA hl h8 hS).mono ?_
    rintro e w' ⟨V, cv, P, cP, rfl, h3, h4, h5⟩
    exact ⟨h5, V, _, cv, P, 8, cP, by rw [hz], h3.old_ entR_fine, h4.old_ byteR_fine⟩
  · obtain ⟨rfl, rfl⟩ := h1 hz
    refine (write_bad s ha hh hc hb hn hm hq hp (by rw [← hR]; exact hz)).mono ?_
    rintro e w' ⟨rfl, h5⟩
    exact ⟨h5, none, 0, 0, none, 0, 0, by rw [hR], Sl.nil_ _, Sl.nil_ _⟩
theorem images_sym {g : Geo} {A C E P : Option Addr} {n c q cq p cp m cP : Nat} {L : List Ent} {ats : List Int} {bl : List (List UInt8)} {par : List UInt8} (z : Int) (hzI : InI z) {w : World}
    (ha : Sl entR 3 w (Old w) A n c L) (hP : Bs w P m cP par) (hc : Is w C q cq ats) (hb : Rs w E p cp bl) (hn : n ≤ 6000) (hq : q ≤ 65536) (hp : p ≤ 65536) {F : Int} {IL : List Sec} (hF : F = imErr g z L par ats bl) (h0 : F = 0 → IL = imgL z L par ats bl) (h1 : F ≠ 0 → IL = []) :
    Calls Try.prog 12 #[g.v, .int .i64 z, .agg #[.slice A n c], .slice P m cP, .slice C q cq, .slice E p cp] w fun e w' => Below w.heap.size w w' ∧ ∃ V n' cv, e = .returned (.tuple #[.slice V n' cv, .int .i64 F]) ∧ Sl secR 3 w' (Old w') V n' cv IL := by
  by_cases hz : F = 0
  · obtain rfl := h0 hz
    obtain ⟨⟨hG, hT⟩, ⟨hzz, hA⟩, ⟨hl, h8⟩, hp8⟩ := imErr_nil (hF.symm.trans hz)
    have hd := hG.2.1
    obtain rfl : m = 8 := by rw [← hP.len, hp8]
    refine (images_ok (d := g.data.toNat) hG (by omega) z hzI ha hP hc hb hT hzz hA hl h8).mono ?_
    rintro e w' ⟨V, cv, rfl, h3, h5⟩
    exact ⟨h5, V, _, cv, by rw [hz], h3⟩
  · obtain rfl := h1 hz
    refine (images_bad z ha hP hc hb hn hq hp (by rw [← hF]; exact hz)).mono ?_
    rintro e w' ⟨rfl, h5⟩
    exact ⟨h5, none, 0, 0, by rw [hF], Sl.nil_ _⟩

end Go.Proofs.Ytikjhcfalofgaaa
