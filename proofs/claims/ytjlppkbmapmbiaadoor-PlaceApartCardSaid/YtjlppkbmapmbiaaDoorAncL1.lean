/-
  The walks of the laws casematelaw08: wakes, AnchorFirst.
-/
import Derived.Test.YtjlppkbmapmbiaaDoorAncR
import Derived.Test.YtjlppkbmapmbiaaDoorAncF
import Derived.Test.YtjlppkbmapmbiaaDoorZRef
namespace Go.Proofs.YtjlppkbmapmbiaaDoor
open Go.RowKit Go.Lib
set_option linter.unusedVariables false
set_option maxRecDepth 100000

theorem upTo_len (k : Nat) : (upTo k).length = k := by simp [upTo]
theorem upTo_at {k i : Nat} (h : i < k) : (upTo k)[i]? = some (i : Int) := by
  unfold upTo
  rw [List.getElem?_map, List.getElem?_range h]
  rfl
theorem upTo_some {k i : Nat} {p : Int} (h : (upTo k)[i]? = some p) : i < k ∧ p = (i : Int) := by
  have hl := (List.getElem?_eq_some_iff.1 h).1
  rw [upTo_len] at hl
  rw [upTo_at hl] at h
  injection h with h
  exact ⟨hl, h.symm⟩
theorem upTo_pl (k : Nat) (next : Int) (h : (k : Int) ≤ next) : PlOk next (upTo k) := fun i p hp => by
  obtain ⟨h1, rfl⟩ := upTo_some hp
  refine ⟨⟨by omega, by omega⟩, fun hm => ?_⟩
  obtain ⟨y, hy, e⟩ := List.mem_iff_getElem.1 hm
  have hy2 : y < i := by rw [List.length_take] at hy; omega
  have h3 : ((upTo k).take i)[y]? = some (i : Int) := by rw [List.getElem?_eq_getElem hy, e]
  rw [List.getElem?_take, if_pos hy2] at h3
  have := (upTo_some h3).2
  omega
theorem newHom_ok {g : Geo} {d : Nat} (hG : GeoOk g) (hd : g.data = (d : Int)) : HomOk g (newHom d) := by
  have hs := hG.2.2.1
  refine ⟨by show ((upTo (d + 1)).length : Int) = _; rw [upTo_len, hd]; omega, ⟨by show g.data + 1 ≤ (d : Int) + 1; omega, by show (d : Int) + 1 ≤ _; omega⟩, ⟨by show (0 : Int) ≤ 0; omega, by show (0 : Int) ≤ 4294967295; omega⟩, upTo_pl _ _ (by show ((d + 1 : Nat) : Int) ≤ (d : Int) + 1; omega)⟩
theorem num_0 : NumOk 0 := by decide
theorem num_1 : NumOk 1 := by decide
theorem inI_0 : InI 0 := ⟨by omega, by omega⟩
theorem inI_1 : InI 1 := ⟨by omega, by omega⟩
theorem newAnc_ok {g : Geo} {z d : Nat} {name : ByteArray} (hG : GeoOk g) (hz : g.zones = (z : Int)) (hd : g.data = (d : Int)) (hl : labE (sL name) = 0) : AncOk g (newAnc z d name) := by
  have hs := hG.2.2.2.1
  refine ⟨⟨num_1, num_0, num_1, num_0, Int.le_refl 1, Int.le_refl 0, Int.le_refl 0, ?_⟩, hl, ?_, fun h hm => ?_⟩
  · show (0 : Int) ≤ g.slots - 1
    omega
  · show ((List.replicate z (newHom d)).length : Int) = _
    rw [List.length_replicate, hz]
  · obtain rfl := (List.mem_replicate.1 hm).2
    exact newHom_ok hG hd
theorem newAnc_in {z d : Nat} {name : ByteArray} (h : name.size ≤ maxLen) : (newAnc z d name).In := ⟨inI_1, inI_0, inI_0, inI_1, inI_0, h⟩
theorem newAnc_light {z d : Nat} {name : ByteArray} (h : name.size ≤ 60000) (hz : z ≤ 6000) (hd : d < 6000) : Light (newAnc z d name) := by
  refine ⟨h, by show (List.replicate z (newHom d)).length ≤ 6000; rw [List.length_replicate]; exact hz, fun x hm => ?_⟩
  obtain rfl := (List.mem_replicate.1 hm).2
  show (upTo (d + 1)).length ≤ 6000
  rw [upTo_len]
  omega
theorem noAnc_no {g : Geo} : ¬ AncOk g noAnc := fun h => by
  have h1 := h.1.2.2.2.2.1
  have h2 : (1 : Int) ≤ 0 := h1
  omega
theorem noAnc_in : noAnc.In := ⟨inI_0, inI_0, inI_0, inI_0, inI_0, Nat.zero_le _⟩
theorem noAnc_light : Light noAnc := ⟨Nat.zero_le _, Nat.zero_le _, fun h hm => by simp [noAnc] at hm⟩

/-! ### what the program's functions tell, case by case -/
theorem acheck_yes {g : Geo} {a : Anc} (hG : GeoOk g) (ho : AncOk g a) {A : Option Addr} {n c : Nat} {w : World} (hT : Tabs w) (ha : Sl homR 3 w (Old w) A n c a.homes) (hin : a.In) (hl : Light a) :
    Calls Tryd.prog 20 #[g.v, a.v (.slice A n c)] w fun e w' => e = .returned (.int .i64 0) ∧ Below w.heap.size w w' := by
  have h := acheck_any g a A n c w hT ha hin hl
  rwa [show ancErr g a = 0 from if_pos ⟨hG, ho⟩] at h
theorem acheck_no {g : Geo} {a : Anc} (ho : ¬ AncOk g a) {A : Option Addr} {n c : Nat} {w : World} (hT : Tabs w) (ha : Sl homR 3 w (Old w) A n c a.homes) (hin : a.In) (hl : Light a) :
    Calls Tryd.prog 20 #[g.v, a.v (.slice A n c)] w fun e w' => e = .returned (.int .i64 1) ∧ Below w.heap.size w w' := by
  have h := acheck_any g a A n c w hT ha hin hl
  rwa [show ancErr g a = 1 from if_neg (fun h => ho h.2)] at h
theorem lab_v : labE [118] = 0 := by
  have h : decs [118] = [(118, 1)] := by rw [← decsF_eq 1 _ (by decide)]; decide +kernel
  rw [labE_ok, h]
  exact ⟨by decide, by decide⟩

end Go.Proofs.YtjlppkbmapmbiaaDoor
