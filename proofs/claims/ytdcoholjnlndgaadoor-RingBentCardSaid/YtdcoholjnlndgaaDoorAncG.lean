/-
  Contract: anchor.First.
  Contracts: slices.Repeat of one int; anchor.homes.
  Contract: anchor.Read.
  The walks of the laws casematelaw08: wakes, AnchorFirst.
  Contract: casemateref08.First.
-/
import Derived.Test.YtdcoholjnlndgaaDoorAncW
import Derived.Test.YtdcoholjnlndgaaDoorCopyN
import Derived.Test.YtdcoholjnlndgaaDoorStruct
import Derived.Test.YtdcoholjnlndgaaDoorRowO
import Derived.Deep.RegionLaw
import Derived.Deep.CutRange
import Derived.IntWalk
import Derived.Deep.DeepCutAuto
import Derived.Deep.RegionHeld3
import Derived.Test.YtdcoholjnlndgaaDoorAncT
import Derived.Test.YtdcoholjnlndgaaDoorZRef
namespace Go.Proofs.YtdcoholjnlndgaaDoor
open Go.RowKit Go.Lib
set_option linter.unusedVariables false
set_option maxRecDepth 100000

/-- What anchor.First tells. -/
def AFirst (g : Geo) (name : ByteArray) (a : Anc) (err : Int) : Prop := (¬ GeoOk g ∧ err = 1 ∧ a = noAnc) ∨ (GeoOk g ∧ labE (sL name) ≠ 0 ∧ err = labE (sL name) ∧ a = noAnc) ∨ (GeoOk g ∧ labE (sL name) = 0 ∧ err = 0 ∧ a = newAnc g.zones.toNat g.data.toNat name)
def AFirstPost (w : World) (g : Geo) (name : ByteArray) (e : Ending) (w' : World) : Prop := Below w.heap.size w w' ∧ ∃ a v err, e = .returned (.tuple #[v, .int .i64 err]) ∧ AncRet w a v w' ∧ AFirst g name a err

end Go.Proofs.YtdcoholjnlndgaaDoor

namespace Go.Proofs.YtdcoholjnlndgaaDoor
open Go.RowKit
set_option linter.unusedVariables false
set_option maxRecDepth 100000

theorem int_sizeR : (Tryd.prog.info? 3).map (·.size) = some 1 := by kernel_rfl
def zInt : List Value := [.int .i64 0]
theorem made_int {k : Nat} (h : k = 3 ∨ k = 4 ∨ k = 5 ∨ k = 6) : madeCells (Value.int .i64 0).cells (k * 1) = (flat k zInt).toArray := by
  rcases h with rfl | rfl | rfl | rfl <;> kernel_rfl

end Go.Proofs.YtdcoholjnlndgaaDoor

namespace Go.Proofs.YtdcoholjnlndgaaDoor
open Go.RowKit Go.Lib
set_option linter.unusedVariables false
set_option maxRecDepth 100000

theorem Sl.cap_ {α : Type} {R : Rp α} {s : Nat} {w : World} {S : Nat → Prop} {A : Option Addr} {n c c' : Nat} {L : List α} (h : Sl R s w S A n c L) (hc : n ≤ c') : Sl R s w S A n c' L := ⟨h.len, hc, h.at0⟩

/-- The sizes of a home's numbers. -/
def homS (d : Nat) : List Int := List.replicate (d + 2) 1 ++ [4]
theorem homS_len (d : Nat) : (homS d).length = d + 3 := by simp [homS]
theorem homS_sized (d : Nat) : ∀ z ∈ homS d, Sized z := by
  intro z hz
  rcases List.mem_append.1 hz with h | h
  · rw [(List.mem_replicate.1 h).2]; exact .inl rfl
  · obtain rfl := List.mem_singleton.1 h; exact .inr (.inr rfl)
theorem sumN_rep (m : Nat) (t : List Int) : sumN (List.replicate m 1 ++ t) = m + sumN t := by
  induction m with
  | zero => simp
  | succ m ih =>
    rw [List.replicate_succ, List.cons_append]
    show (1 : Int).toNat + sumN (List.replicate m 1 ++ t) = _
    rw [ih]
    show 1 + (m + sumN t) = _
    omega
theorem homS_sum (d : Nat) : sumN (homS d) = d + 6 := by
  rw [homS, sumN_rep]
  rfl
theorem unrow_rep (m : Nat) (t : List Int) (xs : List UInt8) (h : m ≤ xs.length) : unrowI (List.replicate m 1 ++ t) xs = (xs.take m).map (fun x => (x.toNat : Int)) ++ unrowI t (xs.drop m) := by
  induction m generalizing xs with
  | zero => simp
  | succ m ih =>
    match xs, h with
    | x :: xs, h =>
      rw [List.replicate_succ, List.cons_append]
      show ((num ((x :: xs).take 1) : Nat) : Int) :: unrowI (List.replicate m 1 ++ t) ((x :: xs).drop 1) = _
      rw [List.drop_succ_cons, List.drop_zero, ih xs (by simpa using h)]
      simp [num]
theorem homS_unrow {d : Nat} {xs : List UInt8} (h : d + 6 ≤ xs.length) : unrowI (homS d) xs = (homOf d xs).places ++ [(homOf d xs).next, (homOf d xs).root] := by
  rw [homS, unrow_rep _ _ _ (by omega)]
  have hl : d + 1 < xs.length := by omega
  have e1 : xs.take (d + 2) = xs.take (d + 1) ++ [xs[d + 1]] := List.take_succ_eq_append_getElem hl
  have e2 : num ((xs.drop (d + 1)).take 1) = (xs[d + 1]).toNat := by
    rw [List.drop_eq_getElem_cons hl, List.take_succ_cons, List.take_zero]
    simp [num]
  rw [e1]
  show List.map _ (List.take (d + 1) xs ++ [xs[d + 1]]) ++ [((num ((xs.drop (d + 2)).take 4) : Nat) : Int)] = (List.take (d + 1) xs).map _ ++ [((num ((xs.drop (d + 1)).take 1) : Nat) : Int), ((num ((xs.drop (d + 2)).take 4) : Nat) : Int)]
  rw [e2, List.map_append, List.append_assoc]
  rfl
theorem homOf_in {d : Nat} {xs : List UInt8} (h : d + 6 ≤ xs.length) : (homOf d xs).places.length = d + 1 ∧ InI (homOf d xs).next ∧ InI (homOf d xs).root := by
  have h1 := num_take_lt (xs.drop (d + 1)) 1 (by rw [List.length_drop]; omega)
  have h2 := num_take_lt (xs.drop (d + 2)) 4 (by rw [List.length_drop]; omega)
  refine ⟨by simp [homOf]; omega, ⟨?_, ?_⟩, ?_, ?_⟩
  all_goals (show _ ≤ _; simp only [homOf]; omega)
theorem homsOf_snoc (d k : Nat) (l : List UInt8) : homsOf d (k + 1) l = homsOf d k l ++ [homOf d (l.drop (k * (d + 6)))] := by
  induction k generalizing l with
  | zero => simp [homsOf]
  | succ k ih =>
    show homOf d l :: homsOf d (k + 1) (l.drop (d + 6)) = _
    rw [ih, List.drop_drop]
    show _ = homOf d l :: (homsOf d k (l.drop (d + 6)) ++ _)
    rw [show d + 6 + k * (d + 6) = (k + 1) * (d + 6) by rw [Nat.add_mul, Nat.one_mul]; omega]

/-- What is apart from an owned slice stays while it grows. -/
theorem but_grow {α : Type} {R : Rp α} {s n : Nat} {w w' : World} {v v' : Value} {A : Option Addr} {c : Nat} {L : List α} (hF : Fine R s) (h : Sl R s w (But w 0 v) A n c L) (hg : w.grownBy w' v.ownBlock) (hat : v'.ownBlock = v.ownBlock ∨ v'.ownBlock = some w.heap.size) : Sl R s w' (But w' 0 v') A n c L :=
  h.move hF (fun b hb => hg.block b hb.2.1 hb.2.2) (fun b hb => ⟨Nat.zero_le _, Nat.lt_of_lt_of_le hb.2.1 hg.size, by
    rcases hat with h | h <;> rw [h]
    · exact hb.2.2
    · intro e
      injection e with e
      have := hb.2.1
      omega⟩)
theorem but_below {α : Type} {R : Rp α} {s n : Nat} {w w' : World} {v : Value} {A : Option Addr} {c : Nat} {L : List α} (hF : Fine R s) (h : Sl R s w (But w 0 v) A n c L) (hb : Below w.heap.size w w') : Sl R s w' (But w' 0 v) A n c L :=
  h.move hF (fun b hb' => hb.block b hb'.2.1) (fun b hb' => ⟨Nat.zero_le _, Nat.lt_of_lt_of_le hb'.2.1 hb.size, hb'.2.2⟩)

/-- What anchor.homes tells. -/
def AHomes (z d : Nat) (b : List UInt8) (L : List Hom) (err : Int) : Prop := (z * (d + 6) ≤ b.length ∧ err = 0 ∧ L = homsOf d z b) ∨ (b.length < z * (d + 6) ∧ err = 4 ∧ L = [])
def AHomesPost (w : World) (z d : Nat) (b : List UInt8) (e : Ending) (w' : World) : Prop := Below w.heap.size w w' ∧ ∃ A n c L err, e = .returned (.tuple #[.slice A n c, .int .i64 err]) ∧ Sl homR 3 w' (New w.heap.size w') A n c L ∧ AHomes z d b L err

end Go.Proofs.YtdcoholjnlndgaaDoor

namespace Go.Proofs.YtdcoholjnlndgaaDoor
open Go.RowKit Go.Lib
set_option linter.unusedVariables false
set_option maxRecDepth 100000

/-- What bytes may be, if they are as long as that. -/
def candA (z d : Nat) (b s : List UInt8) : Anc := ⟨num (b.take 4), num ((b.drop 4).take 4), num ((b.drop 16).take 1), num ((b.drop 8).take 4), num ((b.drop 12).take 4), mkS s, homsOf d z (b.drop (18 + s.length))⟩
theorem ancOf_cand {z d : Nat} {b s : List UInt8} (h : readLab (b.drop 17) = some s) : ancOf z d b = if b.length = 18 + s.length + z * (d + 6) then some (candA z d b s) else none := by
  unfold ancOf
  rw [h]
  rfl
theorem ancOf_none {z d : Nat} {b : List UInt8} (h : readLab (b.drop 17) = none) : ancOf z d b = none := by
  unfold ancOf
  rw [h]
theorem homsOf_in (d : Nat) : ∀ (z : Nat) (l : List UInt8), z * (d + 6) ≤ l.length → ∀ h ∈ homsOf d z l, h.places.length = d + 1 ∧ InI h.next ∧ InI h.root
  | 0, l, _, h, hm => by simp [homsOf] at hm
  | z + 1, l, hl, h, hm => by
    rw [Nat.add_mul, Nat.one_mul] at hl
    rcases List.mem_cons.1 hm with rfl | hm
    · exact homOf_in (by omega)
    · exact homsOf_in d z _ (by rw [List.length_drop]; omega) h hm
theorem cand_len {z d : Nat} {b s : List UInt8} (hl : 18 + s.length + z * (d + 6) ≤ b.length) : (ancL (candA z d b s)).length = 18 + s.length + z * (d + 6) := by
  have h1 := ancL_len (d := d) (a := candA z d b s) (fun h hm => (homsOf_in d z _ (by rw [List.length_drop]; omega) h hm).1)
  rw [h1]
  show 18 + s.length + (homsOf d z _).length * (d + 6) = _
  rw [homsOf_len]
theorem cand_eq {z d : Nat} {b s : List UInt8} (hr : readLab (b.drop 17) = some s) (hl : 18 + s.length + z * (d + 6) ≤ b.length) : ancL (candA z d b s) = b ↔ b.length = 18 + s.length + z * (d + 6) := by
  constructor
  · intro h
    have := cand_len hl
    rw [h] at this
    exact this
  · intro h
    exact (anc_of (z := z) (d := d) (by rw [ancOf_cand hr, if_pos h])).1
theorem cand_in {z d : Nat} {b s : List UInt8} (h17 : 17 ≤ b.length) (hs : s.length ≤ 24) : (candA z d b s).In := by
  have h1 := num_take_lt b 4 (by omega)
  have h2 := num_take_lt (b.drop 4) 4 (by rw [List.length_drop]; omega)
  have h3 := num_take_lt (b.drop 16) 1 (by rw [List.length_drop]; omega)
  have h4 := num_take_lt (b.drop 8) 4 (by rw [List.length_drop]; omega)
  have h5 := num_take_lt (b.drop 12) 4 (by rw [List.length_drop]; omega)
  have h6 : (mkS s).size ≤ maxLen := by rw [← sL_len, sL_mk]; simp only [maxLen]; omega
  refine ⟨⟨?_, ?_⟩, ⟨?_, ?_⟩, ⟨?_, ?_⟩, ⟨?_, ?_⟩, ⟨?_, ?_⟩, h6⟩
  all_goals (simp only [candA]; omega)

/-- What anchor.Read tells. -/
def ARead (g : Geo) (b : List UInt8) (a : Anc) (err : Int) : Prop := (¬ GeoOk g ∧ err = 1 ∧ a = noAnc) ∨ (GeoOk g ∧ ancOf g.zones.toNat g.data.toNat b = some a ∧ AncOk g a ∧ err = 0) ∨ (GeoOk g ∧ (∀ a', ancOf g.zones.toNat g.data.toNat b = some a' → ¬ AncOk g a') ∧ err = 4 ∧ a = noAnc)
def AReadPost (w : World) (g : Geo) (b : List UInt8) (e : Ending) (w' : World) : Prop := Below w.heap.size w w' ∧ ∃ a v err, e = .returned (.tuple #[v, .int .i64 err]) ∧ AncRet w a v w' ∧ ARead g b a err

def headS : List Int := [4, 4, 4, 4, 1]
theorem head_unrow (b : List UInt8) : unrowI headS b = [(num (b.take 4) : Int), (num ((b.drop 4).take 4) : Int), (num ((b.drop 8).take 4) : Int), (num ((b.drop 12).take 4) : Int), (num ((b.drop 16).take 1) : Int)] := by
  simp [headS, unrowI, List.drop_drop]
theorem head_sized : ∀ z ∈ headS, Sized z := fun z hz => by
  simp [headS] at hz
  rcases hz with rfl | rfl
  · exact .inr (.inr rfl)
  · exact .inl rfl

end Go.Proofs.YtdcoholjnlndgaaDoor

namespace Go.Proofs.YtdcoholjnlndgaaDoor
open Go.RowKit Go.Lib
set_option linter.unusedVariables false
set_option maxRecDepth 100000

theorem upTo_len (k : Nat) : (upTo k).length = k := by simp [upTo]
theorem upTo_at {k i : Nat} (h : i < k) : (upTo k)[i]? = some (i : Int) := by
  unfold upTo
  rw [List.getElem?_map, List.getElem?_range h]
  rfl
theorem upTo_some {k i : Nat} {p : Int} (h : (upTo k)[i]? = some p) : i < k ∧ p = (i : Int) := by
  have hl := (List.getElem?_eq_some_iff.1 h).1
  rw [upTo_len] at hl
  rw [upTo_at hl] at h
  injection h with h
  exact ⟨hl, h.symm⟩
theorem upTo_pl (k : Nat) (next : Int) (h : (k : Int) ≤ next) : PlOk next (upTo k) := fun i p hp => by
  obtain ⟨h1, rfl⟩ := upTo_some hp
  refine ⟨⟨by omega, by omega⟩, fun hm => ?_⟩
  obtain ⟨y, hy, e⟩ := List.mem_iff_getElem.1 hm
  have hy2 : y < i := by rw [List.length_take] at hy; omega
  have h3 : ((upTo k).take i)[y]? = some (i : Int) := by rw [List.getElem?_eq_getElem hy, e]
  rw [List.getElem?_take, if_pos hy2] at h3
  have := (upTo_some h3).2
  omega
theorem newHom_ok {g : Geo} {d : Nat} (hG : GeoOk g) (hd : g.data = (d : Int)) : HomOk g (newHom d) := by
  have hs := hG.2.2.1
  refine ⟨by show ((upTo (d + 1)).length : Int) = _; rw [upTo_len, hd]; omega, ⟨by show g.data + 1 ≤ (d : Int) + 1; omega, by show (d : Int) + 1 ≤ _; omega⟩, ⟨by show (0 : Int) ≤ 0; omega, by show (0 : Int) ≤ 4294967295; omega⟩, upTo_pl _ _ (by show ((d + 1 : Nat) : Int) ≤ (d : Int) + 1; omega)⟩
theorem num_0 : NumOk 0 := by decide
theorem num_1 : NumOk 1 := by decide
theorem inI_0 : InI 0 := ⟨by omega, by omega⟩
theorem inI_1 : InI 1 := ⟨by omega, by omega⟩
theorem newAnc_ok {g : Geo} {z d : Nat} {name : ByteArray} (hG : GeoOk g) (hz : g.zones = (z : Int)) (hd : g.data = (d : Int)) (hl : labE (sL name) = 0) : AncOk g (newAnc z d name) := by
  have hs := hG.2.2.2.1
  refine ⟨⟨num_1, num_0, num_1, num_0, Int.le_refl 1, Int.le_refl 0, Int.le_refl 0, ?_⟩, hl, ?_, fun h hm => ?_⟩
  · show (0 : Int) ≤ g.slots - 1
    omega
  · show ((List.replicate z (newHom d)).length : Int) = _
    rw [List.length_replicate, hz]
  · obtain rfl := (List.mem_replicate.1 hm).2
    exact newHom_ok hG hd
theorem newAnc_in {z d : Nat} {name : ByteArray} (h : name.size ≤ maxLen) : (newAnc z d name).In := ⟨inI_1, inI_0, inI_0, inI_1, inI_0, h⟩
theorem newAnc_light {z d : Nat} {name : ByteArray} (h : name.size ≤ 60000) (hz : z ≤ 6000) (hd : d < 6000) : Light (newAnc z d name) := by
  refine ⟨h, by show (List.replicate z (newHom d)).length ≤ 6000; rw [List.length_replicate]; exact hz, fun x hm => ?_⟩
  obtain rfl := (List.mem_replicate.1 hm).2
  show (upTo (d + 1)).length ≤ 6000
  rw [upTo_len]
  omega
theorem noAnc_no {g : Geo} : ¬ AncOk g noAnc := fun h => by
  have h1 := h.1.2.2.2.2.1
  have h2 : (1 : Int) ≤ 0 := h1
  omega
theorem noAnc_in : noAnc.In := ⟨inI_0, inI_0, inI_0, inI_0, inI_0, Nat.zero_le _⟩
theorem noAnc_light : Light noAnc := ⟨Nat.zero_le _, Nat.zero_le _, fun h hm => by simp [noAnc] at hm⟩

/-! ### what the program's functions tell, case by case -/
theorem acheck_yes {g : Geo} {a : Anc} (hG : GeoOk g) (ho : AncOk g a) {A : Option Addr} {n c : Nat} {w : World} (hT : Tabs w) (ha : Sl homR 3 w (Old w) A n c a.homes) (hin : a.In) (hl : Light a) :
    Calls Tryd.prog 23 #[g.v, a.v (.slice A n c)] w fun e w' => e = .returned (.int .i64 0) ∧ Below w.heap.size w w' := by
  have h := acheck_any g a A n c w hT ha hin hl
  rwa [show ancErr g a = 0 from if_pos ⟨hG, ho⟩] at h
theorem acheck_no {g : Geo} {a : Anc} (ho : ¬ AncOk g a) {A : Option Addr} {n c : Nat} {w : World} (hT : Tabs w) (ha : Sl homR 3 w (Old w) A n c a.homes) (hin : a.In) (hl : Light a) :
    Calls Tryd.prog 23 #[g.v, a.v (.slice A n c)] w fun e w' => e = .returned (.int .i64 1) ∧ Below w.heap.size w w' := by
  have h := acheck_any g a A n c w hT ha hin hl
  rwa [show ancErr g a = 1 from if_neg (fun h => ho h.2)] at h
theorem lab_v : labE [118] = 0 := by
  have h : decs [118] = [(118, 1)] := by rw [← decsF_eq 1 _ (by decide)]; decide +kernel
  rw [labE_ok, h]
  exact ⟨by decide, by decide⟩

end Go.Proofs.YtdcoholjnlndgaaDoor

namespace Go.Proofs.YtdcoholjnlndgaaDoor
open Go.RowKit Go.Lib
set_option linter.unusedVariables false
set_option maxRecDepth 100000

set_option maxHeartbeats 4000000 in
theorem rafirst_any {g : Geo} {z d : Nat} (hz : g.zones = (z : Int)) (hd : g.data = (d : Int)) (hz4 : z ≤ 4) (hd4 : d ≤ 4) (name : ByteArray) (w : World) :
    Calls Tryd.prog 28 #[g.v, .string name] w fun e w' => Below w.heap.size w w' ∧ ∃ V c, e = .returned ((newAnc z d name).v (.slice V z c)) ∧ Sl homR 3 w' (New w.heap.size w') V z c (List.replicate z (newHom d)) := by
  obtain ⟨e0, he0, ee0, ee1, ee2⟩ := info_parts hom_info
  obtain ⟨i0, hi0, ii0, ii1, ii2⟩ := info_parts int_info
  obtain ⟨gz, gd, gs, gl, ga⟩ := g
  dsimp only at hz hd
  subst hz
  subst hd
  obtain ⟨W0, hW0⟩ : ∃ W0, W0 = (w.alloc (.cells #[.int .i64 (z : Int), .int .i64 (d : Int), .int .i64 gs, .int .i64 gl, .int .i64 ga] 23)).alloc (.cells #[.int .i64 0, .int .i64 0, .int .i64 0, .int .i64 0, .int .i64 0, .string ⟨#[]⟩, .slice none 0 0] 26) := ⟨_, rfl⟩
  have hS0 : (w.alloc (.cells #[.int .i64 (z : Int), .int .i64 (d : Int), .int .i64 gs, .int .i64 gl, .int .i64 ga] 23)).heap.size = w.heap.size + 1 := by simp
  have hW0s : W0.heap.size = w.heap.size + 1 + 1 := by rw [hW0]; simp
  have hb0 : Below w.heap.size w W0 := by rw [hW0]; exact (alloc_below w _).alloc (by simp) _
  have hg0 : GeoAt W0 w.heap.size ⟨(z : Int), (d : Int), gs, gl, ga⟩ := by rw [hW0]; exact (GeoAt.new w ⟨(z : Int), (d : Int), gs, gl, ga⟩ 23).on (alloc_below _ _)
  have hz0 : Sev W0 (w.heap.size + 1) (.int .i64 0) (.int .i64 0) (.int .i64 0) (.int .i64 0) (.int .i64 0) (.string ⟨#[]⟩) (.slice none 0 0) := by rw [hW0]; exact Sev.new hS0 (Below.refl _ _)
  have hf0 : ∀ W, Below W0.heap.size W0 W → ∀ k, W.frozen? ⟨w.heap.size + 1, k, none⟩ = false := fun W hW k => by subst hW0; exact bx_free2 hS0 hW k
  have HF0 := hide hf0
  obtain ⟨W3, hW3⟩ : ∃ W3, W3 = W0.alloc (.cells #[.int .i64 1, .int .i64 0, .int .i64 0, .int .i64 1, .int .i64 0, .string name, .slice none 0 0] 26) := ⟨_, rfl⟩
  have hb23 : Below W0.heap.size W0 W3 := by rw [hW3]; exact alloc_below _ _
  have hs3 : W3.heap.size = W0.heap.size + 1 := by rw [hW3]; simp
  have hsev3 : Sev W3 (w.heap.size + 1 + 1) (.int .i64 1) (.int .i64 0) (.int .i64 0) (.int .i64 1) (.int .i64 0) (.string name) (.slice none 0 0) := by rw [hW3]; exact Sev.new hW0s (Below.refl _ _)
  have hfr3 : W3.frozen? ⟨w.heap.size + 1 + 1, 6, none⟩ = false := by rw [hW3]; exact bx_free2 hW0s (Below.refl _ _) 6
  have HG2 := hide hg0
  have HS3 := hide hs3
  have HSEV3 := hide hsev3
  have HFR3 := hide hfr3
  have HZ0 := hide hz0
  unfold Geo.v
  dsimp only
  clear hsev3 hfr3 hf0 hz0
  go_enter Tryd.func28, Tryd.ntmps28
  go_wp2_with fail
  rw [← hW0, ← hW3]
  clear hW3 hW0
  go_loopw [6] (fun i wr => ∃ k : Nat, ∃ V cv, k ≤ z ∧ i = .int .i64 k ∧ Ow homR 3 wr ((w.heap.size + 1 + 1) + 1) ((w.heap.size + 1 + 1) + 1) 59 (.slice V k cv) k (List.replicate k (newHom d)) ∧ Hid (Sev wr (w.heap.size + 1 + 1) (.int .i64 1) (.int .i64 0) (.int .i64 0) (.int .i64 1) (.int .i64 0) (.string name) (.slice V k cv)) ∧ Hid (wr.frozen? ⟨(w.heap.size + 1 + 1), 6, none⟩ = false) ∧ Below W0.heap.size W0 wr ∧ (w.heap.size + 1 + 1) + 1 ≤ wr.heap.size) (fun i _ => z - (RowKit.intOf i).toNat)
  case atStart => exact ⟨0, none, 0, Nat.zero_le _, rfl, Ow.nil_ _ _ _ _, HSEV3, HFR3, hb23, by omega⟩
  case round =>
    obtain ⟨k, V, cv, hk, rfl, ho, hsev, hfr, hb, hsz⟩ := hrel
    obtain ⟨wo, rfl⟩ : ∃ wo : World, wo = wr := ⟨_, rfl⟩
    obtain ⟨_, r0, r1, r2, r3, r4⟩ := HG2.out.on hb
    by_cases hlt : k < z
    · obtain ⟨WH, hWH⟩ : ∃ WH, WH = wo.alloc (.cells #[.slice none 0 0, .int .i64 ((d : Int) + 1), .int .i64 0] 59) := ⟨_, rfl⟩
      have hbh : Below wo.heap.size wo WH := by rw [hWH]; exact alloc_below _ _
      have hsh : WH.heap.size = wo.heap.size + 1 := by rw [hWH]; simp
      have h0 : WH.cell? ⟨wo.heap.size, 0, none⟩ = some (.slice none 0 0) := by rw [hWH]; exact box_cell (Below.refl _ _) 0 _ rfl
      have h1 : WH.cell? ⟨wo.heap.size, 1, none⟩ = some (.int .i64 ((d : Int) + 1)) := by rw [hWH]; exact box_cell (Below.refl _ _) 1 _ rfl
      have h2 : WH.cell? ⟨wo.heap.size, 2, none⟩ = some (.int .i64 0) := by rw [hWH]; exact box_cell (Below.refl _ _) 2 _ rfl
      have h3 : WH.frozen? ⟨wo.heap.size, 0, none⟩ = false := by rw [hWH]; exact box_free (Below.refl _ _) 0
      have H0 := hide h0
      have H1 := hide h1
      have H2 := hide h2
      have H3 := hide h3
      obtain ⟨_, s0, s1, s2, s3, s4⟩ := HG2.out.on (hb.trans (hbh.mono hb.size))
      clear h0 h1 h2 h3
      go_wp2_with fail
      rw [← hWH]
      clear hWH
      go_loopw [8] (fun i wr => ∃ j : Nat, ∃ U cu, j ≤ d + 1 ∧ i = .int .i64 j ∧ Ow intR 1 wr (wo.heap.size + 1) (wo.heap.size + 1) 3 (.slice U j cu) j (upTo j) ∧ wr.cell? ⟨wo.heap.size, 0, none⟩ = some (.slice U j cu) ∧ Hid (wr.cell? ⟨wo.heap.size, 1, none⟩ = some (.int .i64 ((d : Int) + 1))) ∧ Hid (wr.cell? ⟨wo.heap.size, 2, none⟩ = some (.int .i64 0)) ∧ wr.frozen? ⟨wo.heap.size, 0, none⟩ = false ∧ Below wo.heap.size wo wr ∧ wo.heap.size + 1 ≤ wr.heap.size) (fun i _ => d + 1 - (RowKit.intOf i).toNat)
      case atStart => exact ⟨0, none, 0, Nat.zero_le _, rfl, Ow.nil_ _ _ _ _, H0.out, H1, H2, H3.out, hbh, by omega⟩
      case round =>
        obtain ⟨j, U, cu, hj, rfl, hu, ct, c1, c2, ft, hbr, hszr⟩ := hrel
        obtain ⟨_, s0, s1, s2, s3, s4⟩ := HG2.out.on (hb.trans (hbr.mono hb.size))
        by_cases hlt2 : j < d + 1
        · have hle : (j : Int) ≤ (d : Int) := by omega
          have hE := alloc_below wr (.cells #[.int .i64 j] 3)
          have huE := hu.below intR_fine hE
          have ctE : (wr.alloc (.cells #[.int .i64 j] 3)).cell? ⟨wo.heap.size, 0, none⟩ = some (.slice U j cu) := (hE.cell (by exact hszr)).trans ct
          have hlit : Is (wr.alloc (.cells #[.int .i64 j] 3)) (some ⟨wr.heap.size, 0, none⟩) 1 1 [(j : Int)] := lit_ints_at (n := 1) (l := [(j : Int)]) rfl rfl (by omega) (fun z hz => by simp at hz; subst hz; exact ⟨by omega, by omega⟩) rfl
          have hsE : wo.heap.size + 1 ≤ (wr.alloc (.cells #[.int .i64 j] 3)).heap.size := Nat.le_trans hszr hE.size
          have HFT := hide ft
          have HC1 := hide c1.out
          have HC2 := hide c2.out
          clear ft
          go_wp2_with (at_builtin; refine wpList_append_ow _ rfl (.tmp 28) (.tmp 30) _ rfl intR_fine (wo.heap.size + 1) (wo.heap.size + 1) 3 i0 _ 8 Tryd.underlying27 hi0 ii0 ii1 ii2 rfl (by omega) (.slice U j cu) j _ rfl huE _ _ 1 1 _ rfl hlit (fun _ _ _ h => h) (by simp only [maxLen]; omega) (by omega) hsE ?_; intro V6 w6 ho6 hg6 hat6; obtain ⟨A6, c6, rfl⟩ := ho6.form; have hb6 := below_grown (base := wo.heap.size + 1) hg6 huE.lt hsE; have ct6 : w6.cell? ⟨wo.heap.size, 0, none⟩ = some (.slice U j cu) := (hb6.cell (by simp)).trans ctE; have ft6 : w6.frozen? ⟨wo.heap.size, 0, none⟩ = false := (hb6.frozen (by simp)).trans ((hE.frozen (by exact hszr)).trans HFT.out))
          rw [← upTo_succ] at ho6
          go_roundw
          case rel => exact ⟨j + 1, A6, c6, by omega, by go_num, intPut ho6 _ _ (by simp), put_same ct6, hide (put_off' (by omega) ((hb6.cell (by simp)).trans ((hE.cell (by exact hszr)).trans HC1.out))), hide (put_off' (by omega) ((hb6.cell (by simp)).trans ((hE.cell (by exact hszr)).trans HC2.out))), (put_free _ _ _ _).trans ft6, ((hbr.trans (hE.mono hbr.size)).trans (hb6.mono (by omega))).setCell (by simp) _, by rw [set_size]; exact Nat.le_trans hsE hg6.size⟩
          case measure => (first | omega | (simp [RowKit.intOf]; omega) | (unfold RowKit.intOf; simp; omega) | go_num)
        · obtain rfl : j = d + 1 := by omega
          have hle : ¬ ((d + 1 : Nat) : Int) ≤ (d : Int) := by omega
          have hle2 : ¬ ((d : Int) + 1 ≤ (d : Int)) := by omega
          have c1' := c1.out
          have c2' := c2.out
          obtain ⟨v0, v1, v2, v3, v4, v5, v6⟩ := hsev.out.on hsz hbr
          have hE := alloc_below wr (.cells #[.slice U (d + 1) cu, .int .i64 ((d : Int) + 1), .int .i64 0] 59)
          have hor := ho.below homR_fine hbr
          have hoE := hor.below homR_fine hE
          have hsE : (w.heap.size + 1 + 1) + 1 ≤ (wr.alloc (.cells #[.slice U (d + 1) cu, .int .i64 ((d : Int) + 1), .int .i64 0] 59)).heap.size := Nat.le_trans hsz (Nat.le_trans hbr.size hE.size)
          have hbut : ∀ b, b < (wr.alloc (.cells #[.slice U (d + 1) cu, .int .i64 ((d : Int) + 1), .int .i64 0] 59)).heap.size → wo.heap.size + 1 ≤ b → But (wr.alloc (.cells #[.slice U (d + 1) cu, .int .i64 ((d : Int) + 1), .int .i64 0] 59)) ((w.heap.size + 1 + 1) + 1) (.slice V k cv) b := fun b h1 h2 => ⟨by omega, h1, fun e => by have := (ho.lt b e.symm).2; omega⟩
          have hlit : Sl homR 3 (wr.alloc (.cells #[.slice U (d + 1) cu, .int .i64 ((d : Int) + 1), .int .i64 0] 59)) (But (wr.alloc (.cells #[.slice U (d + 1) cu, .int .i64 ((d : Int) + 1), .int .i64 0] 59)) ((w.heap.size + 1 + 1) + 1) (.slice V k cv)) (some ⟨wr.heap.size, 0, none⟩) 1 1 [newHom d] :=
            lit_hom (x := newHom d) (((hu.below intR_fine hE).new_ intR_fine (Nat.le_refl _) (Nat.le_refl _)).move intR_fine (fun _ _ => rfl) (fun b hb => hbut b hb.2 hb.1)) ⟨by show (-9223372036854775808 : Int) ≤ (d : Int) + 1; omega, by show (d : Int) + 1 ≤ 9223372036854775807; omega⟩ ⟨by show (-9223372036854775808 : Int) ≤ 0; omega, by show (0 : Int) ≤ 9223372036854775807; omega⟩ (hbut _ (by simp) (by omega))
          have x6 : (wr.alloc (.cells #[.slice U (d + 1) cu, .int .i64 ((d : Int) + 1), .int .i64 0] 59)).cell? ⟨(w.heap.size + 1 + 1), 6, none⟩ = some (.slice V k cv) := (hE.cell (by show (w.heap.size + 1 + 1) < _; have := hbr.size; omega)).trans v6
          have hfrE : Hid ((wr.alloc (.cells #[.slice U (d + 1) cu, .int .i64 ((d : Int) + 1), .int .i64 0] 59)).frozen? ⟨(w.heap.size + 1 + 1), 6, none⟩ = false) := hide ((hE.frozen (by show (w.heap.size + 1 + 1) < _; have := hbr.size; omega)).trans ((hbr.frozen (by exact hsz)).trans hfr.out))
          have HSV : Hid (Sev (wr.alloc (.cells #[.slice U (d + 1) cu, .int .i64 ((d : Int) + 1), .int .i64 0] 59)) (w.heap.size + 1 + 1) (.int .i64 1) (.int .i64 0) (.int .i64 0) (.int .i64 1) (.int .i64 0) (.string name) (.slice V k cv)) := hide ((hsev.out.on hsz hbr).on (by have := hbr.size; omega) hE)
          have hb2E := hb.trans ((th hbr hE).mono hb.size)
          clear c1 c2 hbut
          go_wp2_with (at_builtin; refine wpList_append_ow _ rfl (.tmp 34) (.tmp 36) _ rfl homR_fine ((w.heap.size + 1 + 1) + 1) ((w.heap.size + 1 + 1) + 1) 59 e0 _ 40 Tryd.underlying24 he0 ee0 ee1 ee2 rfl (by omega) (.slice V k cv) k _ rfl hoE _ _ 1 1 _ rfl hlit (fun _ _ _ h => h) (by simp only [maxLen]; omega) (by omega) hsE ?_; intro V8 w8 ho8 hg8 hat8; obtain ⟨A8, c8, rfl⟩ := ho8.form; have hb8 := below_grown (base := (w.heap.size + 1 + 1) + 1) hg8 hoE.lt hsE; have ct8 : w8.cell? ⟨(w.heap.size + 1 + 1), 6, none⟩ = some (.slice V k cv) := (hb8.cell (by simp)).trans x6; have ft8 : w8.frozen? ⟨(w.heap.size + 1 + 1), 6, none⟩ = false := (hb8.frozen (by simp)).trans hfrE.out)
          go_roundw
          case rel => exact ⟨k + 1, A8, c8, by omega, by go_num, by rw [List.replicate_succ']; exact homPut ho8 _ _ (by simp) (by simp), hide ((HSV.out.onB (by omega) hb8).six _), hide ((put_free _ _ _ _).trans ft8), (hb2E.trans (hb8.mono (by omega))).setCell (by show W0.heap.size ≤ w.heap.size + 1 + 1; omega) _, by rw [set_size]; exact Nat.le_trans hsE hg8.size⟩
          case measure => (first | omega | (simp [RowKit.intOf]; omega) | (unfold RowKit.intOf; simp; omega) | go_num)
    · obtain rfl : k = z := by omega
      have hzr := HZ0.out.onB (by omega) hb
      have hzu := put7_sev hzr (.int .i64 1) (.int .i64 0) (.int .i64 0) (.int .i64 1) (.int .i64 0) (.string name) (.slice V k cv)
      unfold put7 at hzu
      have HZU := hide hzu
      have hf1 : ∀ j, wo.frozen? ⟨w.heap.size + 1, j, none⟩ = false := fun j => HF0.out _ hb j
      have f0 := hf1 0
      have f1 := hf1 1
      have f2 := hf1 2
      have f3 := hf1 3
      have f4 := hf1 4
      have f5 := hf1 5
      have f6 := hf1 6
      obtain ⟨y0, y1, y2, y3, y4, y5, y6⟩ := hzr
      obtain ⟨v0, v1, v2, v3, v4, v5, v6⟩ := hsev.out
      have hbw : Below w.heap.size w wo := th hb0 hb
      have hsl := put7_new homR_fine (ho.new_ homR_fine (Nat.le_refl _) (Nat.le_refl _)) (show w.heap.size + 1 < w.heap.size + 1 + 1 + 1 by omega) (.int .i64 1) (.int .i64 0) (.int .i64 0) (.int .i64 1) (.int .i64 0) (.string name) (.slice V k cv)
      have HSL := hide (hsl.new_less homR_fine (show w.heap.size ≤ w.heap.size + 1 + 1 + 1 by omega))
      clear hzu hf1 hsl
      go_wp2_with fail
      obtain ⟨u0, u1, u2, u3, u4, u5, u6⟩ := HZU.out
      exact bodyPost_ret (v := .agg #[.int .i64 1, .int .i64 0, .int .i64 0, .int .i64 1, .int .i64 0, .string name, .slice V k cv]) (by simp [results, Tryd.results28, go_sem, u0, u1, u2, u3, u4, u5, u6]) rfl ⟨put7_below hbw (by omega) _ _ _ _ _ _ _, V, cv, rfl, HSL.out⟩

end Go.Proofs.YtdcoholjnlndgaaDoor
