/-
  Plain and rules: []rune(s), string(runes), append(bytes, string...).
  Contracts: label.Bytes, label.Read.
-/
import Derived.Test.YtdcoholjnlndgaaDoorLab
import Derived.Laws.Cover4
import Derived.Laws.IdiomStrings
import Derived.Lib.AppendStr
import Derived.Test.YtdcoholjnlndgaaDoorLit
import Derived.Lib.BufferRead
namespace Go.Proofs.YtdcoholjnlndgaaDoor
open Go.RowKit Go.Lib
set_option linter.unusedVariables false

/-- A string's runes as numbers. -/
def runesI (l : List UInt8) : List Int := (decs l).map fun x => (x.1 : Int)
theorem runesFrom_decs (s : ByteArray) : ∀ (fuel k : Nat) (acc : Array Value), s.size ≤ posN (sL s) k + fuel →
    Conv.runesFrom s fuel (posN (sL s) k) acc = acc ++ (((runesI (sL s)).drop k).map (Value.int .i32)).toArray
  | 0, k, acc, h => by
    have h1 := rune_pos (s := s) k
    have h2 := (rune_end (s := s) (k := k) (by omega)).2
    unfold Conv.runesFrom runesI
    rw [← List.map_drop, List.drop_of_length_le h2]
    simp
  | fuel + 1, k, acc, h => by
    unfold Conv.runesFrom
    by_cases hlt : posN (sL s) k < s.size
    · rw [if_pos hlt]
      obtain ⟨h1, h2, h3⟩ := rune_step hlt
      have hw : 1 ≤ (Utf8.decode s (posN (sL s) k)).2 := by
        have := decodeL_width ((sL s).drop (posN (sL s) k))
        rwa [decodeL_drop] at this
      have ih := runesFrom_decs s fuel (k + 1) (acc.push (.int .i32 (Int.ofNat (Utf8.decode s (posN (sL s) k)).1))) (by omega)
      show Conv.runesFrom s fuel (posN (sL s) k + (Utf8.decode s (posN (sL s) k)).2) (acc.push (.int .i32 (Int.ofNat (Utf8.decode s (posN (sL s) k)).1))) = _
      rw [← h3, ih]
      have hg : (runesI (sL s))[k]? = some ((Utf8.decode s (posN (sL s) k)).1 : Int) := by
        unfold runesI
        rw [List.getElem?_map, h2]
        rfl
      obtain ⟨hk, hg2⟩ := List.getElem?_eq_some_iff.1 hg
      rw [List.drop_eq_getElem_cons hk, hg2]
      apply Array.ext'
      simp
    · rw [if_neg hlt]
      have h2 := (rune_end (s := s) (k := k) hlt).2
      unfold runesI
      rw [← List.map_drop, List.drop_of_length_le h2]
      simp
theorem runesFrom_all (s : ByteArray) : Conv.runesFrom s s.size 0 #[] = ((runesI (sL s)).map (Value.int .i32)).toArray := by
  have h := runesFrom_decs s s.size 0 #[] (by omega)
  rw [posN_zero] at h
  rw [h]
  simp

/-- A rune's bytes. -/
theorem toN (a : Int) (n : Nat) (h : a = (n : Int)) : a.toNat.toUInt8 = UInt8.ofNat n := by subst h; rfl
theorem valid_nat {r : Nat} (h : r < 55296 ∨ (57344 ≤ r ∧ r ≤ 1114111)) : Utf8.valid (r : Int) = true := by
  unfold Utf8.valid
  rw [Bool.or_eq_true, Bool.and_eq_true, Bool.and_eq_true, decide_eq_true_eq, decide_eq_true_eq, decide_eq_true_eq, decide_eq_true_eq]
  omega
theorem encode_1 {r : Nat} (hv : Utf8.valid (r : Int) = true) (h1 : r < 128) : (Utf8.encode (r : Int)).data.toList = [UInt8.ofNat r] := by
  simp only [Utf8.encode, hv, if_true, Int.toNat_natCast, h1]
theorem encode_2 {r : Nat} (hv : Utf8.valid (r : Int) = true) (h1 : ¬ r < 128) (h2 : r < 2048) : (Utf8.encode (r : Int)).data.toList = [UInt8.ofNat (192 + r / 64), UInt8.ofNat (128 + r % 64)] := by
  simp only [Utf8.encode, hv, if_true, Int.toNat_natCast, h1, h2, if_false]
theorem encode_3 {r : Nat} (hv : Utf8.valid (r : Int) = true) (h1 : ¬ r < 128) (h2 : ¬ r < 2048) (h3 : r < 65536) : (Utf8.encode (r : Int)).data.toList = [UInt8.ofNat (224 + r / 4096), UInt8.ofNat (128 + r / 64 % 64), UInt8.ofNat (128 + r % 64)] := by
  simp only [Utf8.encode, hv, if_true, Int.toNat_natCast, h1, h2, h3, if_false]
theorem encode_4 {r : Nat} (hv : Utf8.valid (r : Int) = true) (h1 : ¬ r < 128) (h2 : ¬ r < 2048) (h3 : ¬ r < 65536) : (Utf8.encode (r : Int)).data.toList = [UInt8.ofNat (240 + r / 262144), UInt8.ofNat (128 + r / 4096 % 64), UInt8.ofNat (128 + r / 64 % 64), UInt8.ofNat (128 + r % 64)] := by
  simp only [Utf8.encode, hv, if_true, Int.toNat_natCast, h1, h2, h3, if_false]
theorem encode_bytes (r : Nat) (h : r < 55296 ∨ (57344 ≤ r ∧ r ≤ 1114111)) : (Utf8.encode (r : Int)).data.toList = encodeRune (r : Int) := by
  have hv := valid_nat h
  unfold encodeRune
  by_cases h1 : r < 128
  · rw [encodeRuneZ_one (by omega) (by omega), encode_1 hv h1]
    simp only [List.map_cons, List.map_nil]
    rw [toN _ r rfl]
  · by_cases h2 : r < 2048
    · rw [encodeRuneZ_two (by omega) (by omega), encode_2 hv h1 h2]
      simp only [List.map_cons, List.map_nil]
      rw [toN _ (192 + r / 64) (by omega), toN _ (128 + r % 64) (by omega)]
    · by_cases h3 : r < 65536
      · rw [encodeRuneZ_three (by omega), encode_3 hv h1 h2 h3]
        simp only [List.map_cons, List.map_nil]
        rw [toN _ (224 + r / 4096) (by omega), toN _ (128 + r / 64 % 64) (by omega), toN _ (128 + r % 64) (by omega)]
      · rw [encodeRuneZ_four (by omega) (by omega), encode_4 hv h1 h2 h3]
        simp only [List.map_cons, List.map_nil]
        rw [toN _ (240 + r / 262144) (by omega), toN _ (128 + r / 4096 % 64) (by omega), toN _ (128 + r / 64 % 64) (by omega), toN _ (128 + r % 64) (by omega)]
theorem decode_range (l : List UInt8) : (decodeL l).1 < 55296 ∨ (57344 ≤ (decodeL l).1 ∧ (decodeL l).1 ≤ 1114111) := by
  have k0 := (l.getD 0 0).toNat_lt
  rw [decodeL_N]
  rcases decodeN_shape l.length (l.getD 0 0).toNat (l.getD 1 0).toNat (l.getD 2 0).toNat (l.getD 3 0).toNat with ⟨c, e⟩ | ⟨c1, c2, c3, cv, e⟩ | ⟨c1, c2, c3, c4, cv, cs, e⟩ | ⟨c1, c2, c3, c4, c5, cv, cw, e⟩ | e
  all_goals (rw [e]; dsimp only; omega)
theorem foldl_enc : ∀ (ns : List Int) (s : ByteArray), (ns.foldl (fun r n => r ++ Utf8.encode n) s).data.toList = s.data.toList ++ (ns.map fun n => (Utf8.encode n).data.toList).flatten
  | [], s => by simp
  | n :: ns, s => by
    rw [List.foldl_cons, foldl_enc ns, ByteArray.data_append, Array.toList_append, List.map_cons, List.flatten_cons, List.append_assoc]
/-- The runes of what is right, put together again. -/
theorem runes_back (l : List UInt8) : (∀ x ∈ decs l, ¬ Bad x) → ((runesI l).map fun n => (Utf8.encode n).data.toList).flatten = l := by
  refine decs_ind (Q := fun l => (∀ x ∈ decs l, ¬ Bad x) → ((runesI l).map fun n => (Utf8.encode n).data.toList).flatten = l) (fun _ => ?_) (fun l hne ih h => ?_) l
  · simp [runesI, decs_nil]
  · rw [decs_cons hne] at h
    have h2 := ih (fun x hx => h x (List.mem_cons_of_mem _ hx))
    have hv := h _ (List.mem_cons_self ..)
    unfold runesI at h2 ⊢
    rw [decs_cons hne, List.map_cons, List.map_cons, List.flatten_cons, h2, encode_bytes _ (decode_range l), encode_decode l hne hv, List.take_append_drop]
theorem runesBytes_back {s : ByteArray} (h : ∀ x ∈ decs (sL s), ¬ Bad x) : runesBytes (runesI (sL s)) = s := by
  rw [← mk_sL (runesBytes _)]
  have h1 : sL (runesBytes (runesI (sL s))) = sL s := by
    show (runesBytes _).data.toList = _
    unfold runesBytes
    rw [foldl_enc, runes_back _ h]
    rfl
  rw [h1, mk_sL]

/-- Bytes that are owned, as cells. -/
theorem ow_cells {w : World} {base lo : Nat} {e : TypeId} {V : Value} {n : Nat} {l : List UInt8} (h : Ow byteR 1 w base lo e V n l) : w.ownsRow base e 1 V n (l.map fun b => Value.int .u8 (b.toNat : Int)) := by
  obtain ⟨hl, xs, hx, h1, hel⟩ := h
  have hxl : xs.length = n := by have := hx.1; omega
  have e1 : xs = l.map fun b => Value.int .u8 (b.toNat : Int) := by
    apply List.ext_getElem (by rw [List.length_map, hl, hxl])
    intro i hi hi2
    rw [List.length_map] at hi2
    have hr : (xs.drop (i * 1)).take 1 = [Value.int .u8 (l[i].toNat : Int)] := hel i l[i] (List.getElem?_eq_getElem hi2)
    rw [Nat.mul_one, List.drop_eq_getElem_cons hi, List.take_succ_cons, List.take_zero] at hr
    injection hr with hr _
    rw [hr, List.getElem_map]
  rw [← e1]
  exact hx
theorem cells_ow {w : World} {base lo : Nat} {e : TypeId} {V : Value} {n : Nat} {l : List UInt8} (h : w.ownsRow base e 1 V n (l.map fun b => Value.int .u8 (b.toNat : Int))) : Ow byteR 1 w base lo e V n l := by
  have hl := h.1
  rw [List.length_map, Nat.mul_one] at hl
  refine ⟨hl, _, h, fun u hu => ?_, fun i x hx => ?_⟩
  · obtain ⟨b, _, rfl⟩ := List.mem_map.1 hu
    rfl
  · obtain ⟨hi, rfl⟩ := List.getElem?_eq_some_iff.1 hx
    show (List.drop (i * 1) _).take 1 = _
    rw [Nat.mul_one, List.drop_eq_getElem_cons (by rw [List.length_map]; exact hi), List.take_succ_cons, List.take_zero, List.getElem_map]

/-- append(bytes, string...). -/
theorem wpList_append_str {P : Program} (w : World) {ops : Array Oper} {rest : List Oper} {o : Oper} {a : Act} {Q : Exit → Act → World → Prop} (hgd : o.guard = none) (so x : Operand) (t u : TypeId)
    (ho : o.op = .call { callee := .builtin .append, args := #[so, x], argTypes := #[t, u] })
    (base lo : Nat) (e : TypeId) (i : TypeInfo) (ht : P.underlying t = some (.slice e)) (hu : P.underlying u = some .string) (hi : P.info? e = some i) (hz : i.zero = some (.int .u8 0)) (hsize : i.size = 1) (hby : i.bytes = 1)
    (V : Value) (n : Nat) (l : List UInt8) (hs : a.eval so = V) (hown : Ow byteR 1 w base lo e V n l) (s : ByteArray) (hx : a.eval x = .string s)
    (h63 : n + s.size ≤ 140737488355328) (hbase : base ≤ w.heap.size)
    (h : ∀ V' w', Ow byteR 1 w' base lo e V' (n + s.size) (l ++ sL s) → w.grownBy w' V.ownBlock → wpList P ops Q rest (a.put o.dst V') w') : wpList P ops Q (o :: rest) a w := by
  obtain ⟨V', w', hrun, ho2, hg, _⟩ := run_append_own_string (P := P) w base t u o.type e i ht hu hi hz hsize hby V n _ (ow_cells hown) s (by simp only [maxLen]; omega) h63 hbase
  refine wpList_plain hgd fun K hK => ?_
  unfold Oper.wp execOp
  simp only [ho, resolve, invoke, builtin, Sem.run_bind, Sem.run_pure, Result.andThen_ok, List.map_toArray, List.map_cons, List.map_nil, hs, hx, hrun]
  refine hK _ _ (h V' w' (cells_ow ?_) hg)
  rw [List.map_append]
  exact ho2

end Go.Proofs.YtdcoholjnlndgaaDoor

namespace Go.Proofs.YtdcoholjnlndgaaDoor
open Go.RowKit Go.Lib
set_option linter.unusedVariables false
set_option maxRecDepth 100000

theorem bx_cellL {w w' : World} {cs : Array Value} {e : TypeId} (hb : Below (w.alloc (.cells cs e)).heap.size (w.alloc (.cells cs e)) w') (k : Nat) (u : Value) (h : cs[k]? = some u) : w'.cell? ⟨w.heap.size, k, none⟩ = some u := by
  have h0 : (w.alloc (.cells cs e)).cell? ⟨w.heap.size, k, none⟩ = some u := by
    rw [World.cell?_alloc_at cs e _ _ rfl]
    exact h
  exact (hb.cell (by simp)).trans h0

theorem conv_runes {P : Program} (w : World) (src dst e : TypeId) (s : ByteArray) (hsz : s.size ≤ 65536) (hs : P.underlying src = some .string) (hd : P.underlying dst = some (.slice e)) (he : P.underlying e = some (.int .i32)) :
    ∃ w2 c2, (convert src dst (.string s)).run P w = .ok (.slice (some ⟨w.heap.size, 0, none⟩) (runesI (sL s)).length c2) w2 ∧ Below w.heap.size w w2 ∧
      ∀ W, Below w2.heap.size w2 W → (convert dst src (.slice (some ⟨w.heap.size, 0, none⟩) (runesI (sL s)).length c2)).run P W = .ok (.string (runesBytes (runesI (sL s)))) W := by
  have hl : (runesI (sL s)).length ≤ 65536 := by
    unfold runesI
    rw [List.length_map]
    have h1 := runes_le (sL s)
    rw [sL_len] at h1
    omega
  have hr := run_runes_of_string (P := P) w src dst e s hs hd he (by rw [runesFrom_all]; simp; omega)
  rw [runesFrom_all] at hr
  have hsz2 : ((runesI (sL s)).map (Value.int .i32)).toArray.size = (runesI (sL s)).length := by simp
  rw [hsz2] at hr
  refine ⟨_, _, hr, (Below.refl _ _).drew.alloc (Nat.le_refl _) _, fun W hW => ?_⟩
  rw [run_convert_runes_string W dst src e _ _ _ hd he hs]
  refine run_runesToString W _ _ _ (runesI (sL s)) ?_
  have h1 := run_loadCells_list (P := P) W ⟨w.heap.size, 0, none⟩ ((runesI (sL s)).map (Value.int .i32)) (fun j u hu => ?_)
  · rwa [List.length_map] at h1
  · have hlt : j < (runesI (sL s)).length := by have := (List.getElem?_eq_some_iff.1 hu).1; rwa [List.length_map] at this
    have hadd : (⟨w.heap.size, 0, none⟩ : Addr).add j = ⟨w.heap.size, j, none⟩ := by unfold Addr.add; split <;> simp_all
    rw [hadd]
    show W.cell? ⟨w.drew.heap.size, j, none⟩ = some u
    refine bx_cellL hW j u ?_
    rw [Array.getElem?_append_left (by simpa using hlt)]
    simpa using hu

/-- Bytes read as a string. -/
theorem conv_bs1 {P : Program} {w : World} {A : Option Addr} {n c : Nat} {l : List UInt8} (h : Bs w A n c l) (src dst e : TypeId) (hs : P.underlying src = some (.slice e)) (he : P.underlying e = some (.int .u8)) (hd : P.underlying dst = some .string) :
    (convert src dst (.slice A n c)).run P w = .ok (.string (mkS l)) w := by
  have hl := h.len
  by_cases h0 : n = 0
  · subst h0
    have hl0 : l = [] := List.eq_nil_of_length_eq_zero hl
    subst hl0
    cases A with
    | none => exact Lib.run_convert_nil_bytes w src dst e c hs he hd
    | some a => exact run_convert_bytes_back w src dst e a c [] hs he hd (fun j hj => absurd hj (by simp))
  · obtain ⟨ad, e1, _, hc⟩ := h.at0 (by omega)
    subst e1
    subst hl
    refine run_convert_bytes_back w src dst e ad c l hs he hd (fun j hj => ?_)
    obtain ⟨cs, hr, hat⟩ := hc j l[j] (List.getElem?_eq_getElem hj)
    have hr : cs = [.int .u8 (l[j].toNat : Int)] := hr
    subst hr
    have h1 := hat 0 _ rfl
    rwa [Nat.mul_one, add_zero'] at h1

def LBytes (l b : List UInt8) (err : Int) : Prop := (labE l = 0 ∧ err = 0 ∧ b = labB l) ∨ (labE l ≠ 0 ∧ err = labE l ∧ b = [])
def LBytesPost (w : World) (l : List UInt8) (e : Ending) (w' : World) : Prop := Below w.heap.size w w' ∧ ∃ V n c b err, e = .returned (.tuple #[.slice V n c, .int .i64 err]) ∧ Ow byteR 1 w' w.heap.size 0 5 (.slice V n c) n b ∧ LBytes l b err
theorem lit_own {w : World} {e : TypeId} {v : Int} {b : UInt8} (hv : v = (b.toNat : Int)) (lo : Nat) : Ow byteR 1 (w.alloc (.cells #[.int .u8 v] e)) w.heap.size lo e (.slice (some ⟨w.heap.size, 0, none⟩) 1 1) 1 [b] := by
  subst hv
  exact cells_ow (World.ownsRow_lit w #[.int .u8 (b.toNat : Int)] 1 (Nat.le_refl _) (by simp only [maxLen]; omega) rfl)

/-- What label.Read tells. -/
def LRead (b : List UInt8) (t : List UInt8) (k : Int) (err : Int) : Prop := (∃ l, readLab b = some l ∧ t = l ∧ k = 1 + (l.length : Int) ∧ err = 0) ∨ (readLab b = none ∧ t = [] ∧ k = 0 ∧ err = 4)
def LReadPost (w : World) (b : List UInt8) (e : Ending) (w' : World) : Prop := Below w.heap.size w w' ∧ ∃ t k err, e = .returned (.tuple #[.string (mkS t), .int .i64 k, .int .i64 err]) ∧ LRead b t k err

end Go.Proofs.YtdcoholjnlndgaaDoor
