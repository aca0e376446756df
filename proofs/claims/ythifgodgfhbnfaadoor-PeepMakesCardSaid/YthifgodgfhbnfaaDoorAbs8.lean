/- append, conversions between texts and bytes; no condition. -/
import Derived.Test.YthifgodgfhbnfaaDoorAbs7
import Derived.Laws.AppendOwn
namespace Go.Abs
open Go

/-- an element's type: its bytes -/
def elBytes (P : Program) (t : TypeId) : Option Nat :=
  match P.underlying t with
  | some (.slice e) => (P.info? e).map (·.bytes)
  | _ => none

/-- what is appended -/
def asource (P : Program) (tX : TypeId) (zero : AV) (sz : Nat) (x : AV) (F : Nat → FSt) (K : List AV → Prop) : Prop :=
  match x with
  | .int _ n => (intOf? P tX).isSome = true ∧ 0 ≤ n ∧ n < 2 ^ 40 ∧ K (List.replicate n.toNat zero)
  | .nilsl => (elOf P tX).isSome = true ∧ K []
  | .sl φ s ys => elOf P tX = some s ∧ s = sz ∧ Readable F φ ∧ K ys
  | .str bs => isStr P tX = true ∧ sz = 1 ∧ K (bs.map fun b => .int .u8 b.toNat)
  | _ => False

/-- the model's own reading of it: how many, and their cells -/
structure Src (P : Program) (M : Mp) (F : Nat → FSt) (w : World) (e tX : TypeId) (sz : Nat) (x' : Value) (ys : List AV) (zeros : Bool) (new : Array Value) : Prop where
  typ : ∃ d, P.underlying tX = some d ∧ (zeros = true ↔ ∃ k, d = .int k)
  len : ∀ w', zeros = false → (Builtin.lenOf x').run P w' = .ok ys.length w'
  first : ∀ w', w'.heap = w.heap → zeros = false → (Builtin.firstCells sz ys.length x').run P w' = .ok new w'
  num : zeros = true → ∃ k, x' = .int k ys.length ∧ ys.length < 2 ^ 40
  fill : ∀ zv, zeros = true → ∀ w', (zeroValue e).run P w' = .ok zv w' → new = if ys.length * sz = 0 then #[] else Builtin.zeroCells zv.cells ys.length
  cells : Cells M F w (flat ys) new

theorem elOf_size {P : Program} {t sz e} (h : elOf P t = some sz) (hu : P.underlying t = some (.slice e)) : szOf P e = some sz := by
  unfold elOf at h; rw [hu] at h; exact h

theorem mul_toNat (n sz : Nat) : n * sz = 0 ↔ n = 0 ∨ sz = 0 := Nat.mul_eq_zero

theorem zeroCells_eq (z : Array Value) (n : Nat) : Builtin.zeroCells z n = (Array.range (n * z.size)).map fun i => z[i % z.size]! := rfl

theorem asource_sound {P : Program} {tX zero sz x F} {K : List AV → Prop} {e : TypeId} (hz : zeroOf P e = some zero) (hzk : zero.known = true) (hzl : zero.cells.length = sz)
    (h : asource P tX zero sz x F K) :
    ∃ ys, K ys ∧ ∀ M w x', VR M F w x x' → ∃ zeros new, Src P M F w e tX sz x' ys zeros new := by
  unfold asource at h
  split at h
  · rename_i k n
    obtain ⟨hi, h0, h1, hK⟩ := h
    obtain ⟨k', hk'⟩ := Option.isSome_iff_exists.1 hi
    refine ⟨_, hK, fun M w x' hx => ?_⟩
    obtain ⟨zv, hzv, rfl⟩ := zeroOf_spec hz w
    have hzr := ofVal_VR M F w zv
    have hcz := Cells.zeros hzr hzk hzl n.toNat
    have hzs : zv.cells.size = sz := by rw [(hzr.cells_rel hzk).1, hzl]
    refine ⟨true, (Array.range (n.toNat * sz)).map fun i => zv.cells[i % zv.cells.size]!, ⟨⟨_, intOf?_spec hk', by simp⟩, by simp, by simp, fun _ => ⟨k, ?_, by simp; omega⟩, ?_, hcz⟩⟩
    · rw [hx.int_inv]; simp; omega
    · intro zv' _ w' hw'
      have : zv' = zv := by
        unfold zeroOf at hz
        have hzv2 := hzv
        unfold zeroValue at hw' hzv2
        cases hi2 : P.info? e with
        | none => simp [typeInfo, hi2] at hw'
        | some i =>
          simp [typeInfo, hi2] at hw' hzv2
          cases hiz : i.zero with
          | none => simp [hiz] at hw'
          | some u => simp [hiz] at hw' hzv2; rw [← hw', ← hzv2]
      subst this
      simp only [List.length_replicate]
      split
      · rename_i h0'
        have : n.toNat * sz = 0 := h0'
        rw [this, show Array.range 0 = #[] from rfl, Array.map_empty]
      · rw [zeroCells_eq, hzs]
  · obtain ⟨he, hK⟩ := h
    obtain ⟨s, he⟩ := Option.isSome_iff_exists.1 he
    obtain ⟨e', hu, hs⟩ := elOf_spec he
    refine ⟨_, hK, fun M w x' hx => ⟨false, #[], ⟨⟨_, hu, by simp⟩, fun w' _ => ?_, fun w' _ _ => ?_, by simp, by simp, ⟨by simp [flat], by simp [flat]⟩⟩⟩⟩
    · rw [nilsl_inv hx]; simp [Builtin.lenOf]
    · rw [nilsl_inv hx]; simp [Builtin.firstCells]
  · rename_i φ s ys
    obtain ⟨he, rfl, hrd, hK⟩ := h
    obtain ⟨e', hu, hs⟩ := elOf_spec he
    refine ⟨_, hK, fun M w x' hx => ?_⟩
    cases hx with
    | slz b sz a => exact ⟨false, #[], ⟨⟨_, hu, by simp⟩, fun w' _ => by simp [Builtin.lenOf], fun w' hw' _ => by have := run_loadCells_list (P := P) w' a [] (by simp); simpa [Builtin.firstCells] using this, by simp, by simp, ⟨by simp [flat], by simp [flat]⟩⟩⟩
    | sl _ _ _ B off cap cs hcap hlit hsz hm hc hv =>
    have hfl := flat_length s ys hsz
    refine ⟨false, ((List.range (flat ys).length).map cs).toArray, ⟨⟨_, hu, by simp⟩, fun w' _ => by simp [Builtin.lenOf], fun w' hw' _ => ?_, by simp, by simp, ?_⟩⟩
    · simp only [Builtin.firstCells]
      have := run_loadCells_list (P := P) w' ⟨B, off, none⟩ ((List.range (flat ys).length).map cs) (fun j v hj => by
        obtain ⟨h1, rfl⟩ := List.getElem?_eq_some_iff.1 hj
        simp at h1
        rw [addr_add, cell?_of_heap (w := w) (by rw [hw'])]
        simp only [List.getElem_map, List.getElem_range]
        exact hc hrd j h1)
      simp only [List.length_map, List.length_range, hfl] at this
      rw [this, hfl]
    · refine Cells.of (by simp) (fun j h1 h2 => ?_)
      simpa using hv hrd j h1
  · rename_i bs
    obtain ⟨hs, rfl, hK⟩ := h
    refine ⟨_, hK, fun M w x' hx => ?_⟩
    obtain ⟨b, rfl, rfl⟩ := hx.str_inv
    refine ⟨false, (b.data.map fun b => .int .u8 b.toNat), ⟨⟨_, isStr_spec hs, by simp⟩, fun w' _ => ?_, fun w' _ _ => ?_, by simp, by simp, ?_⟩⟩
    · simp [Builtin.lenOf]
    · have hlen : (b.data.toList.map fun c => AV.int .u8 c.toNat).length = b.size := by simp
      rw [hlen]
      have hb : b.extract 0 b.size = b := by simp
      simp [Builtin.firstCells, hb]
    · refine ⟨?_, fun j v hj => ?_⟩
      · rw [flat_length 1 _ (by intro x hx; simp at hx; obtain ⟨c, _, rfl⟩ := hx; rfl)]; simp
      · have : flat (b.data.toList.map fun c => AV.int .u8 c.toNat) = b.data.toList.map fun c => AV.int .u8 c.toNat := by
          simp [flat, AV.cells, List.flatMap_map]
          induction b.data.toList with
          | nil => rfl
          | cons a l ih => simp [List.flatMap_cons, ih]
        rw [this] at hj
        obtain ⟨h1, rfl⟩ := List.getElem?_eq_some_iff.1 hj
        simp at h1
        refine ⟨.int .u8 (b.data[j]).toNat, ?_, ?_⟩
        · rw [Array.getElem?_map, Array.getElem?_eq_getElem (by simpa using h1)]; rfl
        · simp; exact .int ..
  · exact h.elim

theorem wrap_nat {n : Nat} (h : n < 2 ^ 62) : IntKind.i64.wrap (n : Int) = n := by
  have e : (n : Int) % (2 ^ IntKind.i64.bits : Int) = n := by
    show (n : Int) % (2 ^ 64 : Int) = n
    omega
  simp only [IntKind.wrap, e]
  rw [if_neg]
  simp [IntKind.bits, IntKind.signed]
  omega

theorem run_append_fit {P : Program} {tS tX e : TypeId} {sz : Nat} (hu : P.underlying tS = some (.slice e)) (hs : szOf P e = some sz) {i : TypeInfo} (hi : P.info? e = some i) {zv : Value} (hz : i.zero = some zv)
    {M F} {w : World} {x' : Value} {ys zeros new} (hsrc : Src P M F w e tX sz x' ys zeros new) (hb : zeros = true → ys.length * i.bytes ≤ 2 ^ 47)
    {B off len cap : Nat} (hfit : len + ys.length ≤ cap) (hc : ∀ j, j < new.toList.length → (w.cell? ⟨B, off + len * sz + j, none⟩).isSome = true)
    (hf : ∀ j, j < new.toList.length → w.frozen? ⟨B, off + len * sz + j, none⟩ = false) (h1 : ∀ v ∈ new.toList, v.oneCell' = true) (ty : TypeId) :
    (Builtin.append_ #[tS, tX] ty #[.slice (some ⟨B, off, none⟩) len cap, x']).run P w = .ok (.slice (some ⟨B, off, none⟩) (len + ys.length) cap) (w.setCells B (off + len * sz) new.toList) := by
  have hst := run_storeCells_cells (P := P) B (off + len * sz) new.toList 0 w (by simpa using hc) (by simpa using hf) h1
  rw [Nat.add_zero] at hst
  have hzv : ∀ w', (zeroValue e).run P w' = .ok zv w' := fun w' => by simp [zeroValue, typeInfo, hi, hz]
  have hti : ∀ w', (typeInfo e).run P w' = .ok i w' := fun w' => by simp [typeInfo, hi]
  obtain ⟨d, hd, hzi⟩ := hsrc.typ
  have ea : (#[tS, tX] : Array TypeId)[0]? = some tS := rfl
  have eb : (#[tS, tX] : Array TypeId)[1]? = some tX := rfl
  have ec : (#[Value.slice (some ⟨B, off, none⟩) len cap, x'] : Array Value)[0]? = some (.slice (some ⟨B, off, none⟩) len cap) := rfl
  have ed : (#[Value.slice (some ⟨B, off, none⟩) len cap, x'] : Array Value)[1]? = some x' := rfl
  unfold Builtin.append_
  rw [ea, eb, ec, ed]
  simp only [Sem.run_bind, run_underlying hu, run_underlying hd, run_sizeOf' hs, Result.andThen_ok, Sem.run_pure]
  cases zeros with
  | false =>
    cases d
    case int k => exact absurd (hzi.2 ⟨_, rfl⟩) (by simp)
    all_goals
      simp only [Bool.false_eq_true, if_false, hsrc.len w rfl, Result.andThen_ok, Sem.run_ite, hfit, if_true, Bool.not_false, Sem.run_bind, hsrc.first w rfl rfl, addr_add, hst, Sem.run_pure]
  | true =>
    obtain ⟨k, rfl⟩ := hzi.1 rfl
    obtain ⟨k', rfl, hlt⟩ := hsrc.num rfl
    have hw : IntKind.i64.wrap (ys.length : Int) = ys.length := wrap_nat (by omega)
    have hb' := hb rfl
    have hb2 : ¬ ((ys.length : Int) * (i.bytes : Int) > 2 ^ 48) := by
      have : ((ys.length * i.bytes : Nat) : Int) ≤ 2 ^ 47 := by exact_mod_cast hb'
      rw [Int.natCast_mul] at this
      omega
    have hnew := hsrc.fill zv rfl w (hzv w)
    have h0 : ¬ ((ys.length : Int) < 0) := by omega
    simp only [if_true, asInt, asIntOf, Sem.run_bind, Sem.run_pure, Result.andThen_ok, hw, Sem.run_ite, if_neg h0, hti, if_neg hb2, Int.toNat_natCast, hfit, Bool.not_true, Bool.false_eq_true, if_false]
    by_cases hz0 : ys.length * sz = 0
    · rw [if_pos hz0] at hnew
      subst hnew
      simp only [if_pos hz0, Result.andThen_ok, addr_add]
      rfl
    · rw [if_neg hz0] at hnew
      subst hnew
      simp only [if_neg hz0, hzv, Result.andThen_ok, addr_add, hst]

theorem run_append_grow {P : Program} {tS tX e : TypeId} {sz : Nat} (hu : P.underlying tS = some (.slice e)) (hs : szOf P e = some sz) {i : TypeInfo} (hi : P.info? e = some i) {zv : Value} (hz : i.zero = some zv)
    {M F} {w : World} {x' : Value} {ys zeros new} (hsrc : Src P M F w e tX sz x' ys zeros new) {base : Option Addr} {len cap : Nat} (hfit : ¬ len + ys.length ≤ cap) (hbound : (len + ys.length) * i.bytes ≤ 2 ^ 47)
    (hpos : i.bytes ≠ 0) {old : Array Value} (hold : ∀ w', w'.heap = w.heap → (Builtin.firstCells sz len (.slice base len cap)).run P w' = .ok old w') (ty : TypeId) :
    ∃ newCap w', len + ys.length ≤ newCap ∧ (Builtin.append_ #[tS, tX] ty #[.slice base len cap, x']).run P w = .ok (.slice (some ⟨w.heap.size, 0, none⟩) (len + ys.length) newCap) w' ∧
      w'.heap = w.heap.push (.cells (old ++ new ++ Builtin.zeroCells zv.cells (newCap - (len + ys.length))) e) ∧ SameIO w w' := by
  have hzv : ∀ w', (zeroValue e).run P w' = .ok zv w' := fun w' => by simp [zeroValue, typeInfo, hi, hz]
  have hti : ∀ w', (typeInfo e).run P w' = .ok i w' := fun w' => by simp [typeInfo, hi]
  obtain ⟨d, hd, hzi⟩ := hsrc.typ
  have hcap : cap < len + ys.length := by omega
  have hgrow : ¬ (Builtin.nextslicecap (len + ys.length) cap * i.bytes > 2 ^ 48) := by
    have := growslice_fits hcap hbound; omega
  have hlen47 : len + ys.length ≤ 2 ^ 47 := by
    have : (len + ys.length) * 1 ≤ (len + ys.length) * i.bytes := Nat.mul_le_mul_left _ (by omega)
    omega
  have hmax : ¬ (((len + ys.length : Nat) : Int) > IntKind.i64.max) := by simp [IntKind.max, IntKind.signed, IntKind.bits]; omega
  have ea : (#[tS, tX] : Array TypeId)[0]? = some tS := rfl
  have eb : (#[tS, tX] : Array TypeId)[1]? = some tX := rfl
  have ec : (#[Value.slice base len cap, x'] : Array Value)[0]? = some (.slice base len cap) := rfl
  have ed : (#[Value.slice base len cap, x'] : Array Value)[1]? = some x' := rfl
  have hforced : (Question.appendCap (len + ys.length) cap e).forced = false := rfl
  generalize hcut : (Question.appendCap (len + ys.length) cap e).cut (w.tape w.drawn (.appendCap (len + ys.length) cap e)) = newCap
  have hle : len + ys.length ≤ newCap := by rw [← hcut]; exact Nat.le_add_right _ _
  refine ⟨newCap, { w with drawn := w.drawn + 1, heap := w.heap.push (.cells (old ++ new ++ Builtin.zeroCells zv.cells (newCap - (len + ys.length))) e) }, hle, ?_, rfl, ⟨rfl, rfl, rfl⟩⟩
  unfold Builtin.append_
  rw [ea, eb, ec, ed]
  simp only [Sem.run_bind, run_underlying hu, run_underlying hd, run_sizeOf' hs, Result.andThen_ok, Sem.run_pure]
  cases zeros with
  | false =>
    cases d
    case int k => exact absurd (hzi.2 ⟨_, rfl⟩) (by simp)
    all_goals
      simp only [Bool.false_eq_true, if_false, hsrc.len w rfl, Result.andThen_ok, Sem.run_ite, hfit, Bool.not_false, if_true, Sem.run_bind, hti, hmax, false_and, hgrow, run_choose, hforced, hcut, run_askRoom, Sem.run_pure]
      simp only [hold { w with drawn := w.drawn + 1 } rfl, Result.andThen_ok, hsrc.first { w with drawn := w.drawn + 1 } rfl rfl, hzv, newRow, run_newObj, Sem.run_bind, Sem.run_pure]
  | true =>
    obtain ⟨k, rfl⟩ := hzi.1 rfl
    obtain ⟨k', rfl, hlt⟩ := hsrc.num rfl
    have hw : IntKind.i64.wrap (ys.length : Int) = ys.length := wrap_nat (by omega)
    have hb2 : ¬ ((ys.length : Int) * (i.bytes : Int) > 2 ^ 48) := by
      have h1 : ys.length * i.bytes ≤ (len + ys.length) * i.bytes := Nat.mul_le_mul_right _ (by omega)
      have : ((ys.length * i.bytes : Nat) : Int) ≤ 2 ^ 47 := by exact_mod_cast Nat.le_trans h1 hbound
      rw [Int.natCast_mul] at this
      omega
    have h0 : ¬ ((ys.length : Int) < 0) := by omega
    simp only [if_true, asInt, asIntOf, Sem.run_bind, Sem.run_pure, Result.andThen_ok, hw, Sem.run_ite, if_neg h0, hti, if_neg hb2, Int.toNat_natCast, hfit, Bool.not_true, Bool.false_eq_true, if_false, hmax, false_and,
      hgrow, run_choose, hforced, hcut, run_askRoom]
    simp only [hold { w with drawn := w.drawn + 1 } rfl]
    by_cases hz0 : ys.length * sz = 0
    · have hnew := hsrc.fill zv rfl w (hzv w)
      rw [if_pos hz0] at hnew
      simp only [if_pos hz0, Result.andThen_ok, hzv, newRow, run_newObj, Sem.run_bind, Sem.run_pure, hnew]
    · have hnew := hsrc.fill zv rfl w (hzv w)
      rw [if_neg hz0] at hnew
      simp only [if_neg hz0, hzv, Result.andThen_ok, newRow, run_newObj, Sem.run_bind, Sem.run_pure, hnew]

end Go.Abs
