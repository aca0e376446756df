/- The quiet operations' abstract meaning is borne out by the model: parts of slices, structs and slices that are built; no condition. -/
import Derived.Test.YthifgodgfhbnfaaDoorAbs4
namespace Go.Abs
open Go

theorem optInt_some {α : Operand → AV} {d n : Int} {x : Operand} (h : optInt α d (some x) = some n) : ∃ k, α x = .int k n := by
  unfold optInt at h
  split at h
  · rename_i h'; cases h'
  · rename_i y hy
    cases hy
    split at h
    · rename_i k m hx; simp at h; subst h; exact ⟨k, hx⟩
    · cases h

theorem run_sliceBound {P : Program} {w : World} {k n} {y : Nat} {code} (h0 : 0 ≤ n) (h1 : n ≤ (y : Int)) :
    (Instr.sliceBound (.int k n) y code).run P w = .ok n.toNat w := by
  simp [Instr.sliceBound, asIntOf, h0, h1]

theorem run_sliceBounds {P : Program} {M F w} {α : Operand → AV} {ρ : Operand → Value} {isS : Bool} {len cap : Nat} {lo hi mx : Option Operand} {l h m : Int}
    (hl : optInt α 0 lo = some l) (hh : optInt α len hi = some h) (hm : optInt α len mx = some m) (b0 : 0 ≤ l) (b1 : l ≤ h) (b2 : h ≤ m) (b3 : m ≤ len) (hc : len ≤ cap)
    (hmx : mx.isSome → hi.isSome) (vl : ∀ x, lo = some x → VR M F w (α x) (ρ x)) (vh : ∀ x, hi = some x → VR M F w (α x) (ρ x)) (vm : ∀ x, mx = some x → VR M F w (α x) (ρ x)) :
    (Instr.sliceBounds isS len cap (lo.map ρ) (hi.map ρ) (mx.map ρ)).run P w = .ok (l.toNat, h.toNat, if mx.isSome then m.toNat else cap) w := by
  have e1 : ∀ x, lo = some x → ∃ k, ρ x = .int k l := by
    rintro x rfl; obtain ⟨k, hk⟩ := optInt_some hl; have := vl x rfl; rw [hk] at this; exact ⟨k, this.int_inv⟩
  have e2 : ∀ x, hi = some x → ∃ k, ρ x = .int k h := by
    rintro x rfl; obtain ⟨k, hk⟩ := optInt_some hh; have := vh x rfl; rw [hk] at this; exact ⟨k, this.int_inv⟩
  have e3 : ∀ x, mx = some x → ∃ k, ρ x = .int k m := by
    rintro x rfl; obtain ⟨k, hk⟩ := optInt_some hm; have := vm x rfl; rw [hk] at this; exact ⟨k, this.int_inv⟩
  have f1 : lo = none → l = 0 := by rintro rfl; simp [optInt] at hl; omega
  have f2 : hi = none → h = len := by rintro rfl; simp [optInt] at hh; omega
  cases mx with
  | none =>
    cases hi with
    | none =>
      have g2 := f2 rfl
      cases lo with
      | none =>
        have g1 := f1 rfl
        simp [Instr.sliceBounds, g1, g2]
      | some x =>
        obtain ⟨k, hk⟩ := e1 x rfl
        simp [Instr.sliceBounds, g2, hk, run_sliceBound b0 (show l ≤ ((len : Nat) : Int) by omega)]
    | some y =>
      obtain ⟨ky, hky⟩ := e2 y rfl
      have r2 := fun c => run_sliceBound (P := P) (w := w) (k := ky) (n := h) (y := cap) (code := c) (by omega) (by omega)
      cases lo with
      | none =>
        have g1 := f1 rfl
        simp [Instr.sliceBounds, g1, hky, r2]
      | some x =>
        obtain ⟨k, hk⟩ := e1 x rfl
        simp [Instr.sliceBounds, hky, hk, r2, run_sliceBound b0 (show l ≤ ((h.toNat : Nat) : Int) by omega)]
  | some z =>
    obtain ⟨kz, hkz⟩ := e3 z rfl
    have r3 := fun c => run_sliceBound (P := P) (w := w) (k := kz) (n := m) (y := cap) (code := c) (by omega) (by omega)
    cases hi with
    | none => simp at hmx
    | some y =>
      obtain ⟨ky, hky⟩ := e2 y rfl
      have r2 := fun c => run_sliceBound (P := P) (w := w) (k := ky) (n := h) (y := m.toNat) (code := c) (by omega) (by omega)
      cases lo with
      | none =>
        have g1 := f1 rfl
        simp [Instr.sliceBounds, g1, hky, hkz, r2, r3]
      | some x =>
        obtain ⟨k, hk⟩ := e1 x rfl
        simp [Instr.sliceBounds, hky, hkz, hk, r2, r3, run_sliceBound b0 (show l ≤ ((h.toNat : Nat) : Int) by omega)]

theorem Mem.cut {M F w φ B off n b} (h : Mem M F w φ B off n) : Mem M F w (cut φ b) B off n := by
  cases φ <;> exact h

theorem readable_cut {F φ b} (h : Readable F (cut φ b)) : Readable F φ := by
  cases φ <;> exact h

theorem full_cut {φ b} : (cut φ b).full = b := by cases φ <;> rfl

theorem Mem.zero {M F w φ B off n off'} (h : Mem M F w φ B off n) : Mem M F w φ B off' 0 := by
  cases φ with
  | stat b => exact h
  | fam f b => exact ⟨h.1, fun hd => ⟨(h.2 hd).1, fun j hj => absurd hj (Nat.not_lt_zero _)⟩⟩

theorem flat_take (sz : Nat) : ∀ (xs : List AV) (i : Nat), (∀ x ∈ xs, x.cells.length = sz) → (flat xs).take (i * sz) = flat (xs.take i)
  | xs, 0, _ => by simp [flat]
  | [], i + 1, _ => by simp [flat]
  | x :: xs, i + 1, h => by
    have h1 := h x (by simp)
    have h2 := flat_take sz xs i (fun y hy => h y (by simp [hy]))
    simp only [flat, List.flatMap_cons, List.take_succ_cons] at *
    rw [← h2, Nat.add_mul, Nat.one_mul, Nat.add_comm, ← h1, List.take_append]
    simp
    exact List.take_of_length_le (by omega)

/-- a slice of a slice -/
theorem VR.sub {M F w φ sz xs ad c cap} (hv : VR M F w (.sl φ sz xs) c) (hcc : c = .slice (some ad) xs.length cap) {l h m : Nat} (hlh : l ≤ h) (hhm : h ≤ m) (hm : m ≤ cap) (hx : h ≤ xs.length)
    {b : Bool} (hlit : b = true → m = h) :
    VR M F w (.sl (cut φ b) sz ((xs.take h).drop l)) (.slice (if m = l then some ad else some (ad.add (l * sz))) (h - l) (m - l)) := by
  cases hv with
  | slz b' sz' a' =>
    cases hcc
    have e1 : m = 0 := by omega
    have e2 : l = 0 := by omega
    have e3 : h = 0 := by omega
    subst e1 e2 e3
    cases b' <;> simpa [cut] using VR.slz _ sz ad
  | sl _ _ _ B off _ cs hcap hl hsz hmem hc hv' =>
  cases hcc
  rw [addr_add]
  have hlen : ((xs.take h).drop l).length = h - l := by simp; omega
  have hflat : flat ((xs.take h).drop l) = ((flat xs).take (h * sz)).drop (l * sz) := by
    rw [flat_take sz xs h hsz, flat_drop sz _ l (fun x hx => hsz x (List.mem_of_mem_take hx))]
  have hfl : (flat xs).length = xs.length * sz := flat_length sz xs hsz
  have hsz' : ∀ x ∈ (xs.take h).drop l, x.cells.length = sz := fun x hx => hsz x (List.mem_of_mem_take (List.mem_of_mem_drop hx))
  have hcap' : ((xs.take h).drop l).length ≤ m - l := by rw [hlen]; omega
  have hlit' : (cut φ b).full = true → m - l = ((xs.take h).drop l).length := by
    intro e
    rw [full_cut] at e
    rw [hlen, hlit e]
  rw [← hlen]
  split
  · rename_i hml
    have hz : (xs.take h).drop l = [] := by apply List.eq_nil_of_length_eq_zero; rw [hlen]; omega
    have hcz : m - l = 0 := by omega
    rw [hcz, hz]
    refine .sl _ _ _ B off 0 cs (by simp) (by intro; simp) (by simp) ?_ (fun _ j hj => by simp [flat] at hj) (fun _ j hj => by simp [flat] at hj)
    rw [Nat.zero_mul]
    exact hmem.cut.zero
  · refine .sl _ _ _ B (off + l * sz) (m - l) (fun j => cs (l * sz + j)) hcap' hlit' hsz' ?_ (fun hr j hj => ?_) (fun hr j hj => ?_)
    · refine hmem.cut.sub ?_
      have : l * sz + (m - l) * sz = m * sz := by rw [← Nat.add_mul]; congr 1; omega
      rw [this]; exact Nat.mul_le_mul_right _ hm
    · rw [Nat.add_assoc]
      refine hc (readable_cut hr) (l * sz + j) ?_
      rw [hflat] at hj; simp at hj; omega
    · have hj2 := hj
      rw [hflat] at hj2
      simp at hj2
      have h3 := hv' (readable_cut hr) (l * sz + j) (by omega)
      have : (flat ((xs.take h).drop l))[j] = (flat xs)[l * sz + j]'(by omega) := by
        simp only [hflat, List.getElem_drop, List.getElem_take]
      rw [this]; exact h3

theorem aslice_sound {P : Program} {α t x lo hi mx} {K : AV → Prop} (h : aslice P α t x lo hi mx K) :
    ∃ v, K v ∧ ∀ M F w x' ρ, VR M F w x x' → (∀ y, lo = some y → VR M F w (α y) (ρ y)) → (∀ y, hi = some y → VR M F w (α y) (ρ y)) → (∀ y, mx = some y → VR M F w (α y) (ρ y)) →
      ∃ v', (Instr.sliceAt t x' (lo.map ρ) (hi.map ρ) (mx.map ρ)).run P w = .ok v' w ∧ VR M F w v v' := by
  unfold aslice at h
  split at h
  · rename_i s
    obtain ⟨hs, rfl, l, hh, m, h1, h2, h3, b0, b1, b2, b3, hmx, hK⟩ := h
    refine ⟨_, hK, fun M F w x' ρ hx vl vh vm => ?_⟩
    obtain ⟨b, rfl, rfl⟩ := hx.str_inv
    have hsz : b.data.toList.length = b.size := rfl
    rw [hsz] at h2 h3 b3
    have hb := run_sliceBounds (P := P) (isS := false) (cap := b.size) h1 h2 h3 b0 b1 b2 b3 (Nat.le_refl _) hmx vl vh vm
    refine ⟨.string (b.extract l.toNat hh.toNat), ?_, VR.str' ?_⟩
    · simp only [Option.map_none] at hb
      simp [Instr.sliceAt, Instr.slice, run_underlying (isStr_spec hs), hb]
    · simp [ByteArray.data_extract, List.drop_take]
  · obtain ⟨he, l, hh, m, h1, h2, h3, b0, b1, b2, b3, hmx, hK⟩ := h
    obtain ⟨sz, he⟩ := Option.isSome_iff_exists.1 he
    obtain ⟨e, hu, hs⟩ := elOf_spec he
    refine ⟨_, hK, fun M F w x' ρ hx vl vh vm => ?_⟩
    rw [nilsl_inv hx]
    have hb := run_sliceBounds (P := P) (isS := true) (cap := 0) h1 h2 h3 b0 b1 b2 b3 (Nat.le_refl _) hmx vl vh vm
    have z1 : l.toNat = 0 := by omega
    have z2 : hh.toNat = 0 := by omega
    have z3 : m.toNat = 0 := by omega
    refine ⟨.slice none 0 0, ?_, .nilsl⟩
    rw [z1, z2, z3] at hb
    simp [Instr.sliceAt, Instr.slice, run_underlying hu, hb, run_sizeOf' hs]
  · rename_i φ sz xs
    obtain ⟨he, l, hh, m, h1, h2, h3, b0, b1, b2, b3, hmx, hK⟩ := h
    obtain ⟨e, hu, hs⟩ := elOf_spec he
    refine ⟨_, hK, fun M F w x' ρ hx vl vh vm => ?_⟩
    obtain ⟨ad, cap, rfl, hcap⟩ := sl_inv hx
    have hb := run_sliceBounds (P := P) (isS := true) (cap := cap) h1 h2 h3 b0 b1 b2 b3 hcap hmx vl vh vm
    refine ⟨_, ?_, hx.sub rfl (l := l.toNat) (h := hh.toNat) (m := if mx.isSome then m.toNat else cap) (by omega) (by split <;> omega) (by split <;> omega) (by omega) ?_⟩
    · simp [Instr.sliceAt, Instr.slice, run_underlying hu, hb, run_sizeOf' hs]
    · intro hb'
      split at hb'
      · rename_i hm'; rw [if_pos hm']; simpa using hb'
      · rename_i hm'
        rw [if_neg hm']
        simp at hb'
        have hl : cap = xs.length := by cases hx with | slz => rfl | sl _ _ _ _ _ _ _ _ hl => exact hl hb'.1
        omega
  · rename_i o off sz len
    obtain ⟨he, rfl, l, hh, m, h1, h2, h3, b0, b1, b2, b3, hmx, hz, hK⟩ := h
    obtain ⟨e, hu, hs⟩ := elOf_spec he
    refine ⟨_, hK, fun M F w x' ρ hx vl vh vm => ?_⟩
    obtain ⟨hlt, cap, hcap, rfl⟩ := slm_inv hx
    have hb := run_sliceBounds (P := P) (isS := true) (cap := cap) h1 h2 h3 b0 b1 b2 b3 hcap hmx vl vh vm
    have hadd : (if cap = l.toNat then (some ⟨(M.obj o).1, (M.obj o).2 + off, none⟩ : Option Addr) else some ⟨(M.obj o).1, (M.obj o).2 + (off + l.toNat * sz), none⟩) = some ⟨(M.obj o).1, (M.obj o).2 + (off + l.toNat * sz), none⟩ := by
      split
      · rename_i hc
        have : l.toNat = 0 := by omega
        rw [this]; simp
      · rfl
    refine ⟨.slice (some ⟨(M.obj o).1, (M.obj o).2 + (off + l.toNat * sz), none⟩) (hh.toNat - l.toNat) (cap - l.toNat), ?_, .slm o _ sz _ _ hlt (by omega)⟩
    simp only [Option.map_none] at hb
    simp only [Instr.sliceAt, Instr.slice, Sem.run_bind, run_underlying hu, Result.andThen_ok, hb, run_sizeOf' hs, Sem.run_pure, Option.map_some, addr_add, Nat.add_assoc, Option.map_none]
    simp [hadd]
  · exact h.elim

/-! ### structs and slices that are built -/
theorem VR.cells_rel {M F w v c} (h : VR M F w v c) (hk : v.known = true) : c.cells.size = v.cells.length ∧ ∀ j (h : j < v.cells.length) (h' : j < c.cells.size), VR M F w v.cells[j] c.cells[j] := by
  have single : ∀ {v : AV} {c : Value}, VR M F w v c → v.cells = [v] → c.cells = #[c] → c.cells.size = v.cells.length ∧ ∀ j (h : j < v.cells.length) (h' : j < c.cells.size), VR M F w v.cells[j] c.cells[j] := by
    intro v c h e1 e2
    refine ⟨by rw [e1, e2]; rfl, fun j hj hj' => ?_⟩
    have : j = 0 := by rw [e1] at hj; simp at hj; omega
    subst this
    simp only [e1, e2]
    simpa using h
  cases h with
  | undef => simp [AV.known] at hk
  | agg cs A ha va => exact ⟨ha, fun j h h' => va j h h'⟩
  | bool => exact single (.bool ..) rfl rfl
  | int => exact single (.int ..) rfl rfl
  | str => exact single (.str ..) rfl rfl
  | nilp => exact single .nilp rfl rfl
  | ptr o off h => exact single (.ptr o off h) rfl rfl
  | pv φ v B off cs hm hc hv => exact single (.pv φ v B off cs hm hc hv) rfl rfl
  | nilsl => exact single .nilsl rfl rfl
  | slz b sz a => exact single (.slz b sz a) rfl rfl
  | sl φ sz xs B off cap cs h1 h2 h3 h4 h5 h6 => exact single (.sl φ sz xs B off cap cs h1 h2 h3 h4 h5 h6) rfl rfl
  | slm o off sz len cap h h' => exact single (.slm o off sz len cap h h') rfl rfl
  | fn f a b A B h1 h2 h3 h4 => exact single (.fn f a b A B h1 h2 h3 h4) rfl rfl
  | nilfn => exact single .nilfn rfl rfl
  | iface t v c h => exact single (.iface t v c h) rfl rfl
  | nilif => exact single .nilif rfl rfl
  | tuple vs A h1 h2 => exact single (.tuple vs A h1 h2) rfl rfl

/-- cells that stand for cells -/
def Cells (M : Mp) (F : Nat → FSt) (w : World) (cs : List AV) (A : Array Value) : Prop :=
  A.size = cs.length ∧ ∀ (j : Nat) v, cs[j]? = some v → ∃ c, A[j]? = some c ∧ VR M F w v c

theorem Cells.of {M F w} {cs : List AV} {A : Array Value} (h : A.size = cs.length) (hv : ∀ j (h : j < cs.length) (h' : j < A.size), VR M F w cs[j] A[j]) : Cells M F w cs A := by
  refine ⟨h, fun j v hj => ?_⟩
  obtain ⟨h1, rfl⟩ := List.getElem?_eq_some_iff.1 hj
  exact ⟨A[j], Array.getElem?_eq_getElem (by omega), hv j h1 (by omega)⟩

theorem Cells.get {M F w} {cs : List AV} {A : Array Value} (h : Cells M F w cs A) : ∀ j (h : j < cs.length) (h' : j < A.size), VR M F w cs[j] A[j] := by
  intro j h1 h2
  obtain ⟨c, h3, h4⟩ := h.2 j _ (List.getElem?_eq_getElem h1)
  rw [Array.getElem?_eq_getElem h2] at h3
  cases h3
  exact h4

theorem splice_length {cs vs : List AV} {off : Nat} (h : off + vs.length ≤ cs.length) : (splice cs off vs).length = cs.length := by
  simp [splice]; omega

theorem splice_get {cs vs : List AV} {off j : Nat} (h : off + vs.length ≤ cs.length) :
    (splice cs off vs)[j]? = if off ≤ j ∧ j < off + vs.length then vs[j - off]? else cs[j]? := by
  unfold splice
  by_cases h1 : j < off
  · rw [List.append_assoc, List.getElem?_append_left (by simp; omega), List.getElem?_take, if_pos h1, if_neg (by omega)]
  · by_cases h2 : j < off + vs.length
    · rw [if_pos ⟨by omega, h2⟩, List.getElem?_append_left (by simp; omega), List.getElem?_append_right (by simp; omega)]
      congr 1; simp; omega
    · rw [if_neg (by omega), List.getElem?_append_right (by simp; omega), List.getElem?_drop]
      congr 1; simp; omega

def put1 (A : Array Value) (off : Nat) (vs : Array Value) : Array Value := vs.zipIdx.foldl (fun cs (c, j) => cs.setIfInBounds (off + j) c) A

theorem put1_aux (off : Nat) : ∀ (l : List Value) (k : Nat) (A : Array Value),
    ((l.zipIdx k).foldl (fun cs (c, j) => cs.setIfInBounds (off + j) c) A).size = A.size ∧
    ∀ j, ((l.zipIdx k).foldl (fun cs (c, j) => cs.setIfInBounds (off + j) c) A)[j]? = if off + k ≤ j ∧ j < off + k + l.length ∧ j < A.size then l[j - (off + k)]? else A[j]? := by
  intro l
  induction l with
  | nil => intro k A; simp; intro j h1 h2; omega
  | cons c l ih =>
    intro k A
    simp only [List.zipIdx_cons, List.foldl_cons]
    obtain ⟨h1, h2⟩ := ih (k + 1) (A.setIfInBounds (off + k) c)
    refine ⟨by rw [h1]; simp, fun j => ?_⟩
    rw [h2 j]
    simp only [Array.size_setIfInBounds, List.length_cons]
    by_cases e : j = off + k
    · subst e
      rw [if_neg (by omega)]
      by_cases hb : off + k < A.size
      · rw [if_pos (by omega), Array.getElem?_setIfInBounds_self_of_lt hb]; simp
      · rw [if_neg (by omega), Array.getElem?_setIfInBounds_self]; simp [hb]
    · rw [Array.getElem?_setIfInBounds_ne (by omega)]
      by_cases hc : off + (k + 1) ≤ j ∧ j < off + (k + 1) + l.length ∧ j < A.size
      · rw [if_pos hc, if_pos (by omega)]
        rw [show j - (off + k) = (j - (off + (k + 1))) + 1 by omega, List.getElem?_cons_succ]
      · rw [if_neg hc, if_neg (by omega)]

theorem put1_spec (A : Array Value) (off : Nat) (vs : Array Value) (h : off + vs.size ≤ A.size) :
    (put1 A off vs).size = A.size ∧ ∀ j, (put1 A off vs)[j]? = if off ≤ j ∧ j < off + vs.size then vs[j - off]? else A[j]? := by
  have := put1_aux off vs.toList 0 A
  have e : put1 A off vs = (vs.toList.zipIdx 0).foldl (fun cs (c, j) => cs.setIfInBounds (off + j) c) A := by
    unfold put1
    rw [← Array.foldl_toList, Array.toList_zipIdx]
  rw [e]
  refine ⟨this.1, fun j => ?_⟩
  rw [this.2 j]
  simp only [Nat.add_zero, Array.length_toList, Array.getElem?_toList]
  by_cases hc : off ≤ j ∧ j < off + vs.size
  · rw [if_pos hc, if_pos (by omega)]
  · rw [if_neg hc, if_neg (by omega)]

theorem Cells.splice {M F w} {cs vs : List AV} {A B : Array Value} (h : Cells M F w cs A) (hv : Cells M F w vs B) {off : Nat} (hl : off + vs.length ≤ cs.length) :
    Cells M F w (splice cs off vs) (put1 A off B) := by
  obtain ⟨h1, h2⟩ := put1_spec A off B (by rw [hv.1, h.1]; exact hl)
  refine ⟨by rw [h1, splice_length hl, h.1], fun j v hj => ?_⟩
  rw [splice_get hl] at hj
  rw [h2 j, hv.1]
  split at hj
  · rename_i hc; rw [if_pos hc]; exact hv.2 _ _ hj
  · rename_i hc; rw [if_neg hc]; exact h.2 _ _ hj

theorem fill_cons {place : Nat → Option (Nat × Nat)} {A : Array Value} {i : Nat} {v : Value} {rest : List (Nat × Value)} {off size : Nat} (hp : place i = some (off, size)) (hs : v.cells.size = size) (hb : off + size ≤ A.size) :
    Instr.fill place A ((i, v) :: rest) = Instr.fill place (put1 A off v.cells) rest := by
  simp only [Instr.fill, hp]
  rw [if_neg (by simp [hs]; omega)]
  rfl

theorem fillS_sound {P : Program} {t α} {place : Nat → Option (Nat × Nat)} (hplace : ∀ i f, fiOf P t i = some f → place i = some (f.off, f.size)) :
    ∀ (parts : List (Nat × Operand)) (cs : List AV) (K : List AV → Prop), fillS P t α parts cs K →
      ∃ cs', K cs' ∧ ∀ M F w (ρ : Operand → Value) A, Cells M F w cs A → (∀ x ∈ parts, VR M F w (α x.2) (ρ x.2)) → ∃ A', Instr.fill place A (parts.map fun x => (x.1, ρ x.2)) = some A' ∧ Cells M F w cs' A' := by
  intro parts
  induction parts with
  | nil => intro cs K h; exact ⟨cs, h, fun M F w ρ A hA _ => ⟨A, rfl, hA⟩⟩
  | cons p parts ih =>
    obtain ⟨i, x⟩ := p
    intro cs K h
    obtain ⟨f, hf, hk, hsz, hb, h⟩ := h
    obtain ⟨cs', hK, hh⟩ := ih _ K h
    refine ⟨cs', hK, fun M F w ρ A hA hl => ?_⟩
    have hx := hl (i, x) (by simp)
    obtain ⟨c1, c2⟩ := hx.cells_rel hk
    obtain ⟨A', h1, h2⟩ := hh M F w ρ (put1 A f.off (ρ x).cells) (hA.splice (.of c1 c2) (by simp only at hsz ⊢; rw [hsz]; exact hb)) (fun y hy => hl y (by simp [hy]))
    refine ⟨A', ?_, h2⟩
    rw [List.map_cons, fill_cons (hplace i f hf) (by simp only; rw [c1, hsz]) (by rw [hA.1]; exact hb)]
    exact h1

theorem zeroOf_spec {P : Program} {t z} (h : zeroOf P t = some z) (w : World) : ∃ v, (zeroValue t).run P w = .ok v w ∧ z = ofVal v := by
  unfold zeroOf at h
  cases hi : P.info? t with
  | none => simp [hi] at h
  | some i =>
    cases hz : i.zero with
    | none => simp [hi, hz] at h
    | some v => simp [hi, hz] at h; exact ⟨v, by simp [zeroValue, typeInfo, hi, hz], h.symm⟩

theorem isStruct_spec {P : Program} {t} (h : isStruct P t = true) : ∃ fs, P.underlying t = some (.struct fs) := by
  unfold isStruct at h
  split at h
  · exact ⟨_, ‹_›⟩
  · cases h

theorem run_mapM_sizes {P : Program} {w : World} : ∀ (fs : List Field), (∀ f ∈ fs, ∃ n, szOf P f.type = some n) →
    (fs.mapM fun f => (do pure (f.offset, ← sizeOf f.type) : Sem (Nat × Nat))).run P w = .ok (fs.map fun f => (f.offset, (szOf P f.type).getD 0)) w := by
  intro fs
  induction fs with
  | nil => intro _; simp
  | cons f fs ih =>
    intro h
    obtain ⟨n, hn⟩ := h f (by simp)
    have := ih (fun g hg => h g (by simp [hg]))
    simp only [List.mapM_cons, Sem.run_bind, run_sizeOf' hn, Result.andThen_ok, Sem.run_pure, this, List.map_cons, hn, Option.getD_some]

theorem abuild_sound {P : Program} {t α parts} {K : AV → Prop} (h : abuild P t α parts K) :
    ∃ v, K v ∧ ∀ M F w (ρ : Operand → Value), (∀ x ∈ parts, VR M F w (α x.2) (ρ x.2)) → ∃ v', (Instr.build t (parts.map fun x => (x.1, ρ x.2)).toArray).run P w = .ok v' w ∧ VR M F w v v' := by
  obtain ⟨hs, z, hz, hzk, hf⟩ := h
  obtain ⟨fs, hu⟩ := isStruct_spec hs.1
  have hsized : ∀ f ∈ fs.toList, ∃ n, szOf P f.type = some n := by
    have := hs.2
    simp only [sized, hu, List.all_eq_true] at this
    exact fun f hf => Option.isSome_iff_exists.1 (this f hf)
  have hplace : ∀ i f, fiOf P t i = some f → (fs.toList.map fun f => (f.offset, (szOf P f.type).getD 0)).toArray[i]? = some (f.off, f.size) := by
    intro i f hf
    obtain ⟨fs', fd, hu', hfd, hs', hne, ho, hg⟩ := fiOf_spec hf
    rw [hu] at hu'
    cases hu'
    simp [hfd, hs', ho]
  obtain ⟨cs', hK, hh⟩ := fillS_sound hplace parts z.cells _ hf
  refine ⟨_, hK, fun M F w ρ hl => ?_⟩
  obtain ⟨zv, hzv, rfl⟩ := zeroOf_spec hz w
  obtain ⟨c1, c2⟩ := (ofVal_VR M F w zv).cells_rel hzk
  obtain ⟨A', h1, h2⟩ := hh M F w ρ zv.cells (.of c1 c2) hl
  refine ⟨.agg A', ?_, .agg _ _ h2.1 h2.get⟩
  have hm : (fs.mapM fun f => (do pure (f.offset, ← sizeOf f.type) : Sem (Nat × Nat))).run P w = .ok (fs.toList.map fun f => (f.offset, (szOf P f.type).getD 0)).toArray w := by
    rw [Array.mapM_eq_mapM_toList, Sem.run_map, run_mapM_sizes fs.toList hsized]
    rfl
  simp only [Instr.build, Sem.run_bind, hzv, Result.andThen_ok, run_underlying hu, hm, h1]
  simp

theorem flat_set {xs : List AV} {sz i : Nat} {v : AV} (hsz : ∀ x ∈ xs, x.cells.length = sz) (hi : i < xs.length) (hv : v.cells.length = sz) :
    flat (xs.set i v) = splice (flat xs) (i * sz) v.cells := by
  rw [List.set_eq_take_append_cons_drop, if_pos hi]
  unfold splice
  rw [flat_take sz xs i hsz, hv, show i * sz + sz = (i + 1) * sz by rw [Nat.add_mul, Nat.one_mul], flat_drop sz xs (i + 1) hsz]
  simp [flat]

theorem flat_replicate_get {z : AV} {sz : Nat} (hz : z.cells.length = sz) : ∀ (n j : Nat), j < n * sz → (flat (List.replicate n z))[j]? = z.cells[j % sz]? := by
  intro n
  induction n with
  | zero => intro j h; omega
  | succ n ih =>
    intro j h
    simp only [flat, List.replicate_succ, List.flatMap_cons]
    by_cases hj : j < sz
    · rw [List.getElem?_append_left (by omega), Nat.mod_eq_of_lt hj]
    · rw [List.getElem?_append_right (by omega), hz]
      have := ih (j - sz) (by rw [Nat.add_mul, Nat.one_mul] at h; omega)
      simp only [flat] at this
      rw [this, Nat.mod_eq_sub_mod (a := j) (by omega)]

theorem Cells.zeros {M F w} {z : AV} {zv : Value} (h : VR M F w z zv) (hk : z.known = true) {sz : Nat} (hz : z.cells.length = sz) (n : Nat) :
    Cells M F w (flat (List.replicate n z)) ((Array.range (n * sz)).map fun i => zv.cells[i % zv.cells.size]!) := by
  obtain ⟨c1, c2⟩ := h.cells_rel hk
  refine ⟨by simp only [Array.size_map, Array.size_range]; rw [flat_length sz _ (fun x hx => by rw [List.eq_of_mem_replicate hx]; exact hz)]; simp, fun j v hj => ?_⟩
  have hjl : j < n * sz := by
    have := (List.getElem?_eq_some_iff.1 hj).1
    rw [flat_length sz _ (fun x hx => by rw [List.eq_of_mem_replicate hx]; exact hz)] at this
    simpa using this
  rw [flat_replicate_get hz n j hjl] at hj
  obtain ⟨h1, h2⟩ := List.getElem?_eq_some_iff.1 hj
  refine ⟨zv.cells[j % sz]'(by omega), ?_, ?_⟩
  · rw [Array.getElem?_map, Array.getElem?_range, if_pos hjl]
    simp only [Option.map_some, Option.some.injEq]
    have e : zv.cells.size = sz := by rw [c1, hz]
    simp only [e]
    rw [getElem!_pos]
  · have := c2 (j % sz) h1 (by omega)
    rw [h2] at this; exact this

theorem fillA_sound {α n sz} : ∀ (parts : List (Nat × Operand)) (xs : List AV) (K : List AV → Prop), xs.length = n → (∀ x ∈ xs, x.cells.length = sz) → fillA n sz α parts xs K →
      ∃ xs', K xs' ∧ xs'.length = n ∧ (∀ x ∈ xs', x.cells.length = sz) ∧ ∀ M F w (ρ : Operand → Value) A, Cells M F w (flat xs) A → (∀ x ∈ parts, VR M F w (α x.2) (ρ x.2)) →
        ∃ A', Instr.fill (fun i => some (i * sz, sz)) A (parts.map fun x => (x.1, ρ x.2)) = some A' ∧ Cells M F w (flat xs') A' := by
  intro parts
  induction parts with
  | nil => intro xs K hl hs h; exact ⟨xs, h, hl, hs, fun M F w ρ A hA _ => ⟨A, rfl, hA⟩⟩
  | cons p parts ih =>
    obtain ⟨i, x⟩ := p
    intro xs K hl hs h
    obtain ⟨hi, hk, hsz, h⟩ := h
    obtain ⟨xs', hK, e1, e2, hh⟩ := ih (xs.set i (α x)) K (by simpa using hl) (fun y hy => by rcases List.mem_or_eq_of_mem_set hy with h' | h'; exact hs y h'; rw [h', hsz]) h
    refine ⟨xs', hK, e1, e2, fun M F w ρ A hA hv => ?_⟩
    have hx := hv (i, x) (by simp)
    obtain ⟨c1, c2⟩ := hx.cells_rel hk
    have hbound : i * sz + sz ≤ n * sz := by
      have : (i + 1) * sz ≤ n * sz := Nat.mul_le_mul_right _ hi
      rwa [Nat.add_mul, Nat.one_mul] at this
    have hfl := flat_length sz xs hs
    have hsp := flat_set (v := α x) hs (by omega : i < xs.length) hsz
    obtain ⟨A', h1, h2⟩ := hh M F w ρ (put1 A (i * sz) (ρ x).cells) (by rw [hsp]; exact hA.splice (.of c1 c2) (by rw [hsz, hfl, hl]; exact hbound)) (fun y hy => hv y (by simp [hy]))
    refine ⟨A', ?_, h2⟩
    rw [List.map_cons, fill_cons rfl (by simp only; rw [c1, hsz]) (by rw [hA.1, hfl, hl]; exact hbound)]
    exact h1

/-! ### new memory -/
theorem heap_push_lt {w : World} {o : Obj} {B : Nat} (h : B < w.heap.size) : ({ w with heap := w.heap.push o } : World).heap[B]? = w.heap[B]? := by
  simp [Array.getElem?_push, Nat.ne_of_lt h]
theorem heap_push_eq {w : World} {o : Obj} : ({ w with heap := w.heap.push o } : World).heap[w.heap.size]? = some o := by simp

/-- a new block with a part of its own -/
def Mp.newRole (M : Mp) (B : Nat) (r : Role) : Mp := { M with role := upd M.role B (some r) }

theorem ext_push {M F} {w : World} (hM : ∀ B r, M.role B = some r → B < w.heap.size) (o : Obj) (r : Role) : Ext M F w (M.newRole w.heap.size r) F { w with heap := w.heap.push o } where
  io := ⟨rfl, rfl, rfl⟩
  no := Nat.le_refl _
  nf := Nat.le_refl _
  obj _ _ := rfl
  dead _ _ h := h
  spoil _ _ h := by rw [h]; simp
  size := by simp
  shape B c e z h := by
    have hB : B < w.heap.size := (Array.getElem?_eq_some_iff.1 h).1
    exact ⟨c, by rw [heap_push_lt hB]; exact h, rfl⟩
  stat B h := by
    have hB := hM B _ h
    exact ⟨by simp only [Mp.newRole]; rw [upd_ne _ _ (by omega)]; exact h, heap_push_lt hB⟩
  free B hB h := ⟨by simp only [Mp.newRole]; rw [upd_ne _ _ (by omega)]; exact h, heap_push_lt hB⟩
  famr B f hf h _ := by
    have hB := hM B _ h
    simp only [Mp.newRole]; rw [upd_ne _ _ (by omega)]; exact h
  famc B f hf h _ := heap_push_lt (hM B _ h)

theorem sim_push {M σ} {w : World} (S : Sim M σ w) (o : Obj) (r : Role) : Sim (M.newRole w.heap.size r) σ { w with heap := w.heap.push o } where
  no := S.no
  nf := S.nf
  role B r' h := by
    simp only [Mp.newRole, upd] at h
    split at h
    · simp; omega
    · have := S.role B r' h
      simp; omega
  obj x cs hx := by
    obtain ⟨a, b, c⟩ := S.obj x cs hx
    have hB := S.role _ _ b
    refine ⟨a, by simp only [Mp.newRole]; rw [upd_ne _ _ (by omega)]; exact b, fun j hj => ?_⟩
    obtain ⟨v, h1, h2, h3⟩ := c j hj
    have e := heap_push_lt (o := o) hB
    exact ⟨v, (cell?_of_heap e).trans h1, (frozen?_of_heap e).trans h2, h3.mono (ext_push S.role o r)⟩
  inj := S.inj

theorem abuildSlice_sound {P : Program} {t n α parts} {K : AV → Prop} (h : abuildSlice P t n α parts K) :
    ∃ v, K v ∧ Quiet P (fun ρ => Instr.buildSlice t n (parts.map fun x => (x.1, ρ x.2)).toArray) α (parts.map (·.2)) v := by
  obtain ⟨sz, z, he, hz, hk, hzl, h0, hn, hf⟩ := h
  obtain ⟨e, hu, hs⟩ := elOf_spec he
  obtain ⟨xs, hK, hl, hsz, hh⟩ := fillA_sound parts (List.replicate n z) _ (by simp) (fun x hx => by rw [List.eq_of_mem_replicate hx]; exact hzl) hf
  refine ⟨_, hK, fun M F w ρ hM hv => ?_⟩
  have hz' : zeroOf P e = some z := by unfold elZero at hz; rw [hu] at hz; exact hz
  obtain ⟨zv, hzv, rfl⟩ := zeroOf_spec hz' w
  have hzr := ofVal_VR M F w zv
  obtain ⟨A', h1, h2⟩ := hh M F w ρ _ (Cells.zeros hzr hk hzl n) (fun x hx => hv x.2 (List.mem_map_of_mem hx))
  have hE := ext_push (F := F) hM (.cells A' e) .stat
  refine ⟨.slice (some ⟨w.heap.size, 0, none⟩) n n, _, { w with heap := w.heap.push (.cells A' e) }, ?_, ?_, hE, fun σ _ S => sim_push S (.cells A' e) .stat⟩
  · by_cases hn0 : n = 0
    · subst hn0
      have hr : Array.range (0 * sz) = #[] := by rw [Nat.zero_mul]; rfl
      rw [hr, Array.map_empty] at h1
      simp only [Instr.buildSlice, Sem.run_bind, run_underlying hu, Result.andThen_ok, run_sizeOf' hs, Sem.run_ite, Sem.run_pure]
      rw [if_neg (by simp), if_pos (Nat.zero_mul _)]
      simp only [hr, Array.map_empty, h1]
      simp [newRow]
    · have hne : n * sz ≠ 0 := by
        have := Nat.mul_pos (Nat.pos_of_ne_zero hn0) h0; omega
      simp only [Instr.buildSlice, Sem.run_bind, run_underlying hu, Result.andThen_ok, run_sizeOf' hs, Sem.run_ite, if_neg hne, hzv, Sem.run_pure]
      rw [if_neg (by omega)]
      simp only [h1]
      simp [newRow]
  · have hcell : ∀ j, ({ w with heap := w.heap.push (.cells A' e) } : World).cell? ⟨w.heap.size, 0 + j, none⟩ = A'[j]? := by
      intro j; simp [World.cell?]
    rw [← hl]
    refine .sl (.stat true) sz xs w.heap.size 0 xs.length (fun j => (A'[j]?).getD undef) (Nat.le_refl _) (fun _ => rfl) hsz ?_ (fun _ j hj => ?_) (fun _ j hj => ?_)
    · simp [Mem, Mp.newRole, upd]
    · rw [hcell, Array.getElem?_eq_getElem (by rw [h2.1]; exact hj)]; rfl
    · have := h2.get j hj (by rw [h2.1]; exact hj)
      rw [Array.getElem?_eq_getElem (by rw [h2.1]; exact hj)]
      exact this.mono hE

end Go.Abs
