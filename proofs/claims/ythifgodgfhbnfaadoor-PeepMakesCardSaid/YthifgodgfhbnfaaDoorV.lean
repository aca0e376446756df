/- What the reading of a module's data gives: the module as lists, of lengths that memory allows; no condition. -/
import Derived.Test.YthifgodgfhbnfaaDoorN
import Derived.Test.YthifgodgfhbnfaaDoorTie
import Derived.ProofKit
import Derived.OpenShut
import Derived.ChangeOld
import Derived.ChangeSame
import Derived.ChangeVars
import Derived.Test.YthifgodgfhbnfaaDoorShelf
import Derived.Lib.LaidTab
import Derived.LaidLaws
import Derived.LaidHandle
import Derived.ShapedOpen
set_option linter.unusedSimpArgs false
set_option linter.unusedVariables false
namespace Go.Proofs.YthifgodgfhbnfaaDoor
open Go Go.Abs Go.RowKit
/-- the cells that stand for a value -/
def CellsV (w : World) (v : AV) (cs : List Value) : Prop := v.cells.length = cs.length ∧ ∀ j (h : j < v.cells.length) (h' : j < cs.length), VR (Mp.all w) AS.zero.F w v.cells[j] cs[j]
theorem CellsV.one {w : World} {v : AV} {c : Value} (h : VR (Mp.all w) AS.zero.F w v c) (hv : v.cells = [v]) : CellsV w v [c] := by
  refine ⟨by rw [hv]; rfl, fun j h1 h2 => ?_⟩
  have : j = 0 := by simpa using h2
  subst this
  simpa [hv] using h
theorem CellsV.to {w : World} {v : AV} {c : Value} (h : CellsV w v [c]) (hv : v.cells = [v]) : VR (Mp.all w) AS.zero.F w v c := by
  have := h.2 0 (by rw [hv]; simp) (by simp)
  simpa [hv] using this
def WtOk {H : Type} (t : TypeId) (d : DataW H) : Prop := (d.weights Tryd.prog t).all (· ≤ reachBytes) = true
theorem wtAll {H : Type} {e : TypeId} : ∀ {ds : List (DataW H)}, (DataW.weightsAll Tryd.prog e ds).all (· ≤ reachBytes) = true → ∀ d ∈ ds, WtOk e d
  | [], _ => by simp
  | d :: ds, h => by
    rw [DataW.weightsAll, List.all_append, Bool.and_eq_true] at h
    intro x hx
    rcases List.mem_cons.1 hx with rfl | hx
    · exact h.1
    · exact wtAll h.2 x hx
theorem wtEach {H : Type} : ∀ {ts : List TypeId} {ds : List (DataW H)}, (DataW.weightsEach Tryd.prog ts ds).all (· ≤ reachBytes) = true → ∀ (i : Nat) t d, ts[i]? = some t → ds[i]? = some d → WtOk t d
  | [], ds, _ => by simp
  | _ :: _, [], _ => by simp
  | t :: ts, d :: ds, h => by
    rw [DataW.weightsEach, List.all_append, Bool.and_eq_true] at h
    intro i t' d' h1 h2
    cases i with
    | zero => simp at h1 h2; subst h1 h2; exact h.1
    | succ i => exact wtEach h.2 i t' d' (by simpa using h1) (by simpa using h2)
theorem exists_list {X : Type} {n : Nat} {P : Nat → X → Prop} (h : ∀ i, i < n → ∃ x, P i x) : ∃ l : List X, l.length = n ∧ ∀ i (hi : i < l.length), P i l[i] := by
  induction n with
  | zero => exact ⟨[], rfl, fun i hi => by simp at hi⟩
  | succ n ih =>
    obtain ⟨l, hl, hp⟩ := ih fun i hi => h i (by omega)
    obtain ⟨x, hx⟩ := h n (by omega)
    refine ⟨l ++ [x], by simp [hl], fun i hi => ?_⟩
    by_cases hi' : i < l.length
    · rw [List.getElem_append_left hi']; exact hp i hi'
    · have e : i = l.length := by simp at hi; omega
      subst e
      rw [List.getElem_append_right (by omega)]
      simpa [hl] using hx
theorem All2.of_get {α β : Type} {R : α → β → Prop} : ∀ {xs : List α} {ys : List β}, xs.length = ys.length → (∀ i (h : i < xs.length) (h' : i < ys.length), R xs[i] ys[i]) → All2 R xs ys
  | [], [], _, _ => .nil
  | [], _ :: _, h, _ => by simp at h
  | _ :: _, [], h, _ => by simp at h
  | x :: xs, y :: ys, h, hr => .cons (hr 0 (by simp) (by simp)) (All2.of_get (by simpa using h) fun i h1 h2 => hr (i + 1) (Nat.succ_lt_succ h1) (Nat.succ_lt_succ h2))
theorem slice_rel {H T : Type} {enc : TypeId × Value → H} {w : World} {fuel : Nat} {t e : TypeId} {cs : List Value} {x : DataW H × List MemPlace} {sz : Nat} (Rel : AV → T → Prop)
    (ht : Tryd.prog.underlying t = some (.slice e)) (hc : Tryd.prog.cellsOf e = sz) (hsz : 0 < sz) (hb : 0 < Tryd.prog.bytesOf e)
    (ih : ∀ n cs' d q, DataW.trod enc Tryd.prog w 0 (fun _ => true) true n e cs' = some (d, q) → WtOk e d → ∃ v o, Rel v o ∧ CellsV w v cs')
    (h : DataW.trod enc Tryd.prog w 0 (fun _ => true) true fuel t cs = some x) (hw : WtOk t x.1) :
    ∃ (v : AV) (os : List T), CellsV w v cs ∧ ((os = [] ∧ v = .nilsl) ∨ ∃ vs, v = .sl (.stat false) sz vs ∧ All2 Rel vs os) ∧ os.length ≤ 2 ^ 47 := by
  rcases DataW.trod_slice ht h with ⟨rfl, rfl⟩ | ⟨a, len, cap, elems, rest, n, rfl, rfl, rfl, hb0, hl, hm, hlen, hel, hsp, hns⟩
  · exact ⟨.nilsl, [], .one .nilsl rfl, .inl ⟨rfl, rfl⟩, by simp⟩
  obtain ⟨hrl, hrest⟩ := hsp rfl
  have hw' := hw
  unfold WtOk DataW.weights at hw'
  rw [ht] at hw'
  simp only [List.all_cons, List.all_append, Bool.and_eq_true, List.length_map, decide_eq_true_eq] at hw'
  obtain ⟨w1, w2, w3⟩ := hw'
  have hel2 := wtAll w2
  have each : ∀ i, i < len → ∃ p : AV × T, Rel p.1 p.2 ∧ ∃ cs', w.cells? 0 (a.add (i * sz)) sz = some cs' ∧ CellsV w p.1 cs' := fun i hi => by
    have h1 := hel i hi
    have hi' : i < elems.length := by omega
    rw [hc, List.getElem?_eq_getElem hi', Option.bind_eq_some_iff] at h1
    obtain ⟨cs', h2, h3⟩ := h1
    obtain ⟨v, o, h4, h5⟩ := ih n cs' elems[i].1 elems[i].2 h3 (hel2 _ (List.mem_map_of_mem (List.getElem_mem hi')))
    exact ⟨(v, o), h4, cs', h2, h5⟩
  obtain ⟨l, hll, hp⟩ := exists_list each
  have hcap : len ≤ 2 ^ 47 := by
    have h1 : (elems.length + rest.length) * 1 ≤ (elems.length + rest.length) * Tryd.prog.bytesOf e := Nat.mul_le_mul_left _ hb
    have h2 : reachBytes ≤ 2 ^ 47 := by unfold reachBytes; omega
    omega
  have hall : All2 Rel (l.map (·.1)) (l.map (·.2)) := All2.of_get (by simp) fun i h1 h2 => by simpa using (hp i (by simpa using h1)).1
  by_cases hz : cap = 0
  · have e1 : len = 0 := by omega
    have e2 : l = [] := List.eq_nil_of_length_eq_zero (by omega)
    subst e1 hz e2
    exact ⟨.sl (.stat false) sz [], [], .one (.slz ..) rfl, .inr ⟨[], rfl, .nil⟩, by simp⟩
  have h0 : ∃ c, w.cell? a = some c := by
    have key : ∀ (y : DataW H × List MemPlace), (w.cells? 0 (a.add (0 * Tryd.prog.cellsOf e)) (Tryd.prog.cellsOf e)).bind (DataW.trod enc Tryd.prog w 0 (fun _ => true) true n e) = some y → ∃ c, w.cell? a = some c := fun y hy => by
      rw [Option.bind_eq_some_iff] at hy
      obtain ⟨cs', h2, _⟩ := hy
      obtain ⟨_, h3, h4⟩ := World.cells?_some h2
      have h5 := h4 0 (by omega)
      rw [Nat.zero_mul] at h5
      have e : (a.add 0).add 0 = a := by simp [Addr.add]
      rw [e, List.getElem?_eq_getElem (by omega)] at h5
      exact ⟨_, h5⟩
    by_cases hl0 : 0 < len
    · have := hel 0 hl0
      rw [List.getElem?_eq_getElem (by omega)] at this
      exact key _ this
    · have e1 : len = 0 := by omega
      subst e1
      have := hrest 0 (by omega)
      rw [List.getElem?_eq_getElem (by omega)] at this
      exact key _ this
  obtain ⟨c0, hc0⟩ := h0
  obtain ⟨B, off, spot⟩ := a
  have hBs : B < w.heap.size ∧ spot = none := by
    unfold World.cell? at hc0
    split at hc0
    · rename_i c t' fr hh
      refine ⟨(Array.getElem?_eq_some_iff.1 hh).1, ?_⟩
      split at hc0
      · cases hc0
      · rename_i hs; simpa using hs
    · cases hc0
  obtain ⟨hB, rfl⟩ := hBs
  have hsz' : ∀ v ∈ l.map (·.1), v.cells.length = sz := fun v hv => by
    obtain ⟨p, hp', rfl⟩ := List.mem_map.1 hv
    obtain ⟨i, hi, rfl⟩ := List.mem_iff_getElem.1 hp'
    obtain ⟨_, cs', h2, h3⟩ := hp i hi
    rw [h3.1, (World.cells?_some h2).2.1]
  have hfl := flat_length sz (l.map (·.1)) hsz'
  have key : ∀ j (hj : j < (flat (l.map (·.1))).length), ∃ c, w.cell? ⟨B, off + j, none⟩ = some c ∧ VR (Mp.all w) AS.zero.F w (flat (l.map (·.1)))[j] c := fun j hj => by
    have hj' : j < l.length * sz := by simpa [hfl] using hj
    have hi : j / sz < l.length := (Nat.div_lt_iff_lt_mul hsz).2 hj'
    have hr : j % sz < sz := Nat.mod_lt _ hsz
    obtain ⟨_, cs', h2, h3⟩ := hp (j / sz) hi
    obtain ⟨_, h4, h5⟩ := World.cells?_some h2
    have h6 := h5 (j % sz) hr
    rw [addr_add, addr_add, Nat.add_assoc, Nat.div_add_mod', List.getElem?_eq_getElem (by omega)] at h6
    refine ⟨_, h6, ?_⟩
    have hl1 : l[j / sz].1.cells.length = sz := by rw [h3.1, h4]
    have h7 := (flat_get hsz' (i := j / sz) (v := l[j / sz].1) (by simp [List.getElem?_eq_getElem hi]) (j := j % sz) (by omega)).2
    rw [Nat.div_add_mod', List.getElem?_eq_getElem hj] at h7
    rw [Option.some.inj h7]
    exact h3.2 _ _ _
  have hv := VR.sl (M := Mp.all w) (F := AS.zero.F) (w := w) (.stat false) sz (l.map (·.1)) B off cap (fun j => (w.cell? ⟨B, off + j, none⟩).getD undef) (by simp; omega) (by simp [Own.full]) hsz' (by simp [Mem, Mp.all, hB])
    (fun _ j hj => by obtain ⟨c, h1, _⟩ := key j hj; simp [h1]) (fun _ j hj => by obtain ⟨c, h1, h2⟩ := key j hj; simpa [h1] using h2)
  rw [List.length_map, hll] at hv
  exact ⟨_, l.map (·.2), .one hv rfl, .inr ⟨_, rfl, hall⟩, by simpa [hll] using hcap⟩
def IntR (v : AV) (n : Int) : Prop := v = .int .i64 n ∧ -(2 ^ 63) ≤ n ∧ n ≤ 2 ^ 63 - 1
theorem int_rel {H : Type} {enc : TypeId × Value → H} {w : World} {n : Nat} {cs : List Value} {x : DataW H × List MemPlace} (h : DataW.trod enc Tryd.prog w 0 (fun _ => true) true n 3 cs = some x) : ∃ v o, IntR v o ∧ CellsV w v cs := by
  obtain ⟨k, rfl, _, hw⟩ := DataW.trod_int Tryd.underlying3 h
  simp [Lit.wf, IntKind.min, IntKind.max, IntKind.signed, IntKind.bits] at hw
  exact ⟨.int .i64 k, k, ⟨rfl, by omega, by omega⟩, .one (.int ..) rfl⟩
theorem All2.ints {vs : List AV} {l : List Int} (h : All2 IntR vs l) : vs = l.map (.int .i64) := by
  induction h with
  | nil => rfl
  | cons h r ih => rw [h.1, ih]; rfl
def IntsR (v : AV) (l : List Int) : Prop := IntsV v l ∧ l.length ≤ 2 ^ 47
set_option maxRecDepth 20000 in
theorem ints_rel {H : Type} {enc : TypeId × Value → H} {w : World} {n : Nat} {cs : List Value} {x : DataW H × List MemPlace} (h : DataW.trod enc Tryd.prog w 0 (fun _ => true) true n 34 cs = some x) (hw : WtOk 34 x.1) : ∃ v o, IntsR v o ∧ CellsV w v cs := by
  obtain ⟨v, os, h1, h2, h3⟩ := slice_rel (sz := 1) IntR Tryd.underlying34 (by kernel_rfl) (by omega) (of_decide_eq_true (by kernel_rfl)) (fun n cs' d q h _ => int_rel h) h hw
  refine ⟨v, os, ⟨?_, h3⟩, h1⟩
  rcases h2 with h2 | ⟨vs, rfl, h4⟩
  · exact .inl h2
  · exact .inr ⟨false, by rw [h4.ints]⟩
def WR (v : AV) (w : W) : Prop := v = w.av ∧ w.n ≤ 2 ^ 63 - 1
theorem cell_of {H : Type} {enc : TypeId × Value → H} {w : World} {n : Nat} {c : Value} {x : DataW H × List MemPlace} (h : DataW.trod enc Tryd.prog w 0 (fun _ => true) true n 3 [c] = some x) : ∃ k : Int, c = .int .i64 k ∧ k ≤ 2 ^ 63 - 1 := by
  obtain ⟨k, h1, _, hw⟩ := DataW.trod_int Tryd.underlying3 h
  simp [Lit.wf, IntKind.min, IntKind.max, IntKind.signed, IntKind.bits] at hw
  exact ⟨k, by simpa using h1, by omega⟩
theorem str_of {H : Type} {enc : TypeId × Value → H} {w : World} {n : Nat} {c : Value} {x : DataW H × List MemPlace} (h : DataW.trod enc Tryd.prog w 0 (fun _ => true) true n 9 [c] = some x) : ∃ s : ByteArray, c = .string s := by
  obtain ⟨s, h1, _⟩ := DataW.trod_string Tryd.underlying9 h
  exact ⟨s, by simpa using h1⟩
set_option maxRecDepth 20000 in
theorem w_rel {H : Type} {enc : TypeId × Value → H} {w : World} {n : Nat} {cs : List Value} {x : DataW H × List MemPlace} (h : DataW.trod enc Tryd.prog w 0 (fun _ => true) true n 40 cs = some x) : ∃ v o, WR v o ∧ CellsV w v cs := by
  obtain ⟨xs, n, rfl, hx, hlen, hxl, hf⟩ := DataW.trod_struct Tryd.underlying40 h
  have hxl' : xs.length = 6 := hxl
  have hlen' : cs.length = 6 := hlen.trans (by kernel_rfl)
  match cs, hlen' with
  | [a, b, c, d, e, f], _ =>
    have c9 : Tryd.prog.cellsOf 9 = 1 := by kernel_rfl
    have c3 : Tryd.prog.cellsOf 3 = 1 := by kernel_rfl
    have f0 : DataW.trod enc Tryd.prog w 0 (fun _ => true) true n 3 [a] = xs[0]? := by
      have h : DataW.trod enc Tryd.prog w 0 (fun _ => true) true n 3 ((([a, b, c, d, e, f] : List Value).drop 0).take (Tryd.prog.cellsOf 3)) = xs[0]? := hf 0 _ rfl
      rw [c3] at h; exact h
    have f1 : DataW.trod enc Tryd.prog w 0 (fun _ => true) true n 3 [b] = xs[1]? := by
      have h : DataW.trod enc Tryd.prog w 0 (fun _ => true) true n 3 ((([a, b, c, d, e, f] : List Value).drop 1).take (Tryd.prog.cellsOf 3)) = xs[1]? := hf 1 _ rfl
      rw [c3] at h; exact h
    have f2 : DataW.trod enc Tryd.prog w 0 (fun _ => true) true n 3 [c] = xs[2]? := by
      have h : DataW.trod enc Tryd.prog w 0 (fun _ => true) true n 3 ((([a, b, c, d, e, f] : List Value).drop 2).take (Tryd.prog.cellsOf 3)) = xs[2]? := hf 2 _ rfl
      rw [c3] at h; exact h
    have f3 : DataW.trod enc Tryd.prog w 0 (fun _ => true) true n 3 [d] = xs[3]? := by
      have h : DataW.trod enc Tryd.prog w 0 (fun _ => true) true n 3 ((([a, b, c, d, e, f] : List Value).drop 3).take (Tryd.prog.cellsOf 3)) = xs[3]? := hf 3 _ rfl
      rw [c3] at h; exact h
    have f4 : DataW.trod enc Tryd.prog w 0 (fun _ => true) true n 3 [e] = xs[4]? := by
      have h : DataW.trod enc Tryd.prog w 0 (fun _ => true) true n 3 ((([a, b, c, d, e, f] : List Value).drop 4).take (Tryd.prog.cellsOf 3)) = xs[4]? := hf 4 _ rfl
      rw [c3] at h; exact h
    have f5 : DataW.trod enc Tryd.prog w 0 (fun _ => true) true n 9 [f] = xs[5]? := by
      have h : DataW.trod enc Tryd.prog w 0 (fun _ => true) true n 9 ((([a, b, c, d, e, f] : List Value).drop 5).take (Tryd.prog.cellsOf 9)) = xs[5]? := hf 5 _ rfl
      rw [c9] at h; exact h
    rw [List.getElem?_eq_getElem (by omega)] at f0 f1 f2 f3 f4 f5
    obtain ⟨k0, rfl, _⟩ := cell_of f0
    obtain ⟨k1, rfl, _⟩ := cell_of f1
    obtain ⟨k2, rfl, hn⟩ := cell_of f2
    obtain ⟨k3, rfl, _⟩ := cell_of f3
    obtain ⟨k4, rfl, _⟩ := cell_of f4
    obtain ⟨s, rfl⟩ := str_of f5
    refine ⟨_, ⟨k0, k1, k2, k3, k4, s.data.toList⟩, ⟨rfl, hn⟩, rfl, fun j h1 h2 => ?_⟩
    have : j < 6 := h2
    match j, this with
    | 0, _ => exact .int ..
    | 1, _ => exact .int ..
    | 2, _ => exact .int ..
    | 3, _ => exact .int ..
    | 4, _ => exact .int ..
    | 5, _ => exact .str s
theorem All2.ws {vs : List AV} {l : List W} (h : All2 WR vs l) : vs = l.map W.av ∧ ∀ w ∈ l, w.n ≤ 2 ^ 63 - 1 := by
  induction h with
  | nil => simp
  | cons h r ih => refine ⟨by rw [h.1, ih.1]; rfl, fun w hw => ?_⟩; rcases List.mem_cons.1 hw with rfl | hw; exact h.2; exact ih.2 w hw
theorem All2.mono {α β : Type} {R S : α → β → Prop} {xs ys} (h : All2 R xs ys) (hs : ∀ x y, R x y → S x y) : All2 S xs ys := by
  induction h with
  | nil => exact .nil
  | cons h r ih => exact .cons (hs _ _ h) ih
theorem All2.right {α β : Type} {R : α → β → Prop} {P : β → Prop} {xs ys} (h : All2 R xs ys) (hs : ∀ x y, R x y → P y) : ∀ y ∈ ys, P y := by
  induction h with
  | nil => simp
  | cons h r ih => intro y hy; rcases List.mem_cons.1 hy with rfl | hy; exact hs _ _ h; exact ih y hy
/-- a list of instructions -/
def RowR (v : AV) (l : List W) : Prop := RepL v l ∧ l.length ≤ 2 ^ 47 ∧ ∀ w ∈ l, w.n ≤ 2 ^ 63 - 1
set_option maxRecDepth 20000 in
theorem row_rel {H : Type} {enc : TypeId × Value → H} {w : World} {n : Nat} {cs : List Value} {x : DataW H × List MemPlace} (h : DataW.trod enc Tryd.prog w 0 (fun _ => true) true n 38 cs = some x) (hw : WtOk 38 x.1) : ∃ v o, RowR v o ∧ CellsV w v cs := by
  obtain ⟨v, os, h1, h2, h3⟩ := slice_rel (sz := 6) WR Tryd.underlying38 (by kernel_rfl) (by omega) (of_decide_eq_true (by kernel_rfl)) (fun n cs' d q h _ => w_rel h) h hw
  rcases h2 with ⟨rfl, rfl⟩ | ⟨vs, rfl, h4⟩
  · exact ⟨_, [], ⟨.inl ⟨rfl, rfl⟩, h3, by simp⟩, h1⟩
  · obtain ⟨e, hn⟩ := h4.ws
    exact ⟨_, os, ⟨.inr ⟨false, by rw [e]⟩, h3, hn⟩, h1⟩
/-- a function's lists -/
def ListsR (v : AV) (l : To) : Prop := ListsV v l ∧ l.length ≤ 2 ^ 47 ∧ (∀ r ∈ l, r.length ≤ 2 ^ 47) ∧ ∀ r ∈ l, ∀ w ∈ r, w.n ≤ 2 ^ 63 - 1
set_option maxRecDepth 20000 in
theorem lists_rel {H : Type} {enc : TypeId × Value → H} {w : World} {n : Nat} {cs : List Value} {x : DataW H × List MemPlace} (h : DataW.trod enc Tryd.prog w 0 (fun _ => true) true n 35 cs = some x) (hw : WtOk 35 x.1) : ∃ v o, ListsR v o ∧ CellsV w v cs := by
  obtain ⟨v, os, h1, h2, h3⟩ := slice_rel (sz := 1) RowR Tryd.underlying35 (by kernel_rfl) (by omega) (of_decide_eq_true (by kernel_rfl)) (fun n cs' d q h hw => row_rel h hw) h hw
  rcases h2 with ⟨rfl, rfl⟩ | ⟨vs, rfl, h4⟩
  · exact ⟨_, [], ⟨.inl ⟨rfl, rfl⟩, h3, by simp, by simp⟩, h1⟩
  · exact ⟨_, os, ⟨.inr ⟨false, vs, rfl, h4.mono fun _ _ h => h.1⟩, h3, h4.right fun _ _ h => h.2.1, h4.right fun _ _ h => h.2.2⟩, h1⟩
/-- a function -/
def FR (v : AV) (f : F) : Prop := FV v f ∧ f.params.length ≤ 2 ^ 47 ∧ f.locals.length ≤ 2 ^ 47 ∧ f.lists.length ≤ 2 ^ 47 ∧ (∀ r ∈ f.lists, r.length ≤ 2 ^ 47) ∧ ∀ r ∈ f.lists, ∀ w ∈ r, w.n ≤ 2 ^ 63 - 1
set_option maxRecDepth 20000 in
theorem f_rel {H : Type} {enc : TypeId × Value → H} {w : World} {n : Nat} {cs : List Value} {x : DataW H × List MemPlace} (h : DataW.trod enc Tryd.prog w 0 (fun _ => true) true n 37 cs = some x) (hw : WtOk 37 x.1) : ∃ v o, FR v o ∧ CellsV w v cs := by
  obtain ⟨xs, n, rfl, hx, hlen, hxl, hf⟩ := DataW.trod_struct Tryd.underlying37 h
  have hxl' : xs.length = 5 := hxl
  have hlen' : cs.length = 5 := hlen.trans (by kernel_rfl)
  unfold WtOk at hw
  rw [hx] at hw
  unfold DataW.weights at hw
  rw [Tryd.underlying37] at hw
  simp only at hw
  have hwt := wtEach hw
  match cs, hlen' with
  | [a, b, c, d, e], _ =>
    have c9 : Tryd.prog.cellsOf 9 = 1 := by kernel_rfl
    have c3 : Tryd.prog.cellsOf 3 = 1 := by kernel_rfl
    have c34 : Tryd.prog.cellsOf 34 = 1 := by kernel_rfl
    have c35 : Tryd.prog.cellsOf 35 = 1 := by kernel_rfl
    have f0 : DataW.trod enc Tryd.prog w 0 (fun _ => true) true n 9 [a] = xs[0]? := by
      have h : DataW.trod enc Tryd.prog w 0 (fun _ => true) true n 9 ((([a, b, c, d, e] : List Value).drop 0).take (Tryd.prog.cellsOf 9)) = xs[0]? := hf 0 _ rfl
      rw [c9] at h; exact h
    have f1 : DataW.trod enc Tryd.prog w 0 (fun _ => true) true n 34 [b] = xs[1]? := by
      have h : DataW.trod enc Tryd.prog w 0 (fun _ => true) true n 34 ((([a, b, c, d, e] : List Value).drop 1).take (Tryd.prog.cellsOf 34)) = xs[1]? := hf 1 _ rfl
      rw [c34] at h; exact h
    have f2 : DataW.trod enc Tryd.prog w 0 (fun _ => true) true n 34 [c] = xs[2]? := by
      have h : DataW.trod enc Tryd.prog w 0 (fun _ => true) true n 34 ((([a, b, c, d, e] : List Value).drop 2).take (Tryd.prog.cellsOf 34)) = xs[2]? := hf 2 _ rfl
      rw [c34] at h; exact h
    have f3 : DataW.trod enc Tryd.prog w 0 (fun _ => true) true n 3 [d] = xs[3]? := by
      have h : DataW.trod enc Tryd.prog w 0 (fun _ => true) true n 3 ((([a, b, c, d, e] : List Value).drop 3).take (Tryd.prog.cellsOf 3)) = xs[3]? := hf 3 _ rfl
      rw [c3] at h; exact h
    have f4 : DataW.trod enc Tryd.prog w 0 (fun _ => true) true n 35 [e] = xs[4]? := by
      have h : DataW.trod enc Tryd.prog w 0 (fun _ => true) true n 35 ((([a, b, c, d, e] : List Value).drop 4).take (Tryd.prog.cellsOf 35)) = xs[4]? := hf 4 _ rfl
      rw [c35] at h; exact h
    rw [List.getElem?_eq_getElem (by omega)] at f0 f1 f2 f3 f4
    obtain ⟨s, rfl⟩ := str_of f0
    obtain ⟨k, rfl, _⟩ := cell_of f3
    obtain ⟨pv, ps, ⟨hp, hpl⟩, hp'⟩ := ints_rel f1 (hwt 1 34 _ rfl (by simp [List.getElem?_eq_getElem (show 1 < xs.length by omega)]))
    obtain ⟨lv, ls, ⟨hl, hll⟩, hl'⟩ := ints_rel f2 (hwt 2 34 _ rfl (by simp [List.getElem?_eq_getElem (show 2 < xs.length by omega)]))
    obtain ⟨tv, ts, ⟨ht, htl, htr, htn⟩, ht'⟩ := lists_rel f4 (hwt 4 35 _ rfl (by simp [List.getElem?_eq_getElem (show 4 < xs.length by omega)]))
    refine ⟨_, ⟨s.data.toList, ps, ls, k, ts⟩, ⟨⟨pv, lv, tv, rfl, hp, hl, ht⟩, hpl, hll, htl, htr, htn⟩, rfl, fun j h1 h2 => ?_⟩
    have : j < 5 := h2
    match j, this with
    | 0, _ => exact .str s
    | 1, _ => exact hp'.to hp.one.2.2
    | 2, _ => exact hl'.to hl.one.2.2
    | 3, _ => exact .int ..
    | 4, _ => exact ht'.to ht.one.2.2
set_option maxRecDepth 20000 in
/-- A MODULE, READ. -/
theorem m_rel {H : Type} {enc : TypeId × Value → H} {w : World} {n : Nat} {cs : List Value} {x : DataW H × List MemPlace} (h : DataW.trod enc Tryd.prog w 0 (fun _ => true) true n 24 cs = some x) (hw : WtOk 24 x.1) : ∃ v m, MV v m ∧ Fits m ∧ Nums m ∧ CellsV w v cs := by
  obtain ⟨xs, n, rfl, hx, hlen, hxl, hf⟩ := DataW.trod_struct Tryd.underlying24 h
  have hxl' : xs.length = 3 := hxl
  have hlen' : cs.length = 3 := hlen.trans (by kernel_rfl)
  unfold WtOk at hw
  rw [hx] at hw
  unfold DataW.weights at hw
  rw [Tryd.underlying24] at hw
  simp only at hw
  have hwt := wtEach hw
  match cs, hlen' with
  | [a, b, c], _ =>
    have c22 : Tryd.prog.cellsOf 22 = 1 := by kernel_rfl
    have c3 : Tryd.prog.cellsOf 3 = 1 := by kernel_rfl
    have f0 : DataW.trod enc Tryd.prog w 0 (fun _ => true) true n 22 [a] = xs[0]? := by
      have h : DataW.trod enc Tryd.prog w 0 (fun _ => true) true n 22 ((([a, b, c] : List Value).drop 0).take (Tryd.prog.cellsOf 22)) = xs[0]? := hf 0 _ rfl
      rw [c22] at h; exact h
    have f1 : DataW.trod enc Tryd.prog w 0 (fun _ => true) true n 3 [b] = xs[1]? := by
      have h : DataW.trod enc Tryd.prog w 0 (fun _ => true) true n 3 ((([a, b, c] : List Value).drop 1).take (Tryd.prog.cellsOf 3)) = xs[1]? := hf 1 _ rfl
      rw [c3] at h; exact h
    have f2 : DataW.trod enc Tryd.prog w 0 (fun _ => true) true n 3 [c] = xs[2]? := by
      have h : DataW.trod enc Tryd.prog w 0 (fun _ => true) true n 3 ((([a, b, c] : List Value).drop 2).take (Tryd.prog.cellsOf 3)) = xs[2]? := hf 2 _ rfl
      rw [c3] at h; exact h
    rw [List.getElem?_eq_getElem (by omega)] at f0 f1 f2
    obtain ⟨k1, rfl, _⟩ := cell_of f1
    obtain ⟨k2, rfl, _⟩ := cell_of f2
    obtain ⟨fv, fs, h1, h2, h3⟩ := slice_rel (sz := 5) FR Tryd.underlying22 (by kernel_rfl) (by omega) (of_decide_eq_true (by kernel_rfl)) (fun n cs' d q h hw => f_rel h hw) f0 (hwt 0 22 _ rfl (by simp [List.getElem?_eq_getElem (show 0 < xs.length by omega)]))
    have hfv : FsV fv fs ∧ ∀ f ∈ fs, ∃ v, FR v f := by
      rcases h2 with ⟨rfl, rfl⟩ | ⟨vs, rfl, h4⟩
      · exact ⟨.inl ⟨rfl, rfl⟩, by simp⟩
      · exact ⟨.inr ⟨false, vs, rfl, h4.mono fun _ _ h => h.1⟩, h4.right fun v _ h => ⟨v, h⟩⟩
    obtain ⟨hfv, hall⟩ := hfv
    refine ⟨_, ⟨fs, k1, k2⟩, ⟨fv, rfl, hfv⟩, ⟨h3, fun f hf => ?_, fun f hf => ?_, fun f hf => ?_, fun f hf => ?_⟩, fun f hf => ?_, rfl, fun j h4 h5 => ?_⟩
    · obtain ⟨v, h⟩ := hall f hf; exact h.2.1
    · obtain ⟨v, h⟩ := hall f hf; exact h.2.2.1
    · obtain ⟨v, h⟩ := hall f hf; exact h.2.2.2.1
    · obtain ⟨v, h⟩ := hall f hf; exact h.2.2.2.2.1
    · obtain ⟨v, h⟩ := hall f hf; exact h.2.2.2.2.2
    have : j < 3 := h5
    match j, this with
    | 0, _ => exact h1.to hfv.one.2.2
    | 1, _ => exact .int ..
    | 2, _ => exact .int ..
end Go.Proofs.YthifgodgfhbnfaaDoor
set_option linter.unusedSimpArgs false
set_option linter.unusedVariables false
namespace Go
open Go.ChangeShapes Go.WideShapes Go.ChangeAt Go.RowKit
/-- as the kit's 'returnsInHanded_of_change_and'; the contract is told besides that the variables are shaped, and the sizes -/
theorem returnsInHanded_of_change_and_shaped {H : Type} {enc : TypeId × Value → H} {a : Assume} {C : Checked} {os : Os} {f : FuncId} {fn : Func} {s : ChangeSpec} {conds : List PathCond} {apart fresh handsOn again : Bool} {X : World → Array Value → Prop}
    (hX : ∀ (w w' : World) (args : Array Value), w.heap = w'.heap → X w args → X w' args)
    (own : ownKnob C.prog.godebug = none) (started : os.Started) (noInit : C.prog.inits.idxOf? f = none) (hfn : C.prog.funcs[f]? = some fn)
    (witness : ∃ (w : World) (tape : Tape) (i : Input), w.os = os ∧ (w.forCall tape i).Shaped C.prog ∧ i.vars = [] ∧ Input.okWide C.prog (w.forCall tape i) .any w.heap.size f i ∧
      ((s.pre enc C.prog fn conds apart (w.forCall tape i).memory i.args ∧ X (w.forCall tape i).memory i.args) ∧ sizedMet enc C.prog fn (OpenSpec.ofChange s) apart (w.forCall tape i).memory i.args) ∧ a.holds C.prog (lone (Frame.enter C.prog f i.args .normal) [] (w.forCall tape i)))
    (contract : ∀ (W : World) (base : Nat) (args : Array Value) (ds gs : List (DataW H)) (before : List MemPlace),
      (∀ (j : Nat) t v, fn.params[j]? = some t → args[j]? = some v → Value.okWide C.prog W .any base t v) →
      DataW.Whole enc C.prog fn.params.toList s.vars apart W args.toList ds gs before → (DataW.weightsEach C.prog (fn.params.toList ++ s.plain.varTypes C.prog) (ds ++ gs)).all (· ≤ reachBytes) = true → W.ShapedOpen C.prog → X W args →
      Calls C.prog f args W fun e W' => ∃ v, e = .returned v ∧ s.post enc C.prog fn apart fresh handsOn again W args v W') :
    ReturnsInHanded a C os f .any (fun w args => (s.pre enc C.prog fn conds apart w args ∧ X w args) ∧ sizedMet enc C.prog fn (OpenSpec.ofChange s) apart w args) (s.post enc C.prog fn apart fresh handsOn again) := by
  refine returnsInHanded_of_calls own started noInit witness ?_
  intro w tape i _ hsh _ hok hpre hholds
  obtain ⟨_, _, _, fn', hfn', _, _, _, _, hval⟩ := hok
  have e : fn' = fn := Option.some.inj (hfn'.symm.trans hfn)
  subst e
  obtain ⟨⟨⟨ds, gs, before, hw, hc⟩, hx⟩, hz⟩ := hpre
  have hw' := DataW.Whole.of_heap (w' := w.forCall tape i) (by rfl) hw
  refine (contract (w.forCall tape i) w.heap.size i.args ds gs before hval hw' (hz.weights hw) hsh (hX _ _ _ (by rfl) hx)).mono fun e W' ⟨v, he, hp⟩ => ?_
  subst he
  exact ChangeSpec.post_blind hp
/-- an array of strings that reads as the list holds its strings, cell for cell -/
theorem cells_of_strs {H : Type} {enc : TypeId × Value → H} {P : Program} {w : World} {base : Nat} {sp : Nat → Bool} {held : Bool} {fuel : Nat} {t e : TypeId} {n : Nat} {cs : List Value} {ls : List (List UInt8)} {p : List MemPlace}
    (ht : P.underlying t = some (.array n e)) (he : P.underlying e = some .string) (hce : P.cellsOf e = 1) (hct : P.cellsOf t = n)
    (h : DataW.trod enc P w base sp held fuel t cs = some (.agg (ls.map fun l => .lit (.string l)), p)) : cs = ls.map fun l => Value.string ⟨l.toArray⟩ := by
  cases fuel with
  | zero => simp [DataW.trod] at h
  | succ fuel =>
    simp only [DataW.trod, ht, hce, hct, Nat.mul_one] at h
    split at h
    · rename_i hl
      obtain ⟨xs, hm, hx⟩ := Option.map_eq_some_iff.1 h
      have hxs : xs.map (·.1) = ls.map fun l => (DataW.lit (.string l) : DataW H) := by
        have := congrArg Prod.fst hx
        simpa using this
      have hxl : xs.length = n := by simpa using Lib.mapM_length hm
      have hzl : ls.length = n := by
        have := congrArg List.length hxs
        simp at this
        omega
      apply List.ext_getElem?
      intro i
      by_cases hi : i < n
      · obtain ⟨b, hb, hf⟩ := Lib.mapM_at hm i i (by simp [hi])
        obtain ⟨s, hc, rfl, _⟩ := DataW.trod_string he hf
        have h1 : cs[i]? = some (.string s) := by
          have := congrArg (·[0]?) hc
          simpa [List.getElem?_take, List.getElem?_drop] using this
        have h2 : (xs.map (·.1))[i]? = some (DataW.lit (.string s.data.toList) : DataW H) := by simp [hb]
        rw [hxs] at h2
        simp only [List.getElem?_map, Option.map_eq_some_iff, DataW.lit.injEq, Lit.string.injEq] at h2
        obtain ⟨l, hl1, hl2⟩ := h2
        simp [h1, hl1, hl2]
      · rw [List.getElem?_eq_none (by omega), List.getElem?_eq_none (by simp; omega)]
    · cases h
/-- an array of pairs of strings that reads as the list holds its strings, cell for cell -/
theorem pairs_flat {g : List UInt8 × List UInt8 → List Value} : ∀ (ls : List (List UInt8 × List UInt8)) (cs : List Value), cs.length = ls.length * 2 → (∀ i (h : i < ls.length), (cs.drop (i * 2)).take 2 = g ls[i]) → cs = (ls.map g).flatten
  | [], cs, h, _ => by simpa using h
  | l :: ls, cs, h, hg => by
    have h0 := hg 0 (by simp)
    have ih := pairs_flat (g := g) ls (cs.drop 2) (by rw [List.length_drop, h, List.length_cons]; omega) fun i hi => by
      have := hg (i + 1) (Nat.succ_lt_succ hi)
      rw [List.drop_drop]
      have e : 2 + i * 2 = (i + 1) * 2 := by omega
      rw [e]; exact this
    simp only [List.map_cons, List.flatten_cons, ← ih]
    simp at h0
    rw [← h0, List.take_append_drop]
theorem cells_of_pairs {H : Type} {enc : TypeId × Value → H} {P : Program} {w : World} {base : Nat} {sp : Nat → Bool} {held : Bool} {fuel : Nat} {t e u : TypeId} {n : Nat} {cs : List Value} {ls : List (List UInt8 × List UInt8)} {p : List MemPlace}
    (ht : P.underlying t = some (.array n e)) (he : P.underlying e = some (.array 2 u)) (hu : P.underlying u = some .string) (hcu : P.cellsOf u = 1) (hce : P.cellsOf e = 2) (hct : P.cellsOf t = n * 2)
    (h : DataW.trod enc P w base sp held fuel t cs = some (.agg (ls.map fun l => .agg [.lit (.string l.1), .lit (.string l.2)]), p)) : cs = (ls.map fun l => [Value.string ⟨l.1.toArray⟩, Value.string ⟨l.2.toArray⟩]).flatten := by
  cases fuel with
  | zero => simp [DataW.trod] at h
  | succ fuel =>
    simp only [DataW.trod, ht, hce, hct] at h
    split at h
    · rename_i hl
      obtain ⟨xs, hm, hx⟩ := Option.map_eq_some_iff.1 h
      have hxs : xs.map (·.1) = ls.map fun l => (DataW.agg [.lit (.string l.1), .lit (.string l.2)] : DataW H) := by
        have := congrArg Prod.fst hx
        simpa using this
      have hxl : xs.length = n := by simpa using Lib.mapM_length hm
      have hzl : ls.length = n := by
        have := congrArg List.length hxs
        simp at this
        omega
      refine pairs_flat ls cs (by omega) fun i hi => ?_
      have hin : i < n := by omega
      obtain ⟨b, hb, hf⟩ := Lib.mapM_at hm i i (by simp [hin])
      obtain ⟨b1, b2⟩ := b
      have hbe : b1 = (DataW.agg ([ls[i].1, ls[i].2].map fun l => .lit (.string l)) : DataW H) := by
        have h2 : (xs.map (·.1))[i]? = some b1 := by simp [hb]
        rw [hxs] at h2
        have h3 := h2
        rw [List.getElem?_map, List.getElem?_eq_getElem hi] at h3
        exact (Option.some.inj h3).symm
      rw [hbe] at hf
      exact cells_of_strs he hu hcu hce hf
    · cases h
end Go
namespace Go.Proofs.YthifgodgfhbnfaaDoor
open Go Go.Abs Go.RowKit
theorem own : ownKnob Tryd.prog.godebug = none := by kernel_rfl
abbrev LAID : List (String × DataW Unit) := [("mortise/wasm.signs", Rows.laid_mortise_wasm_signs)]
/-- what the variables hold -/
def GD (m : Int) : Env where
  g := fun x => match x with | 0 => .pv (.stat true) (.agg signCells) | 1 => .pv (.stat true) (.int .i64 m) | _ => .undef
  has := fun _ => False
  y := fun _ _ _ _ _ => False
  fix := fun _ => none
theorem GD_vars (m) : Vars (GD m) := ⟨rfl, m, rfl⟩
structure WOk (m : Int) (w : World) : Prop where
  g : GOk Tryd.prog (GD m) (Mp.all w) AS.zero.F w
def signVals : List Value := (signs.map fun p => [Value.string ⟨p.1.toArray⟩, Value.string ⟨p.2.toArray⟩]).flatten
theorem signs_rel {M F} {w : World} : ∀ (ls : List (List UInt8 × List UInt8)) (j : Nat) (h : j < ((ls.map fun p => [AV.str p.1, AV.str p.2]).flatten).length),
    ∃ c, ((ls.map fun p => [Value.string ⟨p.1.toArray⟩, Value.string ⟨p.2.toArray⟩]).flatten)[j]? = some c ∧ VR M F w ((ls.map fun p => [AV.str p.1, AV.str p.2]).flatten)[j] c
  | [], j, h => by simp at h
  | l :: ls, j, h => by
    simp only [List.map_cons, List.flatten_cons, List.cons_append, List.nil_append] at h ⊢
    match j with
    | 0 => exact ⟨_, rfl, by simpa using VR.str (M := M) (F := F) (w := w) ⟨l.1.toArray⟩⟩
    | 1 => exact ⟨_, rfl, by simpa using VR.str (M := M) (F := F) (w := w) ⟨l.2.toArray⟩⟩
    | j + 2 => simpa using signs_rel ls j (by simpa using h)
theorem wok_of_laid {W : World} (hs : W.ShapedOpen Tryd.prog) (hl : laidMetH Tryd.prog LAID W) : ∃ m, WOk m W := by
  have hl0 : laidMet Tryd.prog LAID W := hl
  obtain ⟨m, hm⟩ := Tryd.laysM143.s1_3 W hs
  obtain ⟨ps, ⟨g, t, cs, fuel, p, q, g1, g2, g3, g4, _, _⟩, _⟩ := hl0
  have hg0 : g = 0 := Option.some.inj (g1.symm.trans (show Tryd.prog.globalNamed "mortise/wasm.signs" = some 0 by kernel_rfl))
  subst hg0
  have ht0 : t = 149 := Option.some.inj (g2.symm.trans (show (Tryd.prog.globals[0]?).map (·.type) = some 149 by kernel_rfl))
  subst ht0
  have hcs : cs.toList = signVals := cells_of_pairs (n := 16) (e := 148) (u := 9) (ls := signs) Tryd.underlying149 Tryd.underlying148 Tryd.underlying9 (by kernel_rfl) (by kernel_rfl) (by kernel_rfl) g4
  have hv0 : ∀ j, W.cell? ⟨0, j, none⟩ = cs[j]? := fun j => by
    have := World.var?_cell (show Tryd.prog.globalNamed "mortise/wasm.signs" = some 0 by kernel_rfl) g3 j
    simpa using this
  have hl1 : 1 < W.heap.size := World.block_lt_of_cell? W _ hm
  have hl0' : 0 < W.heap.size := by omega
  refine ⟨m, ⟨⟨fun x => ?_, fun _ h => h.elim, fun B c h => by cases h⟩⟩⟩
  match x with
  | 0 =>
    refine .pv _ _ 0 0 (fun j => signVals.getD j undef) (by simp [Mem, Mp.all, hl0']) (fun _ j hj => ?_) (fun _ j hj => ?_)
    · obtain ⟨c, h1, _⟩ := signs_rel (M := Mp.all W) (F := AS.zero.F) (w := W) signs j hj
      rw [Nat.zero_add, hv0 j, ← Array.getElem?_toList, hcs, List.getD_eq_getElem?_getD]
      show signVals[j]? = _
      have h1' : signVals[j]? = some c := h1
      rw [h1']; rfl
    · obtain ⟨c, h1, h2⟩ := signs_rel (M := Mp.all W) (F := AS.zero.F) (w := W) signs j hj
      have h1' : signVals[j]? = some c := h1
      rw [List.getD_eq_getElem?_getD, h1']
      exact h2
  | 1 =>
    refine .pv _ _ 1 0 (fun j => .int .i64 m) (by simp [Mem, Mp.all, hl1]) (fun _ j hj => ?_) (fun _ j hj => ?_)
    · have hj' : j = 0 := by simpa using hj
      subst hj'
      exact hm
    · have hj' : j = 0 := by simpa using hj
      subst hj'
      exact VR.int ..
  | n + 2 => exact .undef _
def layIn (cs : Array Value) : Obj → Obj
  | .cells _ t fr => .cells cs t fr
  | o => o
/-- the settled world with the table laid: the witness -/
noncomputable def laidWorld (os : Os) : World :=
  let w0 := World.holding Tryd.prog os ⟨#[], #[], []⟩
  { w0 with heap := w0.heap.modify 0 (layIn signVals.toArray) }
theorem laid_met (os : Os) (args : Array Value) : laidMetH Tryd.prog LAID ((laidWorld os).forCall (fun _ _ => 0) ⟨#[], args, []⟩).memory :=
  show laidMet Tryd.prog LAID _ from laidMet_of_run' 8 (by kernel_rfl) (by kernel_rfl)
theorem cells1 {M F w} {x : AV} {c : Value} (h : VR M F w x c) : Cells M F w [x] #[c] := ⟨rfl, fun j v hj => by
  match j with
  | 0 => simp at hj; subst hj; exact ⟨c, rfl, h⟩
  | j + 1 => simp at hj⟩
end Go.Proofs.YthifgodgfhbnfaaDoor
