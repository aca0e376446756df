/- What the measures of a module, and the comparison of two lists of numbers, come to, under the conditions that each theorem names. -/
import Derived.Test.YthifgodgfhbnfaaDoorK
import Derived.Test.YthifgodgfhbnfaaDoorQ
set_option linter.unusedSimpArgs false
set_option linter.unusedVariables false
namespace Go.Proofs.YthifgodgfhbnfaaDoor
open Go Go.Abs
/-- a module whose lists are no longer than memory allows -/
structure Fits (m : M) : Prop where
  funcs : m.funcs.length ≤ 2 ^ 47
  params : ∀ f ∈ m.funcs, f.params.length ≤ 2 ^ 47
  locals : ∀ f ∈ m.funcs, f.locals.length ≤ 2 ^ 47
  lists : ∀ f ∈ m.funcs, f.lists.length ≤ 2 ^ 47
  rows : ∀ f ∈ m.funcs, ∀ l ∈ f.lists, l.length ≤ 2 ^ 47
/-- what is small for the statements -/
structure SmallF (f : F) : Prop where
  params : f.params.length ≤ 3000
  locals : f.locals.length ≤ 3000
  lists : f.lists.length ≤ 300
  rows : ∀ l ∈ f.lists, l.length ≤ 3000
def BO (fv : AV) (m : M) (mb : Nat) (σ1 : AS) (a : Nat → AV) (τ : AS) : Prop := ∃ (i z : Nat), i ≤ m.funcs.length ∧ z ≤ 3000 ∧ a 1 = .ptr mb 0 ∧ a 3 = .int .i64 (z : Int) ∧ a 4 = .int .i64 (i : Int) ∧ Adds σ1 τ ∧ ∀ j f, j < i → m.funcs[j]? = some f → SmallF f
def BN (m : M) (mb fb : Nat) (σ1 : AS) (i : Nat) (f : F) (base : Nat) (a : Nat → AV) (τ : AS) : Prop := ∃ (k : Nat) (z : Int), k ≤ f.lists.length ∧ a 1 = .ptr mb 0 ∧ a 4 = .int .i64 (i : Int) ∧ a 5 = .ptr fb 0 ∧ a 6 = .int .i64 (k : Int) ∧ a 3 = .int .i64 z ∧ Adds σ1 τ ∧ (f.lists.length ≤ 300 → z = ((base + sumC id (f.lists.take k) : Nat) : Int))
theorem sumC_take_succ {ls : To} {k : Nat} (h : k < ls.length) : sumC id (ls.take (k + 1)) = sumC id (ls.take k) + ls[k].length := by
  rw [List.take_succ_eq_append_getElem h, sumC_append]
  simp [sumC]
theorem sumC_bound {ls : To} {B : Nat} (h : ∀ l ∈ ls, l.length ≤ B) : sumC id ls ≤ ls.length * B := by
  induction ls with
  | nil => simp [sumC]
  | cons l ls ih =>
    have h1 := h l (by simp)
    have h2 := ih fun x hx => h x (by simp [hx])
    simp only [sumC, List.map_cons, List.sum_cons, List.length_cons, id] at h2 ⊢
    rw [Nat.add_mul]; omega
theorem sumC_mem {ls : To} {l : List W} (h : l ∈ ls) : l.length ≤ sumC id ls := by
  induction ls with
  | nil => simp at h
  | cons x ls ih =>
    simp only [sumC, List.map_cons, List.sum_cons, id] at ih ⊢
    rcases List.mem_cons.1 h with rfl | h
    · omega
    · have := ih h; omega
set_option maxRecDepth 20000 in
theorem big_calls {G : Env} {σ : AS} {R : Out → AS → Prop} {mv : AV} {m : M} (hm : MV mv m) (hf : Fits m) (h : ∀ b σ', (b = false → m.funcs.length ≤ 12 ∧ ∀ f ∈ m.funcs, SmallF f) → Adds σ σ' → R (.ret (.bool b)) σ') : ACalls Tryd.prog G 9 [mv] σ R := by
  refine calls9 rfl ?_
  obtain ⟨fv, rfl, hfs⟩ := hm
  have f1 := hfs.one
  have hfl := hfs.len
  by_cases hb : (12 : Int) < (m.funcs.length : Int)
  · simp [pc9, hfl, f1, hb]
    exact h true _ (by simp) (Adds.refl σ).newO
  · simp [pc9, hfl, f1, hb]
    have A1 : Adds σ (σ.newO [fv, AV.int IntKind.i64 m.memory, AV.int IntKind.i64 m.main]) := (Adds.refl σ).newO
    have hm1 : (σ.newO [fv, AV.int IntKind.i64 m.memory, AV.int IntKind.i64 m.main]).objs σ.no = some [fv, .int .i64 m.memory, .int .i64 m.main] := by simp
    have hno1 : (σ.newO [fv, AV.int IntKind.i64 m.memory, AV.int IntKind.i64 m.main]).no = σ.no + 1 := by simp
    generalize σ.newO [fv, AV.int IntKind.i64 m.memory, AV.int IntKind.i64 m.main] = σ1 at *
    refine aloop (BO fv m σ.no σ1) (MU 4 (m.funcs.length + 1)) ⟨0, 0, by omega, by omega, by simp, by simp, by simp, .refl _, fun j f hj => by omega⟩ fun a τ hI => ?_
    obtain ⟨i, z, hi, hz, a1, a3, a4, A, hall⟩ := hI
    have hm2 := (A.obj σ.no (by omega)).trans hm1
    by_cases hlt : i < m.funcs.length
    · obtain ⟨b, rv, hfv, hix⟩ := hfs.at hlt
      have hmem := List.getElem_mem hlt
      have hget : m.funcs[i]? = some m.funcs[i] := List.getElem?_eq_getElem hlt
      have q1 := hf.params _ hmem
      have q2 := hf.locals _ hmem
      have q3 := hf.lists _ hmem
      have q4 := hf.rows _ hmem
      generalize m.funcs[i] = f at *
      obtain ⟨pv, lv, tv, rfl, hp, hl, ht⟩ := hfv
      have p1 := hp.one
      have l1 := hl.one
      have t1 := ht.one
      have hpl := hp.len
      have hll := hl.len
      have htl := ht.len
      have w1 : IntKind.wrap .i64 ((z : Int) + (f.params.length : Int)) = (z : Int) + (f.params.length : Int) := by rw [wrap_i64] <;> omega
      have w2 : IntKind.wrap .i64 ((z : Int) + (f.params.length : Int) + (f.locals.length : Int)) = (z : Int) + (f.params.length : Int) + (f.locals.length : Int) := by rw [wrap_i64] <;> omega
      have w3 : IntKind.wrap .i64 ((z : Int) + (f.params.length : Int) + (f.locals.length : Int) + (f.lists.length : Int)) = (z : Int) + (f.params.length : Int) + (f.locals.length : Int) + (f.lists.length : Int) := by rw [wrap_i64] <;> omega
      have hlt' : (i : Int) < (m.funcs.length : Int) := by omega
      have hmn : σ.no ≠ τ.no := by have := A.no; omega
      simp [pc9_l2, a1, a3, a4, hm2, hfl, f1, hlt, hix, p1, l1, t1, hpl, hll, htl, w1, w2, w3, splice]
      have A3 : Adds τ ((τ.newO [AV.str [], AV.nilsl, AV.nilsl, AV.int IntKind.i64 0, AV.nilsl]).setO τ.no [AV.str f.name, pv, lv, AV.int IntKind.i64 f.type, tv]) := ((Adds.refl τ).newO).setO (Nat.le_refl _)
      have hf3 : ((τ.newO [AV.str [], AV.nilsl, AV.nilsl, AV.int IntKind.i64 0, AV.nilsl]).setO τ.no [AV.str f.name, pv, lv, AV.int IntKind.i64 f.type, tv]).objs τ.no = some [.str f.name, pv, lv, .int .i64 f.type, tv] := by simp
      have hn3 : ((τ.newO [AV.str [], AV.nilsl, AV.nilsl, AV.int IntKind.i64 0, AV.nilsl]).setO τ.no [AV.str f.name, pv, lv, AV.int IntKind.i64 f.type, tv]).no = τ.no + 1 := by simp
      generalize (τ.newO [AV.str [], AV.nilsl, AV.nilsl, AV.int IntKind.i64 0, AV.nilsl]).setO τ.no [AV.str f.name, pv, lv, AV.int IntKind.i64 f.type, tv] = σ3 at *
      have hbase : f.lists.length ≤ 300 → ((z : Int) + (f.params.length : Int) + (f.locals.length : Int) + (f.lists.length : Int)) = ((z + f.params.length + f.locals.length + f.lists.length + sumC id (f.lists.take 0) : Nat) : Int) := fun _ => by simp [sumC]
      refine aloop (BN m σ.no τ.no σ3 i f (z + f.params.length + f.locals.length + f.lists.length)) (MU 6 (f.lists.length + 1)) ⟨0, _, by omega, by simp [a1], by simp [a4], by simp, by simp, by simp, .refl _, hbase⟩ fun b ρ hJ => ?_
      obtain ⟨k, y, hk, b1, b4, b5, b6, b3, A4, hy⟩ := hJ
      have hf4 := (A4.obj τ.no (by omega)).trans hf3
      by_cases hkl : k < f.lists.length
      · obtain ⟨b', rv, hrep, hix2⟩ := ht.at hkl
        have hrl := q4 _ (List.getElem_mem hkl)
        have r1 := hrep.one
        have hrlen := hrep.len
        have w5 : IntKind.wrap .i64 ((k : Int) + 1) = ((k + 1 : Nat) : Int) := by rw [wrap_i64] <;> omega
        simp [pc9_l1, b1, b4, b5, b6, b3, hf4, htl, hkl, hix2, r1, hrlen, w5]
        refine ⟨⟨k + 1, IntKind.wrap .i64 (y + (f.lists[k].length : Int)), by omega, by simp [b1], by simp [b4], by simp [b5], by simp, by simp, A4, fun h3 => ?_⟩, ?_⟩
        · have e := hy h3
          have hB := sumC_bound (ls := f.lists.take k) (B := 2 ^ 47) fun l hl => q4 l (List.mem_of_mem_take hl)
          have hkk : (f.lists.take k).length ≤ 300 := by rw [List.length_take]; omega
          have hB2 : sumC id (f.lists.take k) ≤ 300 * 2 ^ 47 := Nat.le_trans hB (Nat.mul_le_mul_right _ hkk)
          rw [sumC_take_succ hkl, e, wrap_i64] <;> omega
        · simp only [MU, b6]; simp; omega
      · have he : k = f.lists.length := by omega
        subst he
        rw [List.take_length] at hy
        have w5 : IntKind.wrap .i64 ((i : Int) + 1) = ((i + 1 : Nat) : Int) := by have := hf.funcs; rw [wrap_i64] <;> omega
        by_cases hbig : (3000 : Int) < y
        · simp [pc9_l1, pc9_r1, b5, b6, b3, hf4, htl, hbig]
          exact h true _ (by simp) (A1.trans (A.trans (A3.trans A4)))
        · by_cases hbl : (300 : Int) < (f.lists.length : Int)
          · simp [pc9_l1, pc9_r1, b5, b6, b3, hf4, htl, hbig, hbl]
            exact h true _ (by simp) (A1.trans (A.trans (A3.trans A4)))
          · simp [pc9_l1, pc9_r1, pc9_r2, b4, b5, b6, b3, hf4, htl, hbig, hbl, w5]
            have e := hy (by omega)
            refine ⟨⟨i + 1, y.toNat, by omega, by omega, by simp [b1], by simp [b3]; omega, by simp, A.trans (A3.trans A4), fun j g hj hg => ?_⟩, ?_⟩
            · by_cases ej : j = i
              · subst ej
                rw [hget] at hg
                cases hg
                exact ⟨by omega, by omega, by omega, fun l hl => by have := sumC_mem hl; omega⟩
              · exact hall j g (by omega) hg
            · simp only [MU, a4]; simp; omega
    · have he : i = m.funcs.length := by omega
      subst he
      simp [pc9_l2, pc9_r3, a1, a4, hm2, hfl, f1]
      refine h false _ (fun _ => ⟨by omega, fun f hf => ?_⟩) (A1.trans A)
      obtain ⟨j, hj, rfl⟩ := List.mem_iff_getElem.1 hf
      exact hall j _ hj (List.getElem?_eq_getElem hj)
end Go.Proofs.YthifgodgfhbnfaaDoor
set_option linter.unusedSimpArgs false
set_option linter.unusedVariables false
namespace Go.Proofs.YthifgodgfhbnfaaDoor
open Go Go.Abs
def SJ (va vb : AV) (p q : List Int) (σ : AS) (a : Nat → AV) (τ : AS) : Prop := ∃ i : Nat, i ≤ p.length ∧ a 0 = va ∧ a 1 = vb ∧ a 5 = .int .i64 (i : Int) ∧ τ = σ ∧ p.take i = q.take i
theorem sameInts_calls {G : Env} {σ : AS} {R : Out → AS → Prop} {va vb : AV} {p q : List Int} (ha : IntsV va p) (hb : IntsV vb q) (hl : p.length ≤ 2 ^ 40) (h : R (.ret (.bool (decide (p = q)))) σ) : ACalls Tryd.prog G 18 [va, vb] σ R := by
  refine calls18 rfl ?_
  have hal := ha.len
  have hbl := hb.len
  by_cases he : p.length = q.length
  · have he' : (p.length : Int) = (q.length : Int) := by omega
    simp [pc18, hal, hbl, he]
    refine aloop (SJ va vb p q σ) (MU 5 (p.length + 1)) ⟨0, by omega, by simp, by simp, by simp, rfl, by simp⟩ fun a τ hI => ?_
    obtain ⟨i, hi, a0, a1, a5, rfl, ht⟩ := hI
    by_cases hlt : i < p.length
    · have hlq : i < q.length := by omega
      obtain ⟨b1, hx1⟩ := ha.at hlt
      obtain ⟨b2, hx2⟩ := hb.at hlq
      have w5 : IntKind.wrap .i64 ((i : Int) + 1) = ((i + 1 : Nat) : Int) := by rw [wrap_i64] <;> omega
      by_cases hv : p[i] = q[i]
      · simp [pc18_l1, a0, a1, a5, hal, hlt, hx1, hx2, hv, w5]
        refine ⟨⟨i + 1, by omega, by simp [a0], by simp [a1], by simp, rfl, ?_⟩, ?_⟩
        · rw [List.take_succ_eq_append_getElem hlt, List.take_succ_eq_append_getElem hlq, ht, hv]
        · simp only [MU, a5]; simp; omega
      · have hne : p ≠ q := by rintro rfl; exact hv rfl
        rw [decide_eq_false hne] at h
        simp [pc18_l1, a0, a1, a5, hal, hlt, hx1, hx2, hv]
        exact h
    · have e : i = p.length := by omega
      subst e
      rw [List.take_length, List.take_of_length_le (by omega)] at ht
      rw [decide_eq_true ht] at h
      simp [pc18_l1, pc18_r1, a0, a1, a5, hal]
      exact h
  · have hne : p ≠ q := by rintro rfl; exact he rfl
    rw [decide_eq_false hne] at h
    have he' : ¬ (p.length : Int) = (q.length : Int) := by omega
    simp [pc18, hal, hbl, he']
    exact h
def sizeN (fs : List F) : Nat := (fs.map fun f => sumC id f.lists).sum
def sizeL (fs : List F) : Nat := (fs.map fun f => f.lists.length).sum
theorem sizeN_succ {fs : List F} {i : Nat} (h : i < fs.length) : sizeN (fs.take (i + 1)) = sizeN (fs.take i) + sumC id fs[i].lists := by
  unfold sizeN; rw [List.take_succ_eq_append_getElem h, List.map_append, List.sum_append]; simp only [List.map_cons, List.map_nil, List.sum_cons, List.sum_nil, Nat.add_zero]
theorem sizeL_succ {fs : List F} {i : Nat} (h : i < fs.length) : sizeL (fs.take (i + 1)) = sizeL (fs.take i) + fs[i].lists.length := by
  unfold sizeL; rw [List.take_succ_eq_append_getElem h, List.map_append, List.sum_append]; simp only [List.map_cons, List.map_nil, List.sum_cons, List.sum_nil, Nat.add_zero]
theorem sizeN_le {fs : List F} (i : Nat) : sizeN (fs.take i) ≤ sizeN fs := by
  have : sizeN fs = sizeN (fs.take i) + sizeN (fs.drop i) := by unfold sizeN; rw [← List.sum_append, ← List.map_append, List.take_append_drop]
  omega
theorem sizeL_le {fs : List F} (i : Nat) : sizeL (fs.take i) ≤ sizeL fs := by
  have : sizeL fs = sizeL (fs.take i) + sizeL (fs.drop i) := by unfold sizeL; rw [← List.sum_append, ← List.map_append, List.take_append_drop]
  omega
def ZO (m : M) (mb : Nat) (σ1 : AS) (a : Nat → AV) (τ : AS) : Prop := ∃ i : Nat, i ≤ m.funcs.length ∧ a 1 = .ptr mb 0 ∧ a 4 = .int .i64 (sizeN (m.funcs.take i) : Int) ∧ a 5 = .int .i64 (sizeL (m.funcs.take i) : Int) ∧ a 6 = .int .i64 (i : Int) ∧ τ = σ1
def ZN (m : M) (mb : Nat) (σ1 : AS) (i : Nat) (f : F) (a : Nat → AV) (τ : AS) : Prop := ∃ k : Nat, k ≤ f.lists.length ∧ a 1 = .ptr mb 0 ∧ a 4 = .int .i64 ((sizeN (m.funcs.take i) + sumC id (f.lists.take k) : Nat) : Int) ∧ a 5 = .int .i64 ((sizeL (m.funcs.take i) + f.lists.length : Nat) : Int) ∧ a 6 = .int .i64 (i : Int) ∧ a 7 = .int .i64 (k : Int) ∧ τ = σ1
set_option maxRecDepth 20000 in
theorem size_calls {G : Env} {σ : AS} {R : Out → AS → Prop} {mv : AV} {m : M} (hm : MV mv m) (hn : sizeN m.funcs ≤ 2 ^ 60) (hl : sizeL m.funcs ≤ 2 ^ 60) (hf : m.funcs.length ≤ 2 ^ 40) (h : ∀ σ', Adds σ σ' → R (.ret (.tuple [.int .i64 (sizeN m.funcs : Int), .int .i64 (sizeL m.funcs : Int)])) σ') : ACalls Tryd.prog G 17 [mv] σ R := by
  refine calls17 rfl ?_
  obtain ⟨fv, rfl, hfs⟩ := hm
  have f1 := hfs.one
  have hfl := hfs.len
  simp [pc17, hfl, f1]
  have A1 : Adds σ (σ.newO [fv, AV.int IntKind.i64 m.memory, AV.int IntKind.i64 m.main]) := (Adds.refl σ).newO
  have hm1 : (σ.newO [fv, AV.int IntKind.i64 m.memory, AV.int IntKind.i64 m.main]).objs σ.no = some [fv, .int .i64 m.memory, .int .i64 m.main] := by simp
  generalize σ.newO [fv, AV.int IntKind.i64 m.memory, AV.int IntKind.i64 m.main] = σ1 at *
  refine aloop (ZO m σ.no σ1) (MU 6 (m.funcs.length + 1)) ⟨0, by omega, by simp, by simp [sizeN], by simp [sizeL], by simp, rfl⟩ fun a τ hI => ?_
  obtain ⟨i, hi, a1, a4, a5, a6, rfl⟩ := hI
  by_cases hlt : i < m.funcs.length
  · obtain ⟨b, rv, hfv, hix⟩ := hfs.at hlt
    have e1 := sizeN_succ hlt
    have e2 := sizeL_succ hlt
    have e3 := sizeN_le (fs := m.funcs) (i + 1)
    have e4 := sizeL_le (fs := m.funcs) (i + 1)
    generalize m.funcs[i] = f at *
    obtain ⟨pv, lv, tv, rfl, hp, hl', ht⟩ := hfv
    have p1 := hp.one
    have l1 := hl'.one
    have t1 := ht.one
    have htl := ht.len
    have w1 : IntKind.wrap .i64 ((sizeL (m.funcs.take i) : Int) + (f.lists.length : Int)) = ((sizeL (m.funcs.take i) + f.lists.length : Nat) : Int) := by rw [wrap_i64] <;> omega
    simp [pc17_l2, a1, a4, a5, a6, hm1, hfl, f1, hlt, hix, p1, l1, t1, htl, w1]
    refine aloop (ZN m σ.no τ i f) (MU 7 (f.lists.length + 1)) ⟨0, by omega, by simp [a1], by simp [a4, sumC], by simp, by simp [a6], by simp, rfl⟩ fun b ρ hJ => ?_
    obtain ⟨k, hk, b1, b4, b5, b6, b7, rfl⟩ := hJ
    by_cases hkl : k < f.lists.length
    · obtain ⟨b', rv, hrep, hix2⟩ := ht.at hkl
      have r1 := hrep.one
      have hrlen := hrep.len
      have e5 := sumC_take_succ hkl
      have e6 : sumC id (f.lists.take (k + 1)) ≤ sumC id f.lists := by
        have : sumC id f.lists = sumC id (f.lists.take (k + 1)) + sumC id (f.lists.drop (k + 1)) := by rw [← sumC_append, List.take_append_drop]
        omega
      have w5 : IntKind.wrap .i64 ((k : Int) + 1) = ((k + 1 : Nat) : Int) := by rw [wrap_i64] <;> omega
      have w6 : IntKind.wrap .i64 (((sizeN (m.funcs.take i) + sumC id (f.lists.take k) : Nat) : Int) + (f.lists[k].length : Int)) = ((sizeN (m.funcs.take i) + sumC id (f.lists.take (k + 1)) : Nat) : Int) := by rw [wrap_i64] <;> omega
      rw [Int.natCast_add] at w6
      simp [pc17_l1, b1, b4, b5, b6, b7, hm1, hfl, f1, hix, p1, l1, t1, htl, hkl, hix2, r1, hrlen, w5, w6]
      refine ⟨⟨k + 1, by omega, by simp [b1], by simp, by simp [b5], by simp [b6], by simp, rfl⟩, ?_⟩
      simp only [MU, b7]; simp; omega
    · have he : k = f.lists.length := by omega
      subst he
      rw [List.take_length] at b4
      have w5 : IntKind.wrap .i64 ((i : Int) + 1) = ((i + 1 : Nat) : Int) := by rw [wrap_i64] <;> omega
      simp [pc17_l1, pc17_r1, b1, b4, b5, b6, b7, hm1, hfl, f1, hix, p1, l1, t1, htl, w5]
      refine ⟨⟨i + 1, by omega, by simp [b1], by simp [b4, e1], by simp [b5, e2], by simp, rfl⟩, ?_⟩
      simp only [MU, a6]; simp; omega
  · have he : i = m.funcs.length := by omega
    subst he
    rw [List.take_length] at a4 a5
    simp [pc17_l2, pc17_r2, a1, a4, a5, a6, hm1, hfl, f1]
    exact h _ A1
end Go.Proofs.YthifgodgfhbnfaaDoor
set_option linter.unusedSimpArgs false
set_option linter.unusedVariables false
namespace Go.Proofs.YthifgodgfhbnfaaDoor
open Go Go.Abs
/-! ### errors have numbers -/
def NZ {α : Type} (r : Res α) : Prop := ∀ e, r = .error e → e ≠ 0
theorem NZ.ok {α : Type} (a : α) : NZ (.ok a : Res α) := fun e h => by cases h
theorem NZ.err {α : Type} {k : Int} (h : k ≠ 0) : NZ (.error k : Res α) := fun e q => by cases q; exact h
theorem dropE_nz (s : St) : NZ (dropE s) := by
  unfold dropE
  split
  · split
    · exact .ok _
    · exact .err (by omega)
  · exact .ok _
theorem takeE_nz : ∀ (ts : List Int) (s : St), NZ (takeE ts s)
  | [], s => .ok _
  | t :: ts, s => by
    rw [takeE]
    split
    · have := dropE_nz s
      cases hd : dropE s with
      | ok s' => exact takeE_nz ts s'
      | error e => rw [hd] at this; exact .err (this e rfl)
    · exact .err (by omega)
theorem gives_nz {r : Res St} {t : Int} (h : NZ r) : NZ (gives r t) := by
  cases r with
  | ok s => exact .ok _
  | error e => exact .err (h e rfl)
theorem returnsE_nz (ty : Int) (s : St) : NZ (returnsE ty s) := by unfold returnsE; split; exact .ok _; exact takeE_nz _ _
theorem plainE_nz (fs : List F) (ls : List Int) (w : W) (s : St) : NZ (plainE fs ls w s) := by
  unfold plainE
  repeat' split
  all_goals first
    | exact .ok _
    | exact gives_nz (takeE_nz _ _)
    | exact takeE_nz _ _
    | exact dropE_nz _
theorem instrE_nz {fs : List F} {ls : List Int} {ty deep : Int} {lk : Look} (hl : ∀ a d, NZ (lk a d)) (w : W) (s : St) : NZ (instrE fs ls ty deep lk w s) := by
  unfold instrE
  split
  · exact .err (by omega)
  split
  · exact .err (by omega)
  split
  · have := hl w.body (deep + 1)
    cases hq : lk w.body (deep + 1) with
    | ok u => exact .ok _
    | error e => rw [hq] at this; exact .err (this e rfl)
  split
  · have ht := takeE_nz [1] s
    cases hq : takeE [1] s with
    | error e => rw [hq] at ht; exact .err (ht e rfl)
    | ok s1 =>
      have := hl w.body (deep + 1)
      simp only
      cases hq : lk w.body (deep + 1) with
      | error e => rw [hq] at this; exact .err (this e rfl)
      | ok u =>
        simp only
        split
        · have := hl w.other (deep + 1)
          cases hq : lk w.other (deep + 1) with
          | error e => rw [hq] at this; exact .err (this e rfl)
          | ok u => exact .ok _
        · exact .ok _
  split
  · have ht := takeE_nz [1] s
    cases hq : takeE [1] s with
    | error e => rw [hq] at ht; exact .err (ht e rfl)
    | ok s1 =>
      simp only
      split
      · exact gives_nz (returnsE_nz _ _)
      · exact .ok _
  split
  · split
    · have ht := returnsE_nz ty s
      cases hq : returnsE ty s with
      | error e => rw [hq] at ht; exact .err (ht e rfl)
      | ok s1 => exact .ok _
    · exact .ok _
  split
  · have ht := returnsE_nz ty s
    cases hq : returnsE ty s with
    | error e => rw [hq] at ht; exact .err (ht e rfl)
    | ok s1 => exact .ok _
  split
  · exact .ok _
  · exact plainE_nz _ _ _ _
theorem instrsE_nz {fs : List F} {ls : List Int} {ty deep : Int} {lk : Look} (hl : ∀ a d, NZ (lk a d)) : ∀ (ws : List W) (s : St), NZ (instrsE fs ls ty deep lk ws s)
  | [], s => .ok _
  | w :: ws, s => by
    rw [instrsE]
    have := instrE_nz (fs := fs) (ls := ls) (ty := ty) (deep := deep) hl w s
    cases hq : instrE fs ls ty deep lk w s with
    | error e => rw [hq] at this; exact .err (this e rfl)
    | ok s1 => exact instrsE_nz hl ws s1
theorem lookE_nz (fs : List F) (ls : List Int) (ty : Int) (lists : To) : ∀ (k : Nat) (a d : Int), NZ (lookE fs ls ty lists k a d)
  | 0, a, d => .err (by omega)
  | k + 1, a, d => by
    rw [lookE]
    have := instrsE_nz (fs := fs) (ls := ls) (ty := ty) (deep := d) (lookE_nz fs ls ty lists k) (lists.getD a.toNat []) ⟨[], false⟩
    cases hq : instrsE fs ls ty d (lookE fs ls ty lists k) (lists.getD a.toNat []) ⟨[], false⟩ with
    | error e => rw [hq] at this; exact .err (this e rfl)
    | ok s =>
      simp only
      unfold endE
      have : NZ (if d = 0 then returnsE ty s else .ok s) := by
        split
        · exact returnsE_nz _ _
        · exact .ok _
      cases hq : (if d = 0 then returnsE ty s else .ok s : Res St) with
      | error e => rw [hq] at this; exact .err (this e rfl)
      | ok s' =>
        simp only
        split
        · exact .ok _
        · exact .err (by omega)
theorem namesE_nz (a : Int) : ∀ (ns : List Int) (named : List Bool), NZ (namesE a ns named)
  | [], named => .ok _
  | n :: ns, named => by
    rw [namesE]
    unfold nameE
    split
    · rename_i e he
      split at he
      · cases he
      · cases he; exact .err (by omega)
    · exact namesE_nz a ns _
theorem rowE_nz (a : Int) : ∀ (ws : List W) (named : List Bool), NZ (rowE a ws named)
  | [], named => .ok _
  | w :: ws, named => by
    rw [rowE]
    have := namesE_nz a (namesL w) named
    cases hq : namesE a (namesL w) named with
    | error e => rw [hq] at this; exact .err (this e rfl)
    | ok n => exact rowE_nz a ws n
theorem rowsE_nz : ∀ (ls : To) (k : Nat) (named : List Bool), NZ (rowsE k ls named)
  | [], k, named => .ok _
  | l :: ls, k, named => by
    rw [rowsE]
    have := rowE_nz (k : Int) l named
    cases hq : rowE (k : Int) l named with
    | error e => rw [hq] at this; exact .err (this e rfl)
    | ok n => exact rowsE_nz ls (k + 1) n
theorem listsE_nz (ls : To) : NZ (listsE ls) := by
  unfold listsE
  split
  · exact .err (by omega)
  · have := rowsE_nz ls 0 (List.replicate ls.length false)
    cases hq : rowsE 0 ls (List.replicate ls.length false) with
    | error e => rw [hq] at this; exact .err (this e rfl)
    | ok n =>
      simp only
      split
      · exact .ok _
      · exact .err (by omega)
theorem functionE_nz (fs : List F) (f : F) : NZ (functionE fs f) := by
  unfold functionE
  split
  · exact .err (by omega)
  · have := listsE_nz f.lists
    cases hq : listsE f.lists with
    | error e => rw [hq] at this; exact .err (this e rfl)
    | ok u => exact lookE_nz _ _ _ _ _ _ _
theorem functionsE_nz (fs : List F) : ∀ r, NZ (functionsE fs r)
  | [] => .ok _
  | f :: r => by
    rw [functionsE]
    have := functionE_nz fs f
    cases hq : functionE fs f with
    | error e => rw [hq] at this; exact .err (this e rfl)
    | ok u => exact functionsE_nz fs r
theorem checkE_nz (m : M) : NZ (checkE m) := by
  unfold checkE
  split
  · exact .err (by omega)
  · have := functionsE_nz m.funcs m.funcs
    cases hq : functionsE m.funcs m.funcs with
    | error e => rw [hq] at this; exact .err (this e rfl)
    | ok u =>
      simp only
      split
      · exact .ok _
      · exact .err (by omega)
theorem check_ok {m : M} (h : errOf (checkE m) = 0) : checkE m = .ok () := by
  cases hq : checkE m with
  | ok u => rfl
  | error e => rw [hq] at h; exact absurd h (checkE_nz m e hq)

/-! ### what peep makes of a valid module -/
structure Less (f f' : F) : Prop where
  name : f'.name = f.name
  params : f'.params = f.params
  locals : f'.locals = f.locals
  type : f'.type = f.type
  lists : f'.lists.length ≤ f.lists.length
  size : sumC id f'.lists ≤ sumC id f.lists
  good : ∀ l ∈ f'.lists, Good l
theorem peepFs_less (k : Nat) : ∀ (fs : List F), (∀ f ∈ fs, listsE f.lists = .ok () ∧ f.lists.length ≤ k) → ∃ fs', peepFs k fs = some fs' ∧ All2 Less fs fs'
  | [], _ => ⟨[], rfl, .nil⟩
  | f :: fs, h => by
    obtain ⟨h1, h2⟩ := h f (by simp)
    obtain ⟨n, to, e, e1, e2, e3⟩ := peep_lists h1 k h2
    obtain ⟨fs', e4, e5⟩ := peepFs_less k fs fun g hg => h g (by simp [hg])
    refine ⟨{ f with lists := to } :: fs', ?_, .cons ⟨rfl, rfl, rfl, rfl, e1, e2, e3⟩ e5⟩
    simp [peepFs, peepF, e, e4]
theorem less_sizes {fs fs' : List F} (h : All2 Less fs fs') : sizeN fs' ≤ sizeN fs ∧ sizeL fs' ≤ sizeL fs := by
  induction h with
  | nil => simp [sizeN, sizeL]
  | cons h r ih =>
    have h1 := h.size
    have h2 := h.lists
    unfold sizeN sizeL at *
    simp only [List.map_cons, List.sum_cons]
    omega
theorem sizeN_small {fs : List F} (h : ∀ f ∈ fs, SmallF f) : sizeN fs ≤ fs.length * 900000 ∧ sizeL fs ≤ fs.length * 300 := by
  induction fs with
  | nil => simp [sizeN, sizeL]
  | cons f fs ih =>
    obtain ⟨i1, i2⟩ := ih fun g hg => h g (by simp [hg])
    have hf := h f (by simp)
    have hb := sumC_bound hf.rows
    have hl := hf.lists
    have : f.lists.length * 3000 ≤ 900000 := by omega
    unfold sizeN sizeL at *
    simp only [List.map_cons, List.sum_cons, List.length_cons]
    omega
theorem good_at {l : List W} (h : Good l) {j : Nat} (hj : j + 1 < l.length) : leavesW l[j] = false :=
  h _ (List.mem_iff_getElem.2 ⟨j, by simp; omega, by simp⟩)
end Go.Proofs.YthifgodgfhbnfaaDoor
set_option linter.unusedSimpArgs false
set_option linter.unusedVariables false
namespace Go.Proofs.YthifgodgfhbnfaaDoor
open Go Go.Abs
/-- numbers as Go's -/
def Nums (m : M) : Prop := ∀ f ∈ m.funcs, ∀ l ∈ f.lists, ∀ w ∈ l, w.n ≤ 2 ^ 63 - 1
theorem MV.frz' {σ : AS} : True := trivial
def LO4 (m m' : M) (mb pb : Nat) (σ1 : AS) (a : Nat → AV) (τ : AS) : Prop := ∃ i : Nat, i ≤ m'.funcs.length ∧ a 1 = .ptr mb 0 ∧ a 3 = .ptr pb 0 ∧ a 8 = .int .i64 (i : Int) ∧ Adds σ1 τ
def LM4 (mb pb fb : Nat) (σ1 : AS) (i : Nat) (f : F) (a : Nat → AV) (τ : AS) : Prop := ∃ k : Nat, k ≤ f.lists.length ∧ a 1 = .ptr mb 0 ∧ a 3 = .ptr pb 0 ∧ a 8 = .int .i64 (i : Int) ∧ a 9 = .ptr fb 0 ∧ a 10 = .int .i64 (k : Int) ∧ τ = σ1
def LI4 (mb pb fb : Nat) (σ1 : AS) (i k : Nat) (l : List W) (a : Nat → AV) (τ : AS) : Prop := ∃ j : Nat, j ≤ l.length ∧ a 1 = .ptr mb 0 ∧ a 3 = .ptr pb 0 ∧ a 8 = .int .i64 (i : Int) ∧ a 9 = .ptr fb 0 ∧ a 10 = .int .i64 (k : Int) ∧ a 11 = .int .i64 (j : Int) ∧ τ = σ1
set_option maxRecDepth 20000 in
theorem peepLess_calls {G : Env} (V : Vars G) {m : M} {mv : AV} {σ : AS} {R : Out → AS → Prop} (hm : MV mv m) (hf : Fits m) (hn : Nums m) (h : ∀ σ', R (.ret (.bool true)) σ') : ACalls Tryd.prog G 4 [mv] σ R := by
  refine calls4 rfl ?_
  obtain ⟨fv, rfl, hfs⟩ := hm
  have f1 := hfs.one
  have hm : MV (.agg [fv, .int .i64 m.memory, .int .i64 m.main]) m := ⟨fv, rfl, hfs⟩
  simp [pc4, f1]
  have hm1 : (σ.newO [fv, AV.int IntKind.i64 m.memory, AV.int IntKind.i64 m.main]).objs σ.no = some [fv, .int .i64 m.memory, .int .i64 m.main] := by simp
  have hno1 : (σ.newO [fv, AV.int IntKind.i64 m.memory, AV.int IntKind.i64 m.main]).no = σ.no + 1 := by simp
  generalize σ.newO [fv, AV.int IntKind.i64 m.memory, AV.int IntKind.i64 m.main] = σ1 at *
  have hml : σ.no < σ1.no := by omega
  refine big_calls hm hf fun b σ2 hb A2 => ?_
  have hm2 := (A2.obj σ.no hml).trans hm1
  cases b with
  | true =>
    simp
    refine known_calls fun σ3 A3 => ?_
    simp
    exact h _
  | false =>
  obtain ⟨b1, b2⟩ := hb rfl
  have sm : Small m := ⟨by omega, fun f hf => by have := (b2 f hf).params; omega, fun f hf => by have := (b2 f hf).locals; omega, fun f hf => by have := (b2 f hf).lists; omega, fun f hf l hl => by have := (b2 f hf).rows l hl; omega, hn⟩
  simp [hm2, f1]
  refine check_calls V sm hm fun σ3 A3 => ?_
  have hm3 := (A3.obj σ.no (Nat.lt_of_lt_of_le hml A2.no)).trans hm2
  by_cases he : errOf (checkE m) = 0
  · have hck := check_ok he
    have hv := checkE_functions hck
    obtain ⟨fs', hp, hless⟩ := peepFs_less 300 m.funcs fun f hf => ⟨functionE_lists (hv f hf), (b2 f hf).lists⟩
    obtain ⟨s1, s2⟩ := less_sizes hless
    obtain ⟨s3, s4⟩ := sizeN_small b2
    have hll := hless.length
    simp [he, hm3, f1]
    refine peep_calls (m := m) hm (by omega) (k := 300) (fun f hf => ?_) hp fun v' σ4 hv' A4 => ?_
    · have q := b2 f hf
      obtain ⟨n, to, e, e1, _, _⟩ := peep_lists (functionE_lists (hv f hf)) 300 q.lists
      have := q.lists
      exact ⟨by have := q.params; omega, by have := q.locals; omega, fun ws hw => by have := q.rows ws hw; omega, by omega, n, to, e, by omega⟩
    · obtain ⟨pfv, rfl, hpfs⟩ := hv'
      have g1 := hpfs.one
      have hm4 := (A4.obj σ.no (Nat.lt_of_lt_of_le hml (A2.trans A3).no)).trans hm3
      simp [g1, splice]
      have hl3 := Nat.lt_of_lt_of_le hml (A2.trans A3).no
      have hne4 : σ.no ≠ σ4.no := by have := A4.no; omega
      have hlt4 : σ.no < σ4.no := by have := A4.no; omega
      simp [hne4, hm4, f1, g1, hfs.len, hpfs.len]
      have hp1 : ((σ4.newO [AV.nilsl, AV.int IntKind.i64 0, AV.int IntKind.i64 0]).setO σ4.no [pfv, AV.int IntKind.i64 m.memory, AV.int IntKind.i64 m.main]).objs σ4.no = some [pfv, .int .i64 m.memory, .int .i64 m.main] := by simp
      have hq1 : ((σ4.newO [AV.nilsl, AV.int IntKind.i64 0, AV.int IntKind.i64 0]).setO σ4.no [pfv, AV.int IntKind.i64 m.memory, AV.int IntKind.i64 m.main]).objs σ.no = some [fv, .int .i64 m.memory, .int .i64 m.main] := by simp [hne4, hm4]
      have hn1 : ((σ4.newO [AV.nilsl, AV.int IntKind.i64 0, AV.int IntKind.i64 0]).setO σ4.no [pfv, AV.int IntKind.i64 m.memory, AV.int IntKind.i64 m.main]).no = σ4.no + 1 := by simp
      generalize (σ4.newO [AV.nilsl, AV.int IntKind.i64 0, AV.int IntKind.i64 0]).setO σ4.no [pfv, AV.int IntKind.i64 m.memory, AV.int IntKind.i64 m.main] = σ5 at *
      refine size_calls hm (by omega) (by omega) (by omega) fun σ6 A6 => ?_
      have hq2 := (A6.obj σ.no (by omega)).trans hq1
      have hp2 := (A6.obj σ4.no (by omega)).trans hp1
      simp [hp2, g1]
      refine size_calls (m := ⟨fs', m.memory, m.main⟩) ⟨pfv, rfl, hpfs⟩ (by simp; omega) (by simp; omega) (by simp; omega) fun σ7 A7 => ?_
      have hq3 := (A7.obj σ.no (by have := A6.no; omega)).trans hq2
      have hp3 := (A7.obj σ4.no (by have := A6.no; omega)).trans hp2
      have c1 : ¬ (sizeN m.funcs : Int) < (sizeN fs' : Int) := by omega
      have c2 : ¬ (sizeL m.funcs : Int) < (sizeL fs' : Int) := by omega
      have c3 : (m.funcs.length : Int) = (fs'.length : Int) := by omega
      simp [c1, c2, c3, hq3, hp3, f1, g1, hfs.len, hpfs.len, hll]
      have Asig : σ4.no < σ7.no := by have := A6.no; have := A7.no; omega
      generalize σ4.no = pb at *
      generalize σ.no = mb at *
      refine aloop (LO4 m ⟨fs', m.memory, m.main⟩ mb pb σ7) (MU 8 (fs'.length + 1)) ⟨0, by omega, by simp, by simp, by simp, .refl _⟩ fun a τ hI => ?_
      obtain ⟨i, hi, a1, a3, a8, A8⟩ := hI
      have hi : i ≤ fs'.length := hi
      have hq4 := (A8.obj mb (by omega)).trans hq3
      have hp4 := (A8.obj pb (by omega)).trans hp3
      have hne5 : mb ≠ τ.no := by have := A8.no; omega
      have hne6 : pb ≠ τ.no := by have := A8.no; omega
      by_cases hlt : i < fs'.length
      · obtain ⟨b', rv', hfv', hix'⟩ := hpfs.at hlt
        have hltm : i < m.funcs.length := by omega
        obtain ⟨b, rv, hfv, hix⟩ := hfs.at hltm
        obtain ⟨f0, hf0, hls⟩ := hless.get (List.getElem?_eq_getElem hlt)
        rw [List.getElem?_eq_getElem hltm] at hf0
        obtain rfl := Option.some.inj hf0
        have hmem := b2 _ (List.getElem_mem hltm)
        simp only at hfv' hls hlt
        generalize m.funcs[i] = f at *
        generalize hgf : fs'[i] = f' at *
        obtain ⟨pv, lv, tv, rfl, hpv, hlv, htv⟩ := hfv
        obtain ⟨pv', lv', tv', rfl, hpv', hlv', htv'⟩ := hfv'
        have e1 := hpv.one
        have e2 := hlv.one
        have e3 := htv.one
        have e4 := hpv'.one
        have e5 := hlv'.one
        have e6 := htv'.one
        have e7 := htv'.len
        have q1 := hls.lists
        have q2 := hmem.lists
        have hsz : ∀ l ∈ f'.lists, l.length ≤ 900000 := fun l hl => by
          have := sumC_mem hl
          have := hls.size
          have := sumC_bound hmem.rows
          have : f.lists.length * 3000 ≤ 900000 := by omega
          omega
        have hgood := hls.good
        have hfl := hpfs.len
        simp [pc4_l3, a1, a3, a8, hp4, hq4, g1, f1, hfl, hlt, hix', e4, e5, e6, splice]
        have hfb : ((τ.newO [AV.str [], AV.nilsl, AV.nilsl, AV.int IntKind.i64 0, AV.nilsl]).setO τ.no [AV.str f'.name, pv', lv', AV.int IntKind.i64 f'.type, tv']).objs τ.no = some [AV.str f'.name, pv', lv', AV.int IntKind.i64 f'.type, tv'] := by simp
        have Aw : Adds σ7 ((τ.newO [AV.str [], AV.nilsl, AV.nilsl, AV.int IntKind.i64 0, AV.nilsl]).setO τ.no [AV.str f'.name, pv', lv', AV.int IntKind.i64 f'.type, tv']) := A8.newO.setO A8.no
        generalize (τ.newO [AV.str [], AV.nilsl, AV.nilsl, AV.int IntKind.i64 0, AV.nilsl]).setO τ.no [AV.str f'.name, pv', lv', AV.int IntKind.i64 f'.type, tv'] = τ8 at *
        have hq5 := (Aw.obj mb (by omega)).trans hq3
        generalize τ.no = fb at *
        refine aloop (LM4 mb pb fb τ8 i f') (MU 10 (f'.lists.length + 1)) ⟨0, by omega, by simp [a1], by simp [a3], by simp [a8], by simp, by simp, rfl⟩ fun b ρ hJ => ?_
        obtain ⟨k, hk, b1, b3, b8, b9, b10, rfl⟩ := hJ
        by_cases hkl : k < f'.lists.length
        · obtain ⟨b', rv, hrep, hix2⟩ := htv'.at hkl
          have r1 := hrep.one
          have hrlen := hrep.len
          have hlb := hsz _ (List.getElem_mem hkl)
          have hg := hgood _ (List.getElem_mem hkl)
          simp [pc4_l2, b1, b3, b8, b9, b10, hfb, e6, e7, hkl]
          refine aloop (LI4 mb pb fb ρ i k f'.lists[k]) (MU 11 (f'.lists[k].length + 1)) ⟨0, by omega, by simp [b1], by simp [b3], by simp [b8], by simp [b9], by simp [b10], by simp, rfl⟩ fun c ρ2 hL => ?_
          obtain ⟨j, hj, c1, c3, c8, c9, c10, c11, rfl⟩ := hL
          have w1 : IntKind.wrap .i64 ((j : Int) + 1) = ((j + 1 : Nat) : Int) := by rw [wrap_i64] <;> omega
          have w2 : IntKind.wrap .i64 ((k : Int) + 1) = ((k + 1 : Nat) : Int) := by rw [wrap_i64] <;> omega
          by_cases hjl : j + 1 < f'.lists[k].length
          · have hga := good_at hg hjl
            obtain ⟨b'', hix3⟩ := hrep.at (i := j) (by omega)
            have hjl' : ((j : Int) + 1) < (f'.lists[k].length : Int) := by omega
            generalize f'.lists[k][j] = w at *
            simp [leavesW] at hga
            obtain ⟨⟨o1, o2⟩, o3⟩ := hga
            simp [pc4_l1, c1, c3, c8, c9, c10, c11, hfb, e6, e7, hkl, hix2, r1, hrlen, w1, hjl', hix3, W.av, W.cs, o1, o2, o3]
            refine ⟨⟨j + 1, by omega, by simp [c1], by simp [c3], by simp [c8], by simp [c9], by simp [c10], by simp, rfl⟩, ?_⟩
            simp only [MU, c11]; simp; omega
          · have hjl' : ¬ ((j : Int) + 1) < (f'.lists[k].length : Int) := by omega
            simp [pc4_l1, pc4_r1, c1, c3, c8, c9, c10, c11, hfb, e6, e7, hkl, hix2, r1, hrlen, w1, w2, hjl']
            refine ⟨⟨k + 1, by omega, by simp [c1], by simp [c3], by simp [c8], by simp [c9], by simp, rfl⟩, ?_⟩
            simp only [MU, b10]; simp; omega
        · have he : k = f'.lists.length := by omega
          subst he
          have hx1 := hls.name
          have hx2 := hls.type
          have hx3 := hls.params
          have hx4 := hls.locals
          have hx5 := hmem.params
          have hx6 := hmem.locals
          have w3 : IntKind.wrap .i64 ((i : Int) + 1) = ((i + 1 : Nat) : Int) := by rw [wrap_i64] <;> omega
          rw [hx3] at hpv'
          rw [hx4] at hlv'
          simp [pc4_l2, pc4_r2, b1, b3, b8, b9, b10, hfb, e6, e7, hq5, f1, hix, e1, e2, e3, e4, e5, hx1, hx2]
          refine sameInts_calls hpv' hpv (by omega) ?_
          simp [b1, b3, b8, b9, hfb, hq5, f1, hix, e1, e2, e3, e4, e5]
          refine sameInts_calls hlv' hlv (by omega) ?_
          simp [pc4_r3, b8, w3]
          refine ⟨⟨i + 1, (show i + 1 ≤ fs'.length by omega), by simp [b1], by simp [b3], by simp, Aw⟩, ?_⟩
          simp only [MU, a8]; simp; omega
      · have he : i = fs'.length := by omega
        subst he
        simp [pc4_l3, pc4_r4, a1, a3, a8, hp4, hq4, g1, f1, hpfs.len]
        refine known_calls fun σ8 A9 => ?_
        simp
        exact h _
  · simp [he]
    refine known_calls fun σ4 A4 => ?_
    simp
    exact h _
end Go.Proofs.YthifgodgfhbnfaaDoor
