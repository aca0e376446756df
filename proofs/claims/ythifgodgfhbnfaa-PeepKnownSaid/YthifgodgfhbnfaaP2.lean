/- Part of the proofs of layer 22's statements: P2 (what peep's functions do, in lists of instructions, under the conditions that each theorem names). -/
import Derived.Test.YthifgodgfhbnfaaP1
set_option linter.unusedSimpArgs false
set_option linter.unusedVariables false
namespace Go.Proofs.Ythifgodgfhbnfaa
open Go Go.Abs
theorem Keep.setO {x σ σ' o cs} (h : Keep x σ σ') (ho : σ.no ≤ o) (hx : x < σ.no) : Keep x σ (σ'.setO o cs) := by
  have h0 : (σ'.setO o cs).objs x = σ'.objs x := by simp; omega
  refine ⟨h.no, h.nf, fun p h1 h2 => ?_, h.fam, fun f hf hu => h.use f hf ?_⟩
  · simp; rw [if_neg (by omega)]; exact h.obj p h1 h2
  · unfold Uses at *; rwa [h0] at hu
theorem Keep.addO {x σ σ' cs} (h : Keep x σ σ') (hx : x < σ.no) : Keep x σ (σ'.newO cs) := h.trans (.newO (Nat.lt_of_lt_of_le hx h.no))
theorem Maker.setO {σ x fv to o cs} (h : Maker σ x fv to) (ho : o ≠ x) : Maker (σ.setO o cs) x fv to := by
  obtain ⟨h1, tv, h2, h3⟩ := h
  exact ⟨h1, tv, by simp; rw [if_neg (by omega)]; exact h2, h3⟩

theorem lists_calls {G : Nat → AV} {x fv rec} (IH : RecOk G x fv rec) (gr : Grows rec) {σ : AS} {w w' : W} {to to'} {R : Out → AS → Prop} (hm : Maker σ x fv to) (hp : plists rec w to = some (w', to')) (hb : to'.length ≤ 2 ^ 30)
    (h : ∀ σ', Keep x σ σ' → Maker σ' x fv to' → R (.ret w'.av) σ') : ACalls Try.prog G 18 [.ptr x 0, w.av] σ R := by
  refine calls18 rfl ?_
  unfold plists at hp
  have hx := hm.1
  have K0 : ∀ c1 cs, Keep x σ ((σ.newO c1).newO cs) := fun _ _ => (Keep.newO hx).addO hx
  have M0 : ∀ c1 cs, Maker ((σ.newO c1).newO cs) x fv to := fun _ _ => hm.mono_newO.mono_newO
  by_cases h13 : w.op = 13
  · simp only [h13, if_true] at hp
    split at hp
    · cases hp
    rename_i b to1 hr1
    simp [pc18, W.av, W.cs, h13]
    by_cases ho : 0 ≤ w.other
    · simp only [ho, if_true] at hp
      split at hp
      · cases hp
      rename_i o to2 hr2
      cases hp
      refine IH _ _ _ _ _ _ (M0 _ _) hr1 (Nat.le_trans (gr _ _ _ _ hr2) hb) fun σ1 k1 m1 => ?_
      have e1 := k1.obj σ.no (by simp; omega) (by omega)
      have e1' := k1.obj (σ.no + 1) (by simp) (by omega)
      simp at e1 e1'
      simp [e1, splice, ho]
      refine IH _ _ _ _ _ _ (m1.setO (by omega)) hr2 hb fun σ2 k2 m2 => ?_
      have hn1 := k1.no
      simp at hn1
      have e2 := k2.obj σ.no (by simp; omega) (by omega)
      have e2' := k2.obj (σ.no + 1) (by simp; omega) (by omega)
      simp at e2 e2'
      simp [e2, e2', e1', splice]
      refine h _ ?_ ?_
      · exact (((((K0 _ _).trans k1).setO (Nat.le_refl _) hx).trans k2).setO (Nat.le_refl _) hx).setO (by omega) hx
      · exact (m2.setO (by omega)).setO (by omega)
    · simp only [ho, if_false] at hp
      cases hp
      refine IH _ _ _ _ _ _ (M0 _ _) hr1 hb fun σ1 k1 m1 => ?_
      have e1 := k1.obj σ.no (by simp; omega) (by omega)
      have e1' := k1.obj (σ.no + 1) (by simp) (by omega)
      simp at e1 e1'
      simp [e1, e1', splice, ho]
      refine h _ ?_ ?_
      · exact ((((K0 _ _).trans k1).setO (Nat.le_refl _) hx)).setO (by omega) hx
      · exact (m1.setO (by omega)).setO (by omega)
  · by_cases h11 : w.op = 11 ∨ w.op = 12
    · simp only [h13, h11, if_true, if_false] at hp
      split at hp
      · cases hp
      rename_i b to1 hr1
      cases hp
      have fin : ∀ c1 cs σ1, Keep x ((σ.newO c1).newO cs) σ1 → Maker σ1 x fv to' → _ := fun c1 cs σ1 k1 m1 => h ((σ1.setO σ.no (W.cs { w with body := b })).setO (σ.no + 1) (W.cs { w with body := b })) ((((K0 _ _).trans k1).setO (Nat.le_refl _) hx).setO (by omega) hx) ((m1.setO (o := σ.no) (by omega)).setO (o := σ.no + 1) (by omega))
      rcases h11 with h11 | h11
      · simp [pc18, W.av, W.cs, h11]
        refine IH _ _ _ _ _ _ (M0 _ _) hr1 hb fun σ1 k1 m1 => ?_
        have e1 := k1.obj σ.no (by simp; omega) (by omega)
        have e1' := k1.obj (σ.no + 1) (by simp) (by omega)
        simp at e1 e1'
        simpa [e1, e1', splice, W.cs, W.av, h11] using fin _ _ σ1 k1 m1
      · simp [pc18, W.av, W.cs, h11]
        refine IH _ _ _ _ _ _ (M0 _ _) hr1 hb fun σ1 k1 m1 => ?_
        have e1 := k1.obj σ.no (by simp; omega) (by omega)
        have e1' := k1.obj (σ.no + 1) (by simp) (by omega)
        simp at e1 e1'
        simpa [e1, e1', splice, W.cs, W.av, h11] using fin _ _ σ1 k1 m1
    · simp only [h13, h11, if_false] at hp
      cases hp
      have h1 : ¬ w.op = 11 := fun e => h11 (.inl e)
      have h2 : ¬ w.op = 12 := fun e => h11 (.inr e)
      have := h _ ((K0 w.cs [.int .i64 0, .int .i64 0, .int .i64 0, .int .i64 0, .int .i64 0, .str []]).setO (cs := w.cs) (show σ.no ≤ σ.no + 1 by omega) hx) ((M0 _ _).setO (by omega))
      simpa [pc18, W.av, W.cs, h13, h1, h2, splice] using this

set_option maxHeartbeats 4000000 in
theorem together_calls {G : Nat → AV} {x fv rec} (IH : RecOk G x fv rec) {σ : AS} {w u : W} {to l is to'} {R : Out → AS → Prop} (hm : Maker σ x fv to) (hp : ptogether rec w u to = some (l, is, to')) (hb : to'.length ≤ 2 ^ 30)
    (h : ∀ σ' v, Keep x σ σ' → Maker σ' x fv to' → RepL v l → R (.ret (.tuple [v, .bool is])) σ') : ACalls Try.prog G 17 [.ptr x 0, w.av, u.av] σ R := by
  refine calls17 rfl ?_
  unfold ptogether at hp
  have hx := hm.1
  have K0 : ∀ c1 cs, Keep x σ ((σ.newO c1).newO cs) := fun _ _ => (Keep.newO hx).addO hx
  have M0 : ∀ c1 cs, Maker ((σ.newO c1).newO cs) x fv to := fun _ _ => hm.mono_newO.mono_newO
  have two : ∀ t : W, RepL (.sl (.stat true) 6 [t.av]) [t] := fun t => .inr ⟨true, rfl⟩
  by_cases b18 : u.op = 18
  · by_cases a12 : w.op = 1 ∨ w.op = 2
    · simp [a12, b18] at hp
      obtain ⟨rfl, rfl, rfl⟩ := hp
      have := h _ .nilsl (K0 w.cs u.cs) (M0 _ _) (.inl ⟨rfl, rfl⟩)
      by_cases t1 : w.ty = 1 <;> rcases a12 with a | a <;> simpa [pc17, W.av, W.cs, a, b18, t1, splice, aeq, aeqFs] using this
    · have a1 : ¬ w.op = 1 := fun e => a12 (.inl e)
      have a2 : ¬ w.op = 2 := fun e => a12 (.inr e)
      simp [a1, a2, b18] at hp
      obtain ⟨rfl, rfl, rfl⟩ := hp
      have := h _ .nilsl (K0 w.cs u.cs) (M0 _ _) (.inl ⟨rfl, rfl⟩)
      simpa [pc17, W.av, W.cs, a1, a2, b18, splice, aeq, aeqFs] using this
  by_cases a1 : w.op = 1
  · by_cases b5 : u.op = 5
    · simp [a1, b5] at hp
      obtain ⟨rfl, rfl, rfl⟩ := hp
      by_cases n0 : w.n = 0 <;> by_cases t1 : w.ty = 1 <;> by_cases te : w.ty = u.ty
      all_goals
        have := h _ _ (K0 w.cs u.cs) (M0 _ _) (two _)
        simpa [pc17, W.av, W.cs, a1, b5, n0, t1, te, splice, aeq, aeqFs] using this
    by_cases b15 : u.op = 15
    · by_cases n0 : w.n = 0
      · simp [a1, b15, n0] at hp
        obtain ⟨rfl, rfl, rfl⟩ := hp
        have := h _ .nilsl (K0 w.cs u.cs) (M0 _ _) (.inl ⟨rfl, rfl⟩)
        by_cases t1 : w.ty = 1 <;> simpa [pc17, W.av, W.cs, a1, b15, n0, t1, splice, aeq, aeqFs] using this
      · simp [a1, b15, n0] at hp
        obtain ⟨rfl, rfl, rfl⟩ := hp
        have := h _ _ (K0 w.cs u.cs) (M0 _ _) (two _)
        by_cases t1 : w.ty = 1 <;> simpa [pc17, W.av, W.cs, a1, b15, n0, t1, splice, aeq, aeqFs] using this
    by_cases b13 : u.op = 13
    · by_cases t1 : w.ty = 1
      · simp [a1, b13, t1] at hp
        split at hp
        · cases hp
        rename_i l1 to1 hr
        simp at hp
        obtain ⟨rfl, rfl, rfl⟩ := hp
        cases u with
        | mk uop uty un ub uo unm =>
        simp only at b13
        subst b13
        simp [pc17, W.av, W.cs, a1, t1, splice, aeq, aeqFs]
        refine chosen_calls IH (w := ⟨13, uty, un, ub, uo, unm⟩) (M0 _ _) hr hb fun σ' v hk hm' hl => ?_
        simp
        exact h _ _ ((K0 _ _).trans hk) hm' hl
      · simp [a1, b13, t1] at hp
        obtain ⟨rfl, rfl, rfl⟩ := hp
        have := h _ .nilsl (K0 w.cs u.cs) (M0 _ _) (.inl ⟨rfl, rfl⟩)
        simpa [pc17, W.av, W.cs, a1, b13, t1, splice, aeq, aeqFs] using this
    · simp [a1, b18, b5, b15, b13] at hp
      obtain ⟨rfl, rfl, rfl⟩ := hp
      have := h _ .nilsl (K0 w.cs u.cs) (M0 _ _) (.inl ⟨rfl, rfl⟩)
      by_cases t1 : w.ty = 1 <;> simpa [pc17, W.av, W.cs, a1, b18, b5, b15, b13, t1, splice, aeq, aeqFs] using this
  · simp [a1, b18] at hp
    obtain ⟨rfl, rfl, rfl⟩ := hp
    have := h _ .nilsl (K0 w.cs u.cs) (M0 _ _) (.inl ⟨rfl, rfl⟩)
    by_cases a2 : w.op = 2 <;> simpa [pc17, W.av, W.cs, a1, a2, b18, splice, aeq, aeqFs] using this
end Go.Proofs.Ythifgodgfhbnfaa
