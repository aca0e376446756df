/- How instructions, lists and the maker of lists lie in a state; no condition. -/
import Derived.Test.YthifgodgfhbnfaaDoorGenP
import Derived.Test.YthifgodgfhbnfaaDoorC
set_option linter.unusedSimpArgs false
set_option linter.unusedVariables false
namespace Go.Proofs.YthifgodgfhbnfaaDoor
open Go Go.Abs
def W.cs (w : W) : List AV := [.int .i64 w.op, .int .i64 w.ty, .int .i64 w.n, .int .i64 w.body, .int .i64 w.other, .str w.name]
def W.av (w : W) : AV := .agg w.cs
/-! what lies in a state -/
inductive All2 {α β : Type} (R : α → β → Prop) : List α → List β → Prop
  | nil : All2 R [] []
  | cons {x y xs ys} (h : R x y) (r : All2 R xs ys) : All2 R (x :: xs) (y :: ys)

def RepL (v : AV) (l : List W) : Prop := (l = [] ∧ v = .nilsl) ∨ ∃ b, v = .sl (.stat b) 6 (l.map W.av)
/-- the maker's own list of lists -/
def ToV (σ : AS) (v : AV) (to : To) : Prop :=
  (to = [] ∧ v = .nilsl) ∨ ∃ g tos, v = .sl (.fam g false) 1 tos ∧ g < σ.nf ∧ σ.F g = .alive ∧ All2 RepL tos to
/-- what it reads -/
def FromV (v : AV) (frm : To) : Prop := ∃ b rows, v = .sl (.stat b) 1 rows ∧ All2 RepL rows frm
def famOf : AV → Option Nat
  | .sl (.fam g _) _ _ => some g
  | _ => none
/-- the maker x in a state -/
def Maker (σ : AS) (x : Nat) (fv : AV) (to : To) : Prop := x < σ.no ∧ ∃ tv, σ.objs x = some [fv, tv] ∧ ToV σ tv to
/-- the family that the maker may end -/
def Uses (σ : AS) (x f : Nat) : Prop := ∃ fv tv, σ.objs x = some [fv, tv] ∧ famOf tv = some f
structure Keep (x : Nat) (σ σ' : AS) : Prop where
  no : σ.no ≤ σ'.no
  nf : σ.nf ≤ σ'.nf
  obj : ∀ o, o < σ.no → o ≠ x → σ'.objs o = σ.objs o
  fam : ∀ f, f < σ.nf → ¬ Uses σ x f → σ'.F f = σ.F f
  use : ∀ f, f < σ.nf → Uses σ' x f → Uses σ x f
theorem Keep.refl (x σ) : Keep x σ σ := ⟨Nat.le_refl _, Nat.le_refl _, fun _ _ _ => rfl, fun _ _ _ => rfl, fun _ _ h => h⟩
theorem Keep.trans {x σ σ1 σ2} (h : Keep x σ σ1) (h' : Keep x σ1 σ2) : Keep x σ σ2 where
  no := Nat.le_trans h.no h'.no
  nf := Nat.le_trans h.nf h'.nf
  obj o a b := by rw [h'.obj o (Nat.lt_of_lt_of_le a h.no) b, h.obj o a b]
  fam f a b := by rw [h'.fam f (Nat.lt_of_lt_of_le a h.nf) fun u => b (h.use f a u), h.fam f a b]
  use f a u := h.use f a (h'.use f (Nat.lt_of_lt_of_le a h.nf) u)
/-- new objects alone -/
theorem Keep.newO {x σ cs} (hx : x < σ.no) : Keep x σ (σ.newO cs) := by
  have h0 : (σ.newO cs).objs x = σ.objs x := by simp; omega
  exact ⟨by simp, by simp, fun o h1 h2 => by simp; omega, fun _ _ _ => rfl, fun f _ h => by unfold Uses at *; rwa [h0] at h⟩
theorem Maker.mono_newO {σ x fv to cs} (h : Maker σ x fv to) : Maker (σ.newO cs) x fv to := by
  obtain ⟨h1, tv, h2, h3⟩ := h
  exact ⟨by simp; omega, tv, by simp; rw [if_neg (by omega)]; exact h2, h3⟩
end Go.Proofs.YthifgodgfhbnfaaDoor
set_option linter.unusedSimpArgs false
set_option linter.unusedVariables false
namespace Go.Proofs.YthifgodgfhbnfaaDoor
open Go Go.Abs
theorem leaves_calls {G : Env} {σ : AS} {w : W} {R : Out → AS → Prop} (h : R (.ret (.bool (leavesW w))) (σ.newO w.cs)) : ACalls Tryd.prog G 56 [w.av] σ R := by
  refine calls56 rfl ?_
  by_cases h1 : w.op = 14
  · rw [show leavesW w = true by simp [leavesW, h1]] at h
    simpa [pc56, W.av, W.cs, h1] using h
  by_cases h2 : w.op = 16
  · rw [show leavesW w = true by simp [leavesW, h2]] at h
    simpa [pc56, W.av, W.cs, h2] using h
  by_cases h3 : w.op = 17
  · rw [show leavesW w = true by simp [leavesW, h3]] at h
    simpa [pc56, W.av, W.cs, h3] using h
  rw [show leavesW w = false by simp [leavesW, h1, h2, h3]] at h
  simpa [pc56, W.av, W.cs, h1, h2, h3] using h

/-- the list-maker's contract, for what it may give -/
def RecOk (G : Env) (x : Nat) (fv : AV) (rec : Rec) : Prop := ∀ (σ : AS) (at_ : Int) (to : To) (n : Int) (to' : To) (R : Out → AS → Prop),
  Maker σ x fv to → rec at_ to = some (n, to') → to'.length ≤ 2 ^ 30 → (∀ σ', Keep x σ σ' → Maker σ' x fv to' → R (.ret (.int .i64 n)) σ') → ACalls Tryd.prog G 37 [.ptr x 0, .int .i64 at_] σ R
def Grows (rec : Rec) : Prop := ∀ at_ to n to', rec at_ to = some (n, to') → to.length ≤ to'.length

theorem chosen_calls {G : Env} {x fv rec} (IH : RecOk G x fv rec) {σ : AS} {w : W} {n : Int} {to l to'} {R : Out → AS → Prop} (hm : Maker σ x fv to) (hp : pchosen rec n w to = some (l, to')) (hb : to'.length ≤ 2 ^ 30)
    (h : ∀ σ' v, Keep x σ σ' → Maker σ' x fv to' → RepL v l → R (.ret v) σ') : ACalls Tryd.prog G 77 [.ptr x 0, .int .i64 n, w.av] σ R := by
  refine calls77 rfl ?_
  unfold pchosen at hp
  have K0 : Keep x σ (σ.newO w.cs) := .newO hm.1
  have M0 : Maker (σ.newO w.cs) x fv to := hm.mono_newO
  by_cases h0 : n = 0
  · by_cases h1 : w.other < 0
    · simp [h0, h1] at hp
      obtain ⟨rfl, rfl⟩ := hp
      have := h _ .nilsl K0 M0 (.inl ⟨rfl, rfl⟩)
      simpa [pc77, W.av, W.cs, h0, h1] using this
    · simp only [h0, h1, if_true, if_false] at hp
      split at hp
      · cases hp
      rename_i b to1 hr
      cases hp
      simp [pc77, W.av, W.cs, h0, h1]
      refine IH _ _ _ _ _ _ M0 hr hb fun σ' hk hm' => ?_
      simp [splice]
      exact h _ _ (K0.trans hk) hm' (.inr ⟨true, rfl⟩)
  · by_cases h1 : w.body < 0
    · simp [h0, h1] at hp
      obtain ⟨rfl, rfl⟩ := hp
      have := h _ .nilsl K0 M0 (.inl ⟨rfl, rfl⟩)
      simpa [pc77, W.av, W.cs, h0, h1] using this
    · simp only [h0, h1, if_false] at hp
      split at hp
      · cases hp
      rename_i b to1 hr
      cases hp
      simp [pc77, W.av, W.cs, h0, h1]
      refine IH _ _ _ _ _ _ M0 hr hb fun σ' hk hm' => ?_
      simp [splice]
      exact h _ _ (K0.trans hk) hm' (.inr ⟨true, rfl⟩)
end Go.Proofs.YthifgodgfhbnfaaDoor
set_option linter.unusedSimpArgs false
set_option linter.unusedVariables false
namespace Go.Proofs.YthifgodgfhbnfaaDoor
open Go Go.Abs
theorem Keep.setO {x σ σ' o cs} (h : Keep x σ σ') (ho : σ.no ≤ o) (hx : x < σ.no) : Keep x σ (σ'.setO o cs) := by
  have h0 : (σ'.setO o cs).objs x = σ'.objs x := by simp; omega
  refine ⟨h.no, h.nf, fun p h1 h2 => ?_, h.fam, fun f hf hu => h.use f hf ?_⟩
  · simp; rw [if_neg (by omega)]; exact h.obj p h1 h2
  · unfold Uses at *; rwa [h0] at hu
theorem Keep.addO {x σ σ' cs} (h : Keep x σ σ') (hx : x < σ.no) : Keep x σ (σ'.newO cs) := h.trans (.newO (Nat.lt_of_lt_of_le hx h.no))
theorem Maker.setO {σ x fv to o cs} (h : Maker σ x fv to) (ho : o ≠ x) : Maker (σ.setO o cs) x fv to := by
  obtain ⟨h1, tv, h2, h3⟩ := h
  exact ⟨h1, tv, by simp; rw [if_neg (by omega)]; exact h2, h3⟩

theorem lists_calls {G : Env} {x fv rec} (IH : RecOk G x fv rec) (gr : Grows rec) {σ : AS} {w w' : W} {to to'} {R : Out → AS → Prop} (hm : Maker σ x fv to) (hp : plists rec w to = some (w', to')) (hb : to'.length ≤ 2 ^ 30)
    (h : ∀ σ', Keep x σ σ' → Maker σ' x fv to' → R (.ret w'.av) σ') : ACalls Tryd.prog G 58 [.ptr x 0, w.av] σ R := by
  refine calls58 rfl ?_
  unfold plists at hp
  have hx := hm.1
  have K0 : ∀ c1 cs, Keep x σ ((σ.newO c1).newO cs) := fun _ _ => (Keep.newO hx).addO hx
  have M0 : ∀ c1 cs, Maker ((σ.newO c1).newO cs) x fv to := fun _ _ => hm.mono_newO.mono_newO
  by_cases h13 : w.op = 13
  · simp only [h13, if_true] at hp
    split at hp
    · cases hp
    rename_i b to1 hr1
    simp [pc58, W.av, W.cs, h13]
    by_cases ho : 0 ≤ w.other
    · simp only [ho, if_true] at hp
      split at hp
      · cases hp
      rename_i o to2 hr2
      cases hp
      refine IH _ _ _ _ _ _ (M0 _ _) hr1 (Nat.le_trans (gr _ _ _ _ hr2) hb) fun σ1 k1 m1 => ?_
      have e1 := k1.obj σ.no (by simp; omega) (by omega)
      have e1' := k1.obj (σ.no + 1) (by simp) (by omega)
      simp at e1 e1'
      simp [e1, splice, ho]
      refine IH _ _ _ _ _ _ (m1.setO (by omega)) hr2 hb fun σ2 k2 m2 => ?_
      have hn1 := k1.no
      simp at hn1
      have e2 := k2.obj σ.no (by simp; omega) (by omega)
      have e2' := k2.obj (σ.no + 1) (by simp; omega) (by omega)
      simp at e2 e2'
      simp [e2, e2', e1', splice]
      refine h _ ?_ ?_
      · exact (((((K0 _ _).trans k1).setO (Nat.le_refl _) hx).trans k2).setO (Nat.le_refl _) hx).setO (by omega) hx
      · exact (m2.setO (by omega)).setO (by omega)
    · simp only [ho, if_false] at hp
      cases hp
      refine IH _ _ _ _ _ _ (M0 _ _) hr1 hb fun σ1 k1 m1 => ?_
      have e1 := k1.obj σ.no (by simp; omega) (by omega)
      have e1' := k1.obj (σ.no + 1) (by simp) (by omega)
      simp at e1 e1'
      simp [e1, e1', splice, ho]
      refine h _ ?_ ?_
      · exact ((((K0 _ _).trans k1).setO (Nat.le_refl _) hx)).setO (by omega) hx
      · exact (m1.setO (by omega)).setO (by omega)
  · by_cases h11 : w.op = 11 ∨ w.op = 12
    · simp only [h13, h11, if_true, if_false] at hp
      split at hp
      · cases hp
      rename_i b to1 hr1
      cases hp
      have fin : ∀ c1 cs σ1, Keep x ((σ.newO c1).newO cs) σ1 → Maker σ1 x fv to' → _ := fun c1 cs σ1 k1 m1 => h ((σ1.setO σ.no (W.cs { w with body := b })).setO (σ.no + 1) (W.cs { w with body := b })) ((((K0 _ _).trans k1).setO (Nat.le_refl _) hx).setO (by omega) hx) ((m1.setO (o := σ.no) (by omega)).setO (o := σ.no + 1) (by omega))
      rcases h11 with h11 | h11
      · simp [pc58, W.av, W.cs, h11]
        refine IH _ _ _ _ _ _ (M0 _ _) hr1 hb fun σ1 k1 m1 => ?_
        have e1 := k1.obj σ.no (by simp; omega) (by omega)
        have e1' := k1.obj (σ.no + 1) (by simp) (by omega)
        simp at e1 e1'
        simpa [e1, e1', splice, W.cs, W.av, h11] using fin _ _ σ1 k1 m1
      · simp [pc58, W.av, W.cs, h11]
        refine IH _ _ _ _ _ _ (M0 _ _) hr1 hb fun σ1 k1 m1 => ?_
        have e1 := k1.obj σ.no (by simp; omega) (by omega)
        have e1' := k1.obj (σ.no + 1) (by simp) (by omega)
        simp at e1 e1'
        simpa [e1, e1', splice, W.cs, W.av, h11] using fin _ _ σ1 k1 m1
    · simp only [h13, h11, if_false] at hp
      cases hp
      have h1 : ¬ w.op = 11 := fun e => h11 (.inl e)
      have h2 : ¬ w.op = 12 := fun e => h11 (.inr e)
      have := h _ ((K0 w.cs [.int .i64 0, .int .i64 0, .int .i64 0, .int .i64 0, .int .i64 0, .str []]).setO (cs := w.cs) (show σ.no ≤ σ.no + 1 by omega) hx) ((M0 _ _).setO (by omega))
      simpa [pc58, W.av, W.cs, h13, h1, h2, splice] using this

set_option maxHeartbeats 4000000 in
theorem together_calls {G : Env} {x fv rec} (IH : RecOk G x fv rec) {σ : AS} {w u : W} {to l is to'} {R : Out → AS → Prop} (hm : Maker σ x fv to) (hp : ptogether rec w u to = some (l, is, to')) (hb : to'.length ≤ 2 ^ 30)
    (h : ∀ σ' v, Keep x σ σ' → Maker σ' x fv to' → RepL v l → R (.ret (.tuple [v, .bool is])) σ') : ACalls Tryd.prog G 57 [.ptr x 0, w.av, u.av] σ R := by
  refine calls57 rfl ?_
  unfold ptogether at hp
  have hx := hm.1
  have K0 : ∀ c1 cs, Keep x σ ((σ.newO c1).newO cs) := fun _ _ => (Keep.newO hx).addO hx
  have M0 : ∀ c1 cs, Maker ((σ.newO c1).newO cs) x fv to := fun _ _ => hm.mono_newO.mono_newO
  have two : ∀ t : W, RepL (.sl (.stat true) 6 [t.av]) [t] := fun t => .inr ⟨true, rfl⟩
  by_cases b18 : u.op = 18
  · by_cases a12 : w.op = 1 ∨ w.op = 2
    · simp [a12, b18] at hp
      obtain ⟨rfl, rfl, rfl⟩ := hp
      have := h _ .nilsl (K0 w.cs u.cs) (M0 _ _) (.inl ⟨rfl, rfl⟩)
      by_cases t1 : w.ty = 1 <;> rcases a12 with a | a <;> simpa [pc57, W.av, W.cs, a, b18, t1, splice, aeq, aeqFs] using this
    · have a1 : ¬ w.op = 1 := fun e => a12 (.inl e)
      have a2 : ¬ w.op = 2 := fun e => a12 (.inr e)
      simp [a1, a2, b18] at hp
      obtain ⟨rfl, rfl, rfl⟩ := hp
      have := h _ .nilsl (K0 w.cs u.cs) (M0 _ _) (.inl ⟨rfl, rfl⟩)
      simpa [pc57, W.av, W.cs, a1, a2, b18, splice, aeq, aeqFs] using this
  by_cases a1 : w.op = 1
  · by_cases b5 : u.op = 5
    · simp [a1, b5] at hp
      obtain ⟨rfl, rfl, rfl⟩ := hp
      by_cases n0 : w.n = 0 <;> by_cases t1 : w.ty = 1 <;> by_cases te : w.ty = u.ty
      all_goals
        have := h _ _ (K0 w.cs u.cs) (M0 _ _) (two _)
        simpa [pc57, W.av, W.cs, a1, b5, n0, t1, te, splice, aeq, aeqFs] using this
    by_cases b15 : u.op = 15
    · by_cases n0 : w.n = 0
      · simp [a1, b15, n0] at hp
        obtain ⟨rfl, rfl, rfl⟩ := hp
        have := h _ .nilsl (K0 w.cs u.cs) (M0 _ _) (.inl ⟨rfl, rfl⟩)
        by_cases t1 : w.ty = 1 <;> simpa [pc57, W.av, W.cs, a1, b15, n0, t1, splice, aeq, aeqFs] using this
      · simp [a1, b15, n0] at hp
        obtain ⟨rfl, rfl, rfl⟩ := hp
        have := h _ _ (K0 w.cs u.cs) (M0 _ _) (two _)
        by_cases t1 : w.ty = 1 <;> simpa [pc57, W.av, W.cs, a1, b15, n0, t1, splice, aeq, aeqFs] using this
    by_cases b13 : u.op = 13
    · by_cases t1 : w.ty = 1
      · simp [a1, b13, t1] at hp
        split at hp
        · cases hp
        rename_i l1 to1 hr
        simp at hp
        obtain ⟨rfl, rfl, rfl⟩ := hp
        cases u with
        | mk uop uty un ub uo unm =>
        simp only at b13
        subst b13
        simp [pc57, W.av, W.cs, a1, t1, splice, aeq, aeqFs]
        refine chosen_calls IH (w := ⟨13, uty, un, ub, uo, unm⟩) (M0 _ _) hr hb fun σ' v hk hm' hl => ?_
        simp
        exact h _ _ ((K0 _ _).trans hk) hm' hl
      · simp [a1, b13, t1] at hp
        obtain ⟨rfl, rfl, rfl⟩ := hp
        have := h _ .nilsl (K0 w.cs u.cs) (M0 _ _) (.inl ⟨rfl, rfl⟩)
        simpa [pc57, W.av, W.cs, a1, b13, t1, splice, aeq, aeqFs] using this
    · simp [a1, b18, b5, b15, b13] at hp
      obtain ⟨rfl, rfl, rfl⟩ := hp
      have := h _ .nilsl (K0 w.cs u.cs) (M0 _ _) (.inl ⟨rfl, rfl⟩)
      by_cases t1 : w.ty = 1 <;> simpa [pc57, W.av, W.cs, a1, b18, b5, b15, b13, t1, splice, aeq, aeqFs] using this
  · simp [a1, b18] at hp
    obtain ⟨rfl, rfl, rfl⟩ := hp
    have := h _ .nilsl (K0 w.cs u.cs) (M0 _ _) (.inl ⟨rfl, rfl⟩)
    by_cases a2 : w.op = 2 <;> simpa [pc57, W.av, W.cs, a1, a2, b18, splice, aeq, aeqFs] using this
end Go.Proofs.YthifgodgfhbnfaaDoor
set_option linter.unusedSimpArgs false
set_option linter.unusedVariables false
namespace Go.Proofs.YthifgodgfhbnfaaDoor
open Go Go.Abs
/-- the list under way -/
def RL (σ : AS) (x base : Nat) (lv : AV) (l : List W) : Prop :=
  (l = [] ∧ lv = .nilsl) ∨ ∃ f, lv = .sl (.fam f false) 6 (l.map W.av) ∧ base ≤ f ∧ f < σ.nf ∧ σ.F f = .alive ∧ ¬ Uses σ x f
theorem RL.mono {σ σ' x base lv l} (h : RL σ x base lv l) (k : Keep x σ σ') : RL σ' x base lv l := by
  rcases h with h | ⟨f, h1, h2, h3, h4, h5⟩
  · exact .inl h
  · exact .inr ⟨f, h1, h2, Nat.lt_of_lt_of_le h3 k.nf, by rw [k.fam f h3 h5, h4], fun u => h5 (k.use f h3 u)⟩
theorem Keep.grow {x σ0 σ' s} (h : Keep x σ0 σ') (f : Nat) (hf : σ0.nf ≤ f) : Keep x σ0 ((σ'.setF f s).newF) where
  no := h.no
  nf := Nat.le_trans h.nf (by simp)
  obj := h.obj
  fam g hg hu := by
    simp only [newF_F, setF_F, setF_nf, upd_at]
    rw [if_neg (by have := h.nf; omega), if_neg (by omega)]
    exact h.fam g hg hu
  use f a u := h.use f a (by unfold Uses at *; simpa using u)
theorem Keep.newF {x σ0 σ'} (h : Keep x σ0 σ') : Keep x σ0 σ'.newF where
  no := h.no
  nf := Nat.le_trans h.nf (by simp)
  obj := h.obj
  fam g hg hu := by
    simp only [newF_F, upd_at]
    rw [if_neg (by have := h.nf; omega)]
    exact h.fam g hg hu
  use f a u := h.use f a (by unfold Uses at *; simpa using u)
theorem Maker.uses {σ x fv to} (h : Maker σ x fv to) {f : Nat} (u : Uses σ x f) : f < σ.nf ∧ σ.F f = .alive := by
  obtain ⟨_, tv, h1, h2⟩ := h
  obtain ⟨fv', tv', h3, h4⟩ := u
  rw [h1] at h3
  simp at h3
  obtain ⟨rfl, rfl⟩ := h3
  rcases h2 with ⟨_, rfl⟩ | ⟨g, tos, rfl, h5, h6, _⟩
  · simp [famOf] at h4
  · simp [famOf] at h4; subst h4; exact ⟨h5, h6⟩
theorem Maker.newF {σ x fv to} (h : Maker σ x fv to) : Maker σ.newF x fv to := by
  obtain ⟨h1, tv, h2, h3⟩ := h
  refine ⟨h1, tv, h2, ?_⟩
  rcases h3 with h3 | ⟨g, tos, rfl, h5, h6, h7⟩
  · exact .inl h3
  · exact .inr ⟨g, tos, rfl, by simp; omega, by simp; intro _; exact h6, h7⟩
theorem Maker.grow {σ x fv to f s} (h : Maker σ x fv to) (hf : ¬ Uses σ x f) : Maker ((σ.setF f s).newF) x fv to := by
  refine Maker.newF ?_
  obtain ⟨h1, tv, h2, h3⟩ := h
  refine ⟨h1, tv, h2, ?_⟩
  rcases h3 with h3 | ⟨g, tos, rfl, h5, h6, h7⟩
  · exact .inl h3
  · have : g ≠ f := fun e => hf ⟨fv, _, h2, by simp [famOf, e]⟩
    exact .inr ⟨g, tos, rfl, h5, by simp [this, h6], h7⟩
theorem Maker.fresh {σ x fv to} (h : Maker σ x fv to) {τ : AS} (ho : τ.objs = σ.objs) : ¬ Uses τ x σ.nf := fun u => by
  have : Uses σ x σ.nf := by unfold Uses at *; rwa [ho] at u
  exact absurd (h.uses this).1 (by omega)

/-! growth -/
theorem W_sz (l : List W) : ∀ y ∈ l.map W.av, y.cells.length = 6 ∧ ∀ c ∈ y.cells, c.one = true := by
  intro y hy
  simp at hy
  obtain ⟨w, _, rfl⟩ := hy
  simp [W.av, W.cs]

theorem chosen_length {rec n w to l to'} (h : pchosen rec n w to = some (l, to')) : l.length ≤ 1 := by
  unfold pchosen at h
  simp only at h
  generalize (if n = 0 then w.other else w.body) = t at h
  split at h
  · cases h; simp
  · split at h
    · cases h
    · cases h; simp
theorem two_length {rec w u to l is to'} (h : ptogether rec w u to = some (l, is, to')) : l.length ≤ 1 := by
  unfold ptogether at h
  simp only at h
  split at h
  · cases h; simp
  split at h
  · cases h; simp
  split at h
  · split at h <;> cases h <;> simp
  split at h
  · split at h
    · split at h
      · cases h
      · rename_i l1 to1 hc
        cases h; exact chosen_length hc
    · cases h; simp
  · cases h; simp

theorem All2.length {α β : Type} {R : α → β → Prop} {xs ys} (h : All2 R xs ys) : xs.length = ys.length := by
  induction h <;> simp_all
theorem All2.get {α β : Type} {R : α → β → Prop} {xs ys} (h : All2 R xs ys) {i : Nat} {y} (hy : ys[i]? = some y) : ∃ x, xs[i]? = some x ∧ R x y := by
  induction h generalizing i with
  | nil => simp at hy
  | cons h r ih =>
    cases i with
    | zero => simp at hy; subst hy; exact ⟨_, by simp, h⟩
    | succ i => simp at hy; simpa using ih hy
theorem All2.append {α β : Type} {R : α → β → Prop} {xs ys xs' ys'} (h : All2 R xs ys) (h' : All2 R xs' ys') : All2 R (xs ++ xs') (ys ++ ys') := by
  induction h with
  | nil => exact h'
  | cons h r ih => exact .cons h ih

/-- a row that is read -/
def RowV (ws : List W) (row : AV) : Prop := RepL row ws

theorem list_fin {G : Env} {x : Nat} {fv lv : AV} {to1 : To} {a : Nat → AV} {τ : AS} {R : Out → AS → Prop} (hm : Maker τ x fv to1) (h0 : a 0 = .ptr x 0) (h5 : a 5 = lv) (h1 : lv.cells = [lv]) (hk : lv.known = true) (ho : lv.one = true) (hb : to1.length + 1 ≤ 2 ^ 30)
    (h : ∀ τ' tos, All2 RepL tos to1 → τ'.objs = upd τ.objs x (some [fv, .sl (.fam τ.nf false) 1 (tos ++ [lv])]) → τ'.no = τ.no → τ'.nf = τ.nf + 1 → τ'.F τ.nf = .alive →
      (∀ f, f < τ.nf → ¬ Uses τ x f → τ'.F f = τ.F f) → R (.ret (.int .i64 to1.length)) τ') : avc Tryd.prog G 78 pc37_r1 (afin Tryd.prog [.tmp 4] R) a τ := by
  obtain ⟨hx, tv, hob, ht⟩ := hm
  have hw : IntKind.wrap .i64 (to1.length : Int) = to1.length := by rw [wrap_i64] <;> omega
  rcases ht with ⟨rfl, rfl⟩ | ⟨g, tos, rfl, hg, hga, htos⟩
  · simp only [List.length_nil, Int.cast_ofNat_Int] at hw
    simp [pc37_r1, h0, h5, hob, hk, h1, ho, splice, hw]
    exact h _ [] .nil (by simp) rfl rfl (by simp) (fun f hf hu => by simp; omega)
  · have hl := htos.length
    simp [pc37_r1, h0, h5, hob, hk, h1, ho, splice, hga, hl, hw]
    refine ⟨by omega, h _ tos htos (by simp) rfl (by simp) (by simp) (fun f hf hu => ?_)⟩
    have : f ≠ g := fun e => hu ⟨fv, _, hob, by simp [famOf, e]⟩
    simp [this]; omega

/-- A STEP THAT NO CODE TAKES, BEHIND A CALL, IF WANTED. -/
theorem freezeOr {P : Program} {G : Env} {f : FuncId} {args : List AV} {σ : AS} {R : Out → AS → Prop}
    (h : ACalls P G f args σ fun o σ' => R o σ' ∨ ∃ v g p, o = .ret v ∧ σ'.F g = .alive ∧ R (.ret (frz g v)) (σ'.frz g p)) : ACalls P G f args σ R := by
  intro M w cargs S g c
  refine (h M w cargs S g c).mono fun e w' ⟨o, σ', M', hR, h2, h3, h4⟩ => ?_
  rcases hR with hR | ⟨v, k, p, ho, ha, hR⟩
  · exact ⟨o, σ', M', hR, h2, h3, h4⟩
  subst ho
  refine ⟨_, _, M'.frz k, hR, ?_, h3.frz ha, h4.trans (ext_frz ha)⟩
  cases e <;> simp only [OutRel] at h2 ⊢
  exact h2.frz ha

theorem frz_W (f : Nat) (w : W) : frz f w.av = w.av := by simp [W.av, W.cs]
theorem frz_Ws (f : Nat) (l : List W) : (l.map W.av).map (frz f) = l.map W.av := by simp [Function.comp_def, frz_W]
theorem RepL.frz {v l} (h : RepL v l) (f : Nat) : frz f v = v := by
  rcases h with ⟨_, rfl⟩ | ⟨b, rfl⟩
  · simp
  · rw [frz_sl_stat, frz_Ws]
theorem frz_rows {tos to} (h : All2 RepL tos to) (f : Nat) : tos.map (frz f) = tos := by
  induction h with
  | nil => rfl
  | cons h r ih => simp [h.frz f, ih]
theorem FromV.frz {v frm} (h : FromV v frm) (f : Nat) : frz f v = v := by
  obtain ⟨b, rows, rfl, h⟩ := h
  rw [frz_sl_stat, frz_rows h]

/-- what the list's end asks of a frozen or plain state -/
theorem list_end {x : Nat} {fv lv : AV} {frm : To} (hf : FromV fv frm) {to1 : To} {l : List W} {σ τ τ' : AS} {tos : List AV} {R : Out → AS → Prop} (K : Keep x σ τ) (hm : Maker τ x fv to1) (hr : RL τ x σ.nf lv l)
    (ht : All2 RepL tos to1) (e1 : τ'.objs = upd τ.objs x (some [fv, .sl (.fam τ.nf false) 1 (tos ++ [lv])])) (e2 : τ'.no = τ.no) (e3 : τ'.nf = τ.nf + 1) (e4 : τ'.F τ.nf = .alive)
    (e5 : ∀ f, f < τ.nf → ¬ Uses τ x f → τ'.F f = τ.F f)
    (h : ∀ σ', Keep x σ σ' → Maker σ' x fv (to1 ++ [l]) → R (.ret (.int .i64 to1.length)) σ') :
    R (.ret (.int .i64 to1.length)) τ' ∨ ∃ v g p, Out.ret (.int .i64 to1.length) = .ret v ∧ τ'.F g = .alive ∧ R (.ret (frz g v)) (τ'.frz g p) := by
  have base : ∀ σ' : AS, σ'.no = τ.no → σ'.nf = τ.nf + 1 → (∀ o, o ≠ x → σ'.objs o = τ.objs o) → (∃ tos', σ'.objs x = some [fv, .sl (.fam τ.nf false) 1 tos'] ∧ All2 RepL tos' (to1 ++ [l])) → σ'.F τ.nf = .alive →
      (∀ f, f < σ.nf → ¬ Uses σ x f → σ'.F f = σ.F f) → R (.ret (.int .i64 to1.length)) σ' := by
    intro σ' a1 a2 a3 ⟨tos', a4, a5⟩ a6 a7
    refine h σ' ⟨by rw [a1]; exact K.no, by rw [a2]; have := K.nf; omega, fun o h1 h2 => (a3 o h2).trans (K.obj o h1 h2), a7, fun f h1 h2 => ?_⟩ ⟨by rw [a1]; exact hm.1, _, a4, .inr ⟨_, _, rfl, by omega, a6, a5⟩⟩
    obtain ⟨fv', tv', b1, b2⟩ := h2
    rw [a4] at b1
    simp at b1
    obtain ⟨rfl, rfl⟩ := b1
    simp [famOf] at b2
    have := K.nf
    omega
  rcases hr with ⟨rfl, rfl⟩ | ⟨f, rfl, h1, h2, h3, h4⟩
  · refine .inl (base _ e2 e3 (fun o ho => by rw [e1]; simp [ho]) ⟨tos ++ [.nilsl], by rw [e1]; simp, ht.append (.cons (.inl ⟨rfl, rfl⟩) .nil)⟩ e4 (fun g hg hu => ?_))
    rw [e5 g (Nat.lt_of_lt_of_le hg K.nf) (fun u => hu (K.use g hg u)), K.fam g hg hu]
  · refine .inr ⟨_, f, fun o => o == x, rfl, by rw [e5 f h2 h4, h3], ?_⟩
    rw [frz_int]
    refine base _ e2 e3 (fun o ho => by simp [AS.frz, e1, ho]) ⟨tos ++ [.sl (.stat false) 6 (l.map W.av)], ?_, ht.append (.cons (.inr ⟨_, rfl⟩) .nil)⟩ ?_ (fun g hg hu => ?_)
    · have : τ.nf ≠ f := by omega
      simp [AS.frz, e1, hf.frz, frz_rows ht, this, Function.comp_def, frz_W]
    · have : τ.nf ≠ f := by omega
      simp [AS.frz, frzF, this, e4]
    · have : g ≠ f := by omega
      simp only [AS.frz, frzF, upd_at, this, if_false]
      rw [e5 g (Nat.lt_of_lt_of_le hg K.nf) (fun u => hu (K.use g hg u)), K.fam g hg hu]
end Go.Proofs.YthifgodgfhbnfaaDoor
set_option linter.unusedSimpArgs false
set_option linter.unusedVariables false
namespace Go.Proofs.YthifgodgfhbnfaaDoor
open Go Go.Abs
theorem plists_grows {rec} (gr : Grows rec) {w to w' to'} (h : plists rec w to = some (w', to')) : to.length ≤ to'.length := by
  unfold plists at h
  split at h
  · split at h
    · cases h
    · rename_i b to1 h1
      split at h
      · split at h
        · cases h
        · rename_i o to2 h2
          cases h; exact Nat.le_trans (gr _ _ _ _ h1) (gr _ _ _ _ h2)
      · cases h; exact gr _ _ _ _ h1
  · split at h
    · split at h
      · cases h
      · rename_i b to1 h1
        cases h; exact gr _ _ _ _ h1
    · cases h; exact Nat.le_refl _
theorem chosen_grows {rec} (gr : Grows rec) {n w to l to'} (h : pchosen rec n w to = some (l, to')) : to.length ≤ to'.length := by
  unfold pchosen at h
  simp only at h
  generalize (if n = 0 then w.other else w.body) = t at h
  split at h
  · cases h; exact Nat.le_refl _
  · split at h
    · cases h
    · rename_i b to1 h1
      cases h; exact gr _ _ _ _ h1
theorem together_grows {rec} (gr : Grows rec) {w u to l is to'} (h : ptogether rec w u to = some (l, is, to')) : to.length ≤ to'.length := by
  unfold ptogether at h
  simp only at h
  split at h
  · cases h; exact Nat.le_refl _
  split at h
  · cases h; exact Nat.le_refl _
  split at h
  · split at h <;> cases h <;> exact Nat.le_refl _
  split at h
  · split at h
    · split at h
      · cases h
      · rename_i l1 to1 hc
        cases h; exact chosen_grows gr hc
    · cases h; exact Nat.le_refl _
  · cases h; exact Nat.le_refl _
theorem loop_grows {rec} (gr : Grows rec) : ∀ {ws l to l' to'}, ploop rec ws l to = some (l', to') → to.length ≤ to'.length := by
  intro ws
  induction ws with
  | nil => intro l to l' to' h; simp [ploop] at h; rw [h.2]; exact Nat.le_refl _
  | cons w ws ih =>
    intro l to l' to' h
    unfold ploop at h
    split at h
    · split at h
      · cases h
      · rename_i w' to2 h1
        exact Nat.le_trans (plists_grows gr h1) (ih h)
    · split at h
      · cases h; exact Nat.le_refl _
      · split at h
        · cases h
        · rename_i two is to1 h1
          split at h
          · exact Nat.le_trans (together_grows gr h1) (ih h)
          · split at h
            · cases h
            · rename_i w' to2 h2
              exact Nat.le_trans (Nat.le_trans (together_grows gr h1) (plists_grows gr h2)) (ih h)

def LI (rec : Rec) (σ : AS) (x : Nat) (fv row : AV) (ws lfin : List W) (tofin : To) (a : Nat → AV) (τ : AS) : Prop := ∃ (i : Nat) (l : List W) (to : To),
  i ≤ ws.length ∧ l.length ≤ i ∧ a 0 = .ptr x 0 ∧ a 17 = row ∧ a 18 = .int .i64 (ws.length : Int) ∧ a 19 = .int .i64 (i : Int) ∧ RL τ x σ.nf (a 5) l ∧ Keep x σ τ ∧ Maker τ x fv to ∧ ploop rec (ws.drop i) l to = some (lfin, tofin)
def LM (ws : List W) (a : Nat → AV) (_ : AS) : Nat := match a 19 with
  | .int _ n => ws.length - n.toNat
  | _ => 0

theorem list_loop {G : Env} {x fv rec} (IH : RecOk G x fv rec) (gr : Grows rec) {σ : AS} {row : AV} {ws lfin : List W} {tofin : To} {R : Out → AS → Prop} (hrow : RepL row ws) (hlen : ws.length ≤ 2 ^ 30) (hb : tofin.length + 1 ≤ 2 ^ 30) (hxs : x < σ.no)
    (fin : ∀ a τ, a 0 = .ptr x 0 → RL τ x σ.nf (a 5) lfin → Keep x σ τ → Maker τ x fv tofin → avc Tryd.prog G 78 pc37_r1 (afin Tryd.prog [.tmp 4] R) a τ)
    {a : Nat → AV} {τ : AS} (hI : LI rec σ x fv row ws lfin tofin a τ) :
    ALoop Tryd.prog G 78 pc37_l1 (ablock 0 (athen (avc Tryd.prog G 78 pc37_r1 (afin Tryd.prog [.tmp 4] R)) (afin Tryd.prog [.tmp 4] R))) a τ := by
  refine aloop (LI rec σ x fv row ws lfin tofin) (LM ws) hI fun a τ hI => ?_
  obtain ⟨i, l, to, hi, hli, h0, h17, h18, h19, hR, hK, hM, hp⟩ := hI
  have hx := hM.1
  have hmu : LM ws a τ = ws.length - i := by simp [LM, h19]
  by_cases hlt : i < ws.length
  · obtain ⟨w, hw'⟩ : ∃ w, ws[i] = w := ⟨ws[i], rfl⟩
    have hd : ws.drop i = w :: ws.drop (i + 1) := by
      rw [List.drop_eq_getElem_cons hlt, hw']
    rw [hd] at hp
    have K1 : ∀ c1 c2, Keep x σ ((τ.newO c1).setO τ.no c2) := fun _ _ => (hK.addO hxs).setO hK.no hxs
    have M1 : ∀ c1 c2, Maker ((τ.newO c1).setO τ.no c2) x fv to := fun _ _ => hM.mono_newO.setO (by omega)
    have R1 : ∀ c1 c2, RL ((τ.newO c1).setO τ.no c2) x σ.nf (a 5) l := fun c1 c2 => hR.mono ((Keep.newO hx).setO (Nat.le_refl _) hx)
    have KR : ∀ c1 c2, Keep x τ ((τ.newO c1).setO τ.no c2) := fun _ _ => (Keep.newO hx).setO (Nat.le_refl _) hx
    -- the round's end
    have next : ∀ (a' : Nat → AV) (τ' : AS) (l' : List W) (to' : To), a' 0 = .ptr x 0 → a' 17 = a 17 → a' 18 = a 18 → a' 19 = .int .i64 ((i : Int) + 1) → RL τ' x σ.nf (a' 5) l' → l'.length ≤ i + 1 → Keep x σ τ' → Maker τ' x fv to' →
        ploop rec (ws.drop (i + 1)) l' to' = some (lfin, tofin) → LI rec σ x fv row ws lfin tofin a' τ' ∧ LM ws a' τ' < LM ws a τ := by
      intro a' τ' l' to' b0 b17 b18 b19 b5 bl bK bM bp
      refine ⟨⟨i + 1, l', to', hlt, bl, b0, by rw [b17, h17], by rw [b18, h18], by rw [b19]; simp, b5, bK, bM, bp⟩, ?_⟩
      rw [hmu]
      simp only [LM, b19]
      have : ((i : Int) + 1).toNat = i + 1 := by omega
      rw [this]; omega
    -- one instruction more
    have more : ∀ (σ2 : AS) (lv : AV), RL σ2 x σ.nf lv l → Keep x σ σ2 → lv = .nilsl ∧ l = [] ∨ ∃ f, lv = .sl (.fam f false) 6 (l.map W.av) ∧ σ.nf ≤ f ∧ f < σ2.nf ∧ σ2.F f = .alive ∧ ¬ Uses σ2 x f := by
      intro σ2 lv h1 h2
      rcases h1 with ⟨h1, h3⟩ | h1
      · exact .inl ⟨h3, h1⟩
      · exact .inr h1
    rcases hrow with ⟨rfl, rfl⟩ | ⟨b2, rfl⟩
    · simp at hlt
    have hi1 : IntKind.wrap .i64 ((i : Int) + 1) = (i : Int) + 1 := by rw [wrap_i64] <;> omega
    cases hl : l.getLast? with
    | none =>
      have hnil : l = [] := by simpa using hl
      subst hnil
      rw [ploop] at hp
      simp only [List.getLast?_nil] at hp
      split at hp
      · cases hp
      rename_i w' to2 hw2
      have hg := loop_grows gr hp
      rcases hR with ⟨_, h5⟩ | ⟨f, h5, hf1, hf2, hf3, hf4⟩
      · simp [pc37_l1, h0, h17, h18, h19, h5, hlt, hw', W.av, W.cs, splice]
        refine lists_calls IH gr (w := w) (M1 _ _) hw2 (by omega) fun σ2 k2 m2 => ?_
        simp [W.av, W.cs, h19, hi1]
        refine next _ _ [w'] to2 (by simp [h0]) (by simp [h17]) (by simp [h18]) (by simp) (.inr ⟨σ2.nf, by simp [W.av, W.cs], ?_, by simp, by simp, m2.fresh rfl⟩) (by simp) ((K1 _ _).trans k2).newF m2.newF hp
        exact ((K1 _ _).trans k2).nf
      · simp [pc37_l1, h0, h17, h18, h19, h5, hlt, hw', W.av, W.cs, splice]
        refine lists_calls IH gr (w := w) (M1 _ _) hw2 (by omega) fun σ2 k2 m2 => ?_
        have k := (KR _ _).trans k2
        have ha : σ2.F f = .alive := by rw [k.fam f hf2 hf4, hf3]
        have hu : ¬ Uses σ2 x f := fun u => hf4 (k.use f hf2 u)
        simp [W.av, W.cs, h19, hi1, ha]
        refine next _ _ [w'] to2 (by simp [h0]) (by simp [h17]) (by simp [h18]) (by simp) (.inr ⟨σ2.nf, by simp [W.av, W.cs], ?_, by simp, by simp, m2.fresh rfl⟩) (by simp) (((K1 _ _).trans k2).grow f hf1) (m2.grow hu) hp
        exact ((K1 _ _).trans k2).nf
    | some p =>
      obtain ⟨l0, rfl⟩ : ∃ l0, l = l0 ++ [p] := by
        obtain ⟨h1, h2⟩ := List.getLast?_eq_some_iff.1 hl
        exact ⟨h1, h2⟩
      rw [ploop] at hp
      simp only [List.getLast?_append, List.getLast?_singleton, Option.some_or] at hp
      rcases hR with ⟨hc, _⟩ | ⟨f, h5, hf1, hf2, hf3, hf4⟩
      · simp at hc
      have hpos : (0 : Int) < l0.length + 1 := by omega
      simp at hli
      have hwl : IntKind.wrap .i64 (l0.length : Int) = l0.length := by rw [wrap_i64] <;> omega
      have hget : (List.map W.av l0 ++ [AV.agg [.int .i64 p.op, .int .i64 p.ty, .int .i64 p.n, .int .i64 p.body, .int .i64 p.other, .str p.name]])[l0.length]? = some (AV.agg [.int .i64 p.op, .int .i64 p.ty, .int .i64 p.n, .int .i64 p.body, .int .i64 p.other, .str p.name]) := by simp
      have K2 : ∀ c1 c2 c3, Keep x σ (((τ.newO c1).setO τ.no c2).newO c3) := fun _ _ _ => (K1 _ _).addO hxs
      have M2 : ∀ c1 c2 c3, Maker (((τ.newO c1).setO τ.no c2).newO c3) x fv to := fun _ _ _ => (M1 _ _).mono_newO
      have KR2 : ∀ c1 c2 c3, Keep x τ (((τ.newO c1).setO τ.no c2).newO c3) := fun _ _ _ => (KR _ _).addO hx
      have R2 : ∀ c1 c2 c3, RL (((τ.newO c1).setO τ.no c2).newO c3) x σ.nf (a 5) (l0 ++ [p]) := fun c1 c2 c3 => RL.mono (.inr ⟨f, h5, hf1, hf2, hf3, hf4⟩) (KR2 c1 c2 c3)
      by_cases hle : leavesW p = true
      · rw [if_pos hle] at hp
        simp at hp
        obtain ⟨rfl, rfl⟩ := hp
        simp [pc37_l1, h0, h17, h18, h19, h5, hlt, hw', W.av, W.cs, splice, hf3, hpos, hwl, hget]
        refine leaves_calls (w := p) ?_
        simp [hle]
        exact fin _ _ (by simp [h0]) (by simpa [h5] using R2 _ _ _) (K2 _ _ _) (M2 _ _ _)
      · rw [if_neg hle] at hp
        split at hp
        · cases hp
        rename_i two is to1 hto
        have htl := two_length hto
        have hg1 : to1.length ≤ tofin.length := by
          split at hp
          · exact loop_grows gr hp
          · split at hp
            · cases hp
            · rename_i w' to2 hw2
              exact Nat.le_trans (plists_grows gr hw2) (loop_grows gr hp)
        simp [pc37_l1, h0, h17, h18, h19, h5, hlt, hw', W.av, W.cs, splice, hf3, hpos, hwl, hget]
        refine leaves_calls (w := p) ?_
        simp [hle, h0, h5, hf3, hpos, hwl, hget, W.av, W.cs]
        refine together_calls IH (w := p) (u := w) (M2 _ _ _) hto (by omega) fun σ2 v k2 m2 hv => ?_
        have k := (KR2 _ _ _).trans k2
        have ha : σ2.F f = .alive := by rw [k.fam f hf2 hf4, hf3]
        have hu : ¬ Uses σ2 x f := fun u => hf4 (k.use f hf2 u)
        cases is with
        | true =>
          simp at hp
          rcases hv with ⟨rfl, rfl⟩ | ⟨bb, rfl⟩
          · simp [h0, h5, hwl, ha, h19, hi1]
            refine ⟨by omega, by omega, next _ _ l0 to1 (by simp [h0]) (by simp [h17]) (by simp [h18]) (by simp) (.inr ⟨σ2.nf, by simp, ?_, by simp, by simp, m2.fresh rfl⟩) (by omega) (((K2 _ _ _).trans k2).grow f hf1) (m2.grow hu) (by simpa using hp)⟩
            exact ((K2 _ _ _).trans k2).nf
          · simp [h0, h5, hwl, ha, h19, hi1]
            refine ⟨by omega, fun t _ => by simp [W.av, W.cs], by omega, next _ _ (l0 ++ two) to1 (by simp [h0]) (by simp [h17]) (by simp [h18]) (by simp) (.inr ⟨σ2.nf, by simp, ?_, by simp, by simp, m2.fresh rfl⟩) (by simp; omega) (((K2 _ _ _).trans k2).grow f hf1) (m2.grow hu) (by simpa using hp)⟩
            exact ((K2 _ _ _).trans k2).nf
        | false =>
          simp at hp
          split at hp
          · cases hp
          rename_i w' to2 hw2
          have hg2 := loop_grows gr hp
          have eo := k2.obj τ.no (by simp; omega) (by omega)
          simp at eo
          simp [h0, h5, hwl, ha, h19, hi1, eo]
          refine lists_calls IH gr (w := w) m2 hw2 (by omega) fun σ3 k3 m3 => ?_
          have k' := k.trans k3
          have ha3 : σ3.F f = .alive := by rw [k'.fam f hf2 hf4, hf3]
          have hu3 : ¬ Uses σ3 x f := fun u => hf4 (k'.use f hf2 u)
          simp [h5, W.av, W.cs, h19, hi1, ha3]
          refine ⟨by omega, next _ _ (l0 ++ [p, w']) to2 (by simp [h0]) (by simp [h17]) (by simp [h18]) (by simp) (.inr ⟨σ3.nf, by simp [W.av, W.cs], ?_, by simp, by simp, m3.fresh rfl⟩) (by simp; omega) ((((K2 _ _ _).trans k2).trans k3).grow f hf1) (m3.grow hu3) (by simpa using hp)⟩
          exact (((K2 _ _ _).trans k2).trans k3).nf
  · have he : i = ws.length := by omega
    subst he
    simp [ploop] at hp
    obtain ⟨rfl, rfl⟩ := hp
    simp [pc37_l1, h18, h19]
    exact fin _ _ (by simpa using h0) (by simpa using hR) hK hM
end Go.Proofs.YthifgodgfhbnfaaDoor
set_option linter.unusedSimpArgs false
set_option linter.unusedVariables false
namespace Go.Proofs.YthifgodgfhbnfaaDoor
open Go Go.Abs
theorem list_row {G : Env} {x b rows rec} (IH : RecOk G x (.sl (.stat b) 1 rows) rec) (gr : Grows rec)
    {σ : AS} {at_ : Int} {to to1 : To} {ws l : List W} {row : AV} {R : Out → AS → Prop} (hm : Maker σ x (.sl (.stat b) 1 rows) to) (h0 : 0 ≤ at_) (hr : rows[at_.toNat]? = some row) (hrow : RepL row ws) (hlen : ws.length ≤ 2 ^ 30) (hp : ploop rec ws [] to = some (l, to1)) (hb : to1.length + 1 ≤ 2 ^ 30)
    (fin : ∀ a τ, a 0 = .ptr x 0 → RL τ x σ.nf (a 5) l → Keep x σ τ → Maker τ x (.sl (.stat b) 1 rows) to1 → avc Tryd.prog G 78 pc37_r1 (afin Tryd.prog [.tmp 4] R) a τ) : ACalls Tryd.prog G 37 [.ptr x 0, .int .i64 at_] σ R := by
  refine calls37 rfl ?_
  have hM := hm
  obtain ⟨hx, tv, ho, ht⟩ := hm
  have start : ∀ a, a 0 = .ptr x 0 → a 17 = row → a 18 = .int .i64 (ws.length : Int) → a 19 = .int .i64 0 → a 5 = .nilsl → LI rec σ x (.sl (.stat b) 1 rows) row ws l to1 a σ := by
    intro a a0 a17 a18 a19 a5
    exact ⟨0, [], to, Nat.zero_le _, Nat.le_refl _, a0, a17, a18, by simpa using a19, .inl ⟨rfl, a5⟩, .refl .., hM, by simpa using hp⟩
  have go : ∀ a, a 0 = .ptr x 0 → a 17 = row → a 18 = .int .i64 (ws.length : Int) → a 19 = .int .i64 0 → a 5 = .nilsl →
      ALoop Tryd.prog G 78 pc37_l1 (ablock 0 (athen (avc Tryd.prog G 78 pc37_r1 (afin Tryd.prog [.tmp 4] R)) (afin Tryd.prog [.tmp 4] R))) a σ :=
    fun a a0 a17 a18 a19 a5 => list_loop IH gr hrow hlen hb hx fin (start a a0 a17 a18 a19 a5)
  clear start fin
  rcases hrow with ⟨rfl, rfl⟩ | ⟨b2, rfl⟩
  · simp [pc37, ho, hr, h0]
    refine go _ ?_ ?_ ?_ ?_ ?_ <;> simp
  · simp [pc37, ho, hr, h0]
    refine go _ ?_ ?_ ?_ ?_ ?_ <;> simp

theorem list_calls {G : Env} {x fv rec} (IH : RecOk G x fv rec) (gr : Grows rec) {frm : To} (hf : FromV fv frm) (hl : ∀ ws ∈ frm, ws.length ≤ 2 ^ 30)
    {σ : AS} {at_ : Int} {to to1 : To} {ws l : List W} {R : Out → AS → Prop} (hm : Maker σ x fv to) (h0 : 0 ≤ at_) (hw : frm[at_.toNat]? = some ws) (hp : ploop rec ws [] to = some (l, to1)) (hb : to1.length + 1 ≤ 2 ^ 30)
    (h : ∀ σ', Keep x σ σ' → Maker σ' x fv (to1 ++ [l]) → R (.ret (.int .i64 to1.length)) σ') : ACalls Tryd.prog G 37 [.ptr x 0, .int .i64 at_] σ R := by
  refine freezeOr ?_
  have hf' := hf
  obtain ⟨b, rows, rfl, hrows⟩ := hf
  obtain ⟨row, hr, hrow⟩ := hrows.get hw
  have hlen := hl ws (List.mem_of_getElem? hw)
  refine list_row IH gr hm h0 hr hrow hlen hp hb fun a τ a0 a5 k m => ?_
  have key : (a 5).cells = [a 5] ∧ (a 5).known = true ∧ (a 5).one = true := by
    rcases a5 with ⟨_, e⟩ | ⟨f, e, _⟩ <;> rw [e] <;> simp
  exact list_fin m a0 rfl key.1 key.2.1 key.2.2 hb fun τ' tos ht e1 e2 e3 e4 e5 => list_end hf' k m a5 ht e1 e2 e3 e4 e5 h

theorem plist_grows (frm : To) : ∀ k, Grows (plist frm k)
  | 0, _, _, _, _, h => by simp [plist] at h
  | k + 1, at_, to, n, to', h => by
    unfold plist at h
    split at h
    · cases h
    split at h
    · cases h
    split at h
    · cases h
    rename_i l to1 h1
    cases h
    have := loop_grows (plist_grows frm k) h1
    simp; omega

/-- THE LIST-MAKER's CONTRACT. -/
theorem plist_ok {G : Env} {x fv} {frm : To} (hf : FromV fv frm) (hl : ∀ ws ∈ frm, ws.length ≤ 2 ^ 30) : ∀ k, RecOk G x fv (plist frm k)
  | 0, _, _, _, _, _, _, _, h, _, _ => by simp [plist] at h
  | k + 1, σ, at_, to, n, to', R, hm, h, hb, hR => by
    unfold plist at h
    split at h
    · cases h
    rename_i h0
    split at h
    · cases h
    rename_i ws hw
    split at h
    · cases h
    rename_i l to1 h1
    cases h
    exact list_calls (plist_ok hf hl k) (plist_grows frm k) hf hl hm (by omega) hw h1 (by simpa using hb) hR
end Go.Proofs.YthifgodgfhbnfaaDoor
set_option linter.unusedSimpArgs false
set_option linter.unusedVariables false
namespace Go.Proofs.YthifgodgfhbnfaaDoor
open Go Go.Abs
/-- a call that only adds -/
structure Adds (σ σ' : AS) : Prop where
  no : σ.no ≤ σ'.no
  nf : σ.nf ≤ σ'.nf
  obj : ∀ o, o < σ.no → σ'.objs o = σ.objs o
  fam : ∀ f, f < σ.nf → σ'.F f = σ.F f
theorem Adds.refl (σ) : Adds σ σ := ⟨Nat.le_refl _, Nat.le_refl _, fun _ _ => rfl, fun _ _ => rfl⟩
theorem Adds.trans {σ σ1 σ2} (h : Adds σ σ1) (h' : Adds σ1 σ2) : Adds σ σ2 where
  no := Nat.le_trans h.no h'.no
  nf := Nat.le_trans h.nf h'.nf
  obj o a := by rw [h'.obj o (Nat.lt_of_lt_of_le a h.no), h.obj o a]
  fam f a := by rw [h'.fam f (Nat.lt_of_lt_of_le a h.nf), h.fam f a]
theorem Adds.newO {σ σ' cs} (h : Adds σ σ') : Adds σ (σ'.newO cs) where
  no := Nat.le_trans h.no (by simp)
  nf := h.nf
  obj o a := by have := h.no; simp; rw [if_neg (by omega)]; exact h.obj o a
  fam := h.fam
theorem Adds.setO {σ σ' o cs} (h : Adds σ σ') (ho : σ.no ≤ o) : Adds σ (σ'.setO o cs) where
  no := h.no
  nf := h.nf
  obj p a := by simp; rw [if_neg (by omega)]; exact h.obj p a
  fam := h.fam
theorem Adds.newF {σ σ'} (h : Adds σ σ') : Adds σ σ'.newF where
  no := h.no
  nf := Nat.le_trans h.nf (by simp)
  obj := h.obj
  fam f a := by have := h.nf; simp; rw [if_neg (by omega)]; exact h.fam f a
theorem Adds.setF {σ σ' f s} (h : Adds σ σ') (hf : σ.nf ≤ f) : Adds σ (σ'.setF f s) where
  no := h.no
  nf := h.nf
  obj := h.obj
  fam g a := by simp; rw [if_neg (by omega)]; exact h.fam g a
theorem Adds.frz {σ σ' f p} (h : Adds σ σ') (hf : σ.nf ≤ f) (hp : ∀ o, o < σ.no → p o = false) : Adds σ (σ'.frz f p) where
  no := h.no
  nf := h.nf
  obj o a := by simp [AS.frz, hp o a]; exact h.obj o a
  fam g a := by simp [AS.frz, frzF]; rw [if_neg (by omega)]; exact h.fam g a

def IntsV (v : AV) (l : List Int) : Prop := (l = [] ∧ v = .nilsl) ∨ ∃ b, v = .sl (.stat b) 1 (l.map (.int .i64))
theorem IntsV.frz {v l} (h : IntsV v l) (f : Nat) : frz f v = v := by
  rcases h with ⟨_, rfl⟩ | ⟨b, rfl⟩ <;> simp [Function.comp_def]
theorem IntsV.one {v l} (h : IntsV v l) : v.known = true ∧ v.one = true ∧ v.cells = [v] := by
  rcases h with ⟨_, rfl⟩ | ⟨b, rfl⟩ <;> simp

def FrzOr (R : Out → AS → Prop) (o : Out) (σ' : AS) : Prop := R o σ' ∨ ∃ v g p, o = .ret v ∧ σ'.F g = .alive ∧ R (.ret (frz g v)) (σ'.frz g p)
theorem freezing {P : Program} {G : Env} {f : FuncId} {args : List AV} {σ : AS} {R : Out → AS → Prop} (h : ACalls P G f args σ (FrzOr R)) : ACalls P G f args σ R := freezeOr h
theorem FrzOr.froze {R : Out → AS → Prop} {v : AV} {σ' : AS} (g : Nat) (p : Nat → Bool) (h : σ'.F g = .alive) (h2 : R (.ret (frz g v)) (σ'.frz g p)) : FrzOr R (.ret v) σ' := .inr ⟨v, g, p, rfl, h, h2⟩
theorem clone_calls {G : Env} {σ : AS} {v : AV} {l : List Int} {R : Out → AS → Prop} (hv : IntsV v l) (hl : l.length ≤ 2 ^ 30) (h : ∀ v' σ', IntsV v' l → Adds σ σ' → R (.ret v') σ') : ACalls Tryd.prog G 38 [v] σ R := by
  refine freezing (calls38 rfl ?_)
  rcases hv with ⟨rfl, rfl⟩ | ⟨b, rfl⟩
  · have := h .nilsl σ (.inl ⟨rfl, rfl⟩) (.refl _)
    simp [pc38, aeq]
    exact .inl this
  · cases l with
    | nil =>
      have := h (.sl (.stat true) 1 []) σ (.inr ⟨_, rfl⟩) (.refl _)
      simp [pc38, aeq]
      exact .inl this
    | cons n l =>
      have := h (.sl (.stat false) 1 ((n :: l).map (.int .i64))) (σ.newF.frz σ.nf fun _ => false) (.inr ⟨_, rfl⟩) ((Adds.refl σ).newF.frz (Nat.le_refl _) fun _ _ => rfl)
      simp at hl
      simp [pc38, aeq]
      refine ⟨by omega, .froze σ.nf (fun _ => false) (by simp) ?_⟩
      simpa [Function.comp_def] using this

def ListsV (v : AV) (to : To) : Prop := (to = [] ∧ v = .nilsl) ∨ FromV v to
theorem ListsV.one {v l} (h : ListsV v l) : v.known = true ∧ v.one = true ∧ v.cells = [v] := by
  rcases h with ⟨_, rfl⟩ | ⟨b, _, rfl, _⟩ <;> simp
theorem ListsV.frz {v l} (h : ListsV v l) (f : Nat) : frz f v = v := by
  rcases h with ⟨_, rfl⟩ | h
  · simp
  · exact h.frz f
/-- the first call -/
theorem list_top {G : Env} {x : Nat} {fv : AV} {frm : To} (hf : FromV fv frm) (hl : ∀ ws ∈ frm, ws.length ≤ 2 ^ 30) {k : Nat} {σ : AS} {at_ n : Int} {to : To} {R : Out → AS → Prop} (hx : x < σ.no) (ho : σ.objs x = some [fv, .nilsl])
    (hp : plist frm k at_ [] = some (n, to)) (hb : to.length ≤ 2 ^ 30)
    (h : ∀ σ' tv, σ.no ≤ σ'.no → σ.nf ≤ σ'.nf → (∀ o, o < σ.no → o ≠ x → σ'.objs o = σ.objs o) → (∀ f, f < σ.nf → σ'.F f = σ.F f) → σ'.objs x = some [fv, tv] → ListsV tv to → R (.ret (.int .i64 n)) σ') : ACalls Tryd.prog G 37 [.ptr x 0, .int .i64 at_] σ R := by
  have hu : ∀ f, ¬ Uses σ x f := fun f ⟨fv', tv', h1, h2⟩ => by rw [ho] at h1; simp at h1; obtain ⟨rfl, rfl⟩ := h1; simp [famOf] at h2
  refine freezeOr (plist_ok hf hl k σ at_ [] n to _ ⟨hx, _, ho, .inl ⟨rfl, rfl⟩⟩ hp hb fun σ' K ⟨m1, tv, m2, m3⟩ => ?_)
  rcases m3 with ⟨e, rfl⟩ | ⟨g, tos, rfl, g1, g2, g3⟩
  · exact .inl (h σ' _ K.no K.nf K.obj (fun f hf => K.fam f hf (hu f)) m2 (.inl ⟨e, rfl⟩))
  · have hg : σ.nf ≤ g := by
      by_cases hlt : g < σ.nf
      · exact absurd (K.use g hlt ⟨_, _, m2, rfl⟩) (hu g)
      · omega
    refine .inr ⟨_, g, fun o => o == x, rfl, g2, ?_⟩
    rw [frz_int]
    refine h _ (.sl (.stat false) 1 tos) K.no K.nf (fun o h1 h2 => ?_) (fun f hf => ?_) ?_ (.inr ⟨_, _, rfl, g3⟩)
    · simp [AS.frz, h2]; exact K.obj o h1 h2
    · simp [AS.frz, frzF]; rw [if_neg (by omega)]; exact K.fam f hf (hu f)
    · simp [AS.frz, m2, hf.frz, frz_rows g3]

def FV (v : AV) (f : F) : Prop := ∃ pv lv tv, v = .agg [.str f.name, pv, lv, .int .i64 f.type, tv] ∧ IntsV pv f.params ∧ IntsV lv f.locals ∧ ListsV tv f.lists
def FsV (v : AV) (fs : List F) : Prop := (fs = [] ∧ v = .nilsl) ∨ ∃ b rows, v = .sl (.stat b) 5 rows ∧ All2 FV rows fs
def MV (v : AV) (m : M) : Prop := ∃ fv, v = .agg [fv, .int .i64 m.memory, .int .i64 m.main] ∧ FsV fv m.funcs
def peepF (k : Nat) (f : F) : Option F := match plist f.lists k ((f.lists.length : Int) - 1) [] with
  | none => none
  | some (_, to) => some { f with lists := to }
def peepFs (k : Nat) : List F → Option (List F)
  | [] => some []
  | f :: fs => match peepF k f with
    | none => none
    | some f' => match peepFs k fs with
      | none => none
      | some fs' => some (f' :: fs')
/-- what is small enough -/
def FOk (k : Nat) (f : F) : Prop := f.params.length ≤ 2 ^ 30 ∧ f.locals.length ≤ 2 ^ 30 ∧ (∀ ws ∈ f.lists, ws.length ≤ 2 ^ 30) ∧ f.lists.length ≤ 2 ^ 30 ∧ ∃ n to, plist f.lists k ((f.lists.length : Int) - 1) [] = some (n, to) ∧ to.length ≤ 2 ^ 30
theorem FV.frz {v f} (h : FV v f) (g : Nat) : frz g v = v := by
  obtain ⟨pv, lv, tv, rfl, h1, h2, h3⟩ := h
  simp [h1.frz, h2.frz, h3.frz]
theorem frz_FVs {vs fs} (h : All2 FV vs fs) (g : Nat) : vs.map (frz g) = vs := by
  induction h with
  | nil => rfl
  | cons h r ih => simp [h.frz, ih]
end Go.Proofs.YthifgodgfhbnfaaDoor
set_option linter.unusedSimpArgs false
set_option linter.unusedVariables false
namespace Go.Proofs.YthifgodgfhbnfaaDoor
open Go Go.Abs
def OutV (τ : AS) (base : Nat) (v : AV) (l : List F) : Prop :=
  (l = [] ∧ v = .nilsl) ∨ ∃ g rows, v = .sl (.fam g false) 5 rows ∧ base ≤ g ∧ g < τ.nf ∧ τ.F g = .alive ∧ All2 FV rows l
def PI (k : Nat) (σ : AS) (r o : Nat) (fsv : AV) (fs all : List F) (mem mn : Int) (rc : List AV) (a : Nat → AV) (τ : AS) : Prop := ∃ (i : Nat) (done rest : List F) (ov : AV),
  i ≤ fs.length ∧ done.length = i ∧ a 2 = .ptr r 0 ∧ a 3 = .ptr o 0 ∧ a 13 = fsv ∧ a 14 = .int .i64 (fs.length : Int) ∧ a 15 = .int .i64 (i : Int) ∧ τ.objs r = some rc ∧ τ.objs o = some [ov, .int .i64 mem, .int .i64 mn] ∧
  r < τ.no ∧ o < τ.no ∧ OutV τ σ.nf ov done ∧ peepFs k (fs.drop i) = some rest ∧ done ++ rest = all ∧ Adds σ τ
def PM (fs : List F) (a : Nat → AV) (_ : AS) : Nat := match a 15 with
  | .int _ n => fs.length - n.toNat
  | _ => 0

theorem peep_loop {G : Env} {k : Nat} {σ : AS} {r o : Nat} {fsv : AV} {fs all : List F} {mem mn : Int} {rc : List AV} {R : Out → AS → Prop} (hro : r ≠ o) (hr : σ.no ≤ r) (hso : σ.no ≤ o) (hfs : FsV fsv fs) (hlen : fs.length ≤ 2 ^ 30) (hok : ∀ f ∈ fs, FOk k f)
    (fin : ∀ a τ ov, a 2 = .ptr r 0 → a 3 = .ptr o 0 → τ.objs r = some rc → τ.objs o = some [ov, .int .i64 mem, .int .i64 mn] → OutV τ σ.nf ov all → Adds σ τ → avc Tryd.prog G 50 pc13_r1 (afin Tryd.prog [.cell 2 24] R) a τ)
    {a : Nat → AV} {τ : AS} (hI : PI k σ r o fsv fs all mem mn rc a τ) :
    ALoop Tryd.prog G 50 pc13_l1 (ablock 0 (athen (avc Tryd.prog G 50 pc13_r1 (afin Tryd.prog [.cell 2 24] R)) (afin Tryd.prog [.cell 2 24] R))) a τ := by
  refine aloop (PI k σ r o fsv fs all mem mn rc) (PM fs) hI fun a τ hI => ?_
  obtain ⟨i, done, rest, ov, hi, hd, h2, h3, h13, h14, h15, hor, hoo, hrl, hol, hov, hp, hall, hA⟩ := hI
  have hmu : PM fs a τ = fs.length - i := by simp [PM, h15]
  by_cases hlt : i < fs.length
  · have hd' := List.drop_eq_getElem_cons hlt
    rw [hd', peepFs] at hp
    rcases hfs with ⟨rfl, rfl⟩ | ⟨b, rows, rfl, hrows⟩
    · simp at hlt
    obtain ⟨row, hrow, pv, lv, tv, rfl, hpv, hlv, htv⟩ := hrows.get (i := i) (y := fs[i]) (by simp [hlt])
    obtain ⟨ok1, ok2, ok3, ok4, n, to, ok5, ok6⟩ := hok _ (List.getElem_mem hlt)
    have hpf : peepF k fs[i] = some { fs[i] with lists := to } := by simp [peepF, ok5]
    rw [hpf] at hp
    simp only at hp
    generalize fs[i] = f at *
    split at hp
    · cases hp
    rename_i rest' hrest
    simp at hp
    have hrl' := hrows.length
    have htl : FromV tv f.lists := by
      rcases htv with ⟨e, _⟩ | h
      · rw [e] at ok5; cases k <;> simp [plist] at ok5
      · exact h
    obtain ⟨b2, trows, rfl, htr⟩ := htl
    have htll := htr.length
    have hw1 : IntKind.wrap .i64 ((f.lists.length : Int) - 1) = (f.lists.length : Int) - 1 := by rw [wrap_i64] <;> omega
    have hw2 : IntKind.wrap .i64 ((i : Int) + 1) = (i : Int) + 1 := by rw [wrap_i64] <;> omega
    have hlv1 := hlv.one
    have hpv1 := hpv.one
    simp [pc13_l1, h13, h14, h15, hlt, hrow, splice, htll, hw1, hpv1, hlv1]
    refine list_top ⟨b2, trows, rfl, htr⟩ ok3 (by simp) (by simp) ok5 ok6 fun σ1 tv1 n1 n2 e1 e2 e3 htv1 => ?_
    have hF := e1 τ.no (by simp; omega) (by omega)
    simp at hF
    simp [hF, e3]
    have hO1 := e1 o (by simp; omega) (by omega)
    simp only [newO_objs, setO_objs, setO_no, newO_no, upd_at] at hO1
    rw [if_neg (by omega), if_neg (by omega), if_neg (by omega), hoo] at hO1
    have hR1 := e1 r (by simp; omega) (by omega)
    simp only [newO_objs, setO_objs, setO_no, newO_no, upd_at] at hR1
    rw [if_neg (by omega), if_neg (by omega), if_neg (by omega), hor] at hR1
    simp at n1 n2 e2
    refine clone_calls hpv ok1 fun pv' σ2 hpv' A2 => ?_
    have hF2 := (A2.obj τ.no (by omega)).trans hF
    have hX2 := (A2.obj (τ.no + 1) (by omega)).trans e3
    have hO2 := (A2.obj o (by omega)).trans hO1
    have hR2 := (A2.obj r (by omega)).trans hR1
    have n3 := A2.no
    have n4 := A2.nf
    simp [hF2, hX2]
    refine clone_calls hlv ok2 fun lv' σ3 hlv' A3 => ?_
    have hF3 := (A3.obj τ.no (by omega)).trans hF2
    have hX3 := (A3.obj (τ.no + 1) (by omega)).trans hX2
    have hO3 := (A3.obj o (by omega)).trans hO2
    have hR3 := (A3.obj r (by omega)).trans hR2
    have n5 := A3.no
    have n6 := A3.nf
    have hpv1' := hpv'.one
    have hlv1' := hlv'.one
    have htv1' := htv1.one
    have hon : ¬ o = τ.no := by omega
    have hrn : ¬ r = τ.no := by omega
    have hpos : ∀ (x y z : AV), (AV.agg [x, y, z, .int .i64 f.type, tv1]).cells.length = 5 := by simp
    have A : Adds σ σ3 := ⟨by have := hA.no; omega, by have := hA.nf; omega, fun p hp => ?_, fun g hg => ?_⟩
    · have hfv : FV (.agg [.str f.name, pv', lv', .int .i64 f.type, tv1]) { f with lists := to } := ⟨_, _, _, rfl, hpv', hlv', htv1⟩
      have next : ∀ (a' : Nat → AV) (τ' : AS) (ov' : AV), a' 2 = .ptr r 0 → a' 3 = .ptr o 0 → a' 13 = .sl (.stat b) 5 rows → a' 14 = .int .i64 (fs.length : Int) → a' 15 = .int .i64 ((i : Int) + 1) → τ'.objs r = some rc → τ'.objs o = some [ov', .int .i64 mem, .int .i64 mn] →
          r < τ'.no → o < τ'.no → OutV τ' σ.nf ov' (done ++ [{ f with lists := to }]) → Adds σ τ' → PI k σ r o (.sl (.stat b) 5 rows) fs all mem mn rc a' τ' ∧ PM fs a' τ' < PM fs a τ := by
        intro a' τ' ov' b2 b3 b13 b14 b15 c1 c2 c3 c4 c5 c6
        refine ⟨⟨i + 1, done ++ [{ f with lists := to }], rest', ov', hlt, by simp [hd], b2, b3, b13, b14, by rw [b15]; simp, c1, c2, c3, c4, c5, hrest, ?_, c6⟩, ?_⟩
        · rw [← hall, ← hp]; simp
        · rw [hmu]
          simp only [PM, b15]
          have : ((i : Int) + 1).toNat = i + 1 := by omega
          rw [this]; omega
      rcases hov with ⟨rfl, rfl⟩ | ⟨g, orows, rfl, g1, g2, g3, g4⟩
      · simp [hF3, hX3, hO3, h3, hon, hpv1', hlv1', htv1', h15, hw2, splice]
        refine next _ _ (.sl (.fam σ3.nf false) 5 [.agg [.str f.name, pv', lv', .int .i64 f.type, tv1]]) (by simp [h2]) (by simp [h3]) (by simp [h13]) (by simp [h14]) (by simp) ?_ (by simp) (by simp; omega) (by simp; omega) ?_ ?_
        · simp [hrn, Ne.symm hro, hro, hR3]
        · exact .inr ⟨σ3.nf, _, by simp, by have := hA.nf; omega, by simp, by simp, .cons hfv .nil⟩
        · exact ((((A.setO (by omega)).setO (by omega)).setO (by omega)).newF).setO hso
      · have ga : σ3.F g = .alive := by rw [A3.fam g (by omega), A2.fam g (by omega), e2 g g2, g3]
        have gl := g4.length
        simp [hF3, hX3, hO3, h3, hon, hpv1', hlv1', htv1', h15, hw2, ga, splice]
        refine ⟨by omega, next _ _ (.sl (.fam σ3.nf false) 5 (orows ++ [.agg [.str f.name, pv', lv', .int .i64 f.type, tv1]])) (by simp [h2]) (by simp [h3]) (by simp [h13]) (by simp [h14]) (by simp) ?_ (by simp) (by simp; omega) (by simp; omega) ?_ ?_⟩
        · simp [hrn, Ne.symm hro, hro, hR3]
        · exact .inr ⟨σ3.nf, _, by simp, by have := hA.nf; omega, by simp, by simp, g4.append (.cons hfv .nil)⟩
        · exact ((((A.setO (by omega)).setO (by omega)).setO (by omega)).setF g1).newF.setO hso
    · have := hA.no
      rw [A3.obj p (by omega), A2.obj p (by omega), e1 p (by simp; omega) (by omega)]
      simp
      rw [if_neg (by omega), if_neg (by omega), if_neg (by omega)]
      exact hA.obj p hp
    · have := hA.nf
      rw [A3.fam g (by omega), A2.fam g (by omega), e2 g (by omega), hA.fam g hg]
  · have he : i = fs.length := by omega
    subst he
    simp [peepFs] at hp
    subst hp
    simp at hall
    subst hall
    simp [pc13_l1, h14, h15]
    exact fin _ _ _ (by simpa using h2) (by simpa using h3) hor hoo hov hA
end Go.Proofs.YthifgodgfhbnfaaDoor
set_option linter.unusedSimpArgs false
set_option linter.unusedVariables false
namespace Go.Proofs.YthifgodgfhbnfaaDoor
open Go Go.Abs
theorem FsV.one {v l} (h : FsV v l) : v.known = true ∧ v.one = true ∧ v.cells = [v] := by
  rcases h with ⟨_, rfl⟩ | ⟨b, _, rfl, _⟩ <;> simp
/-- PEEP's CONTRACT. -/
theorem peep_calls {G : Env} {k : Nat} {m : M} {mv : AV} {fs' : List F} {σ : AS} {R : Out → AS → Prop} (hm : MV mv m) (hlen : m.funcs.length ≤ 2 ^ 30) (hok : ∀ f ∈ m.funcs, FOk k f) (hp : peepFs k m.funcs = some fs')
    (h : ∀ v' σ', MV v' ⟨fs', m.memory, m.main⟩ → Adds σ σ' → R (.ret v') σ') : ACalls Tryd.prog G 13 [mv] σ R := by
  refine freezing (calls13 rfl ?_)
  obtain ⟨fsv, rfl, hfs⟩ := hm
  have h1 := hfs.one
  have fin : ∀ (rc : List AV) (a : Nat → AV) (τ : AS) (ov : AV), rc.length = 3 → a 2 = .ptr (σ.no + 1) 0 → a 3 = .ptr (σ.no + 1 + 1) 0 → τ.objs (σ.no + 1) = some rc → τ.objs (σ.no + 1 + 1) = some [ov, .int .i64 m.memory, .int .i64 m.main] → OutV τ σ.nf ov fs' → Adds σ τ →
      avc Tryd.prog G 50 pc13_r1 (afin Tryd.prog [.cell 2 24] (FrzOr R)) a τ := by
    intro rc a τ ov hrc a2 a3 o1 o2 hov hA
    obtain ⟨x, y, z, rfl⟩ : ∃ x y z, rc = [x, y, z] := by
      match rc, hrc with
      | [x, y, z], _ => exact ⟨x, y, z, rfl⟩
    rcases hov with ⟨rfl, rfl⟩ | ⟨g, orows, rfl, g1, g2, g3, g4⟩
    · simp [pc13_r1, a2, a3, o1, o2, splice]
      exact .inl (h _ _ ⟨_, rfl, .inl ⟨rfl, rfl⟩⟩ (hA.setO (by omega)))
    · simp [pc13_r1, a2, a3, o1, o2, splice]
      refine .froze g (fun _ => false) (by simpa using g3) ?_
      have := h (.agg [.sl (.stat false) 5 orows, .int .i64 m.memory, .int .i64 m.main]) _ ⟨_, rfl, .inr ⟨_, _, rfl, g4⟩⟩ ((hA.setO (o := σ.no + 1) (cs := [.sl (.fam g false) 5 orows, .int .i64 m.memory, .int .i64 m.main]) (by omega)).frz (f := g) (p := fun _ => false) g1 (fun _ _ => rfl))
      simpa [frz_FVs g4] using this
  have start : ∀ a rc τ, τ.objs (σ.no + 1) = some rc → rc.length = 3 → τ.objs (σ.no + 1 + 1) = some [.nilsl, .int .i64 m.memory, .int .i64 m.main] → σ.no + 1 + 1 < τ.no → Adds σ τ → a 2 = .ptr (σ.no + 1) 0 → a 3 = .ptr (σ.no + 1 + 1) 0 → a 13 = fsv → a 14 = .int .i64 (m.funcs.length : Int) → a 15 = .int .i64 0 →
      ALoop Tryd.prog G 50 pc13_l1 (ablock 0 (athen (avc Tryd.prog G 50 pc13_r1 (afin Tryd.prog [.cell 2 24] (FrzOr R))) (afin Tryd.prog [.cell 2 24] (FrzOr R)))) a τ := by
    intro a rc τ o1 hrc o2 o3 hA a2 a3 a13 a14 a15
    exact peep_loop (r := σ.no + 1) (o := σ.no + 1 + 1) (σ := σ) (rc := rc) (k := k) (by omega) (by omega) (by omega) hfs hlen hok (fun a τ ov b2 b3 c1 c2 c3 c4 => fin rc a τ ov hrc b2 b3 c1 c2 c3 c4)
      ⟨0, [], fs', .nilsl, by omega, rfl, a2, a3, a13, a14, by simpa using a15, o1, o2, by omega, o3, .inl ⟨rfl, rfl⟩, by simpa using hp, by simp, hA⟩
  clear fin
  have A0 : ∀ c1 c2 c3 c4, Adds σ ((((σ.newO c1).newO c2).newO c3).setO (σ.no + 1 + 1) c4) := fun _ _ _ _ => ((((Adds.refl σ).newO).newO).newO).setO (by omega)
  have e2 : ¬ σ.no = σ.no + 1 + 1 := by omega
  have e1 : ¬ σ.no + 1 = σ.no + 1 + 1 := by omega
  rcases hfs with ⟨e, rfl⟩ | ⟨b, rows, rfl, hr⟩
  · simp [pc13, splice, e1, e2]
    refine start _ [.nilsl, .int .i64 0, .int .i64 0] _ ?_ rfl ?_ ?_ (A0 _ _ _ _) ?_ ?_ ?_ ?_ ?_ <;> simp [e]
  · have hl := hr.length
    simp [pc13, splice, e1, e2]
    refine start _ [.nilsl, .int .i64 0, .int .i64 0] _ ?_ rfl ?_ ?_ (A0 _ _ _ _) ?_ ?_ ?_ ?_ ?_ <;> simp [hl]
end Go.Proofs.YthifgodgfhbnfaaDoor
set_option linter.unusedSimpArgs false
set_option linter.unusedVariables false
namespace Go.Proofs.YthifgodgfhbnfaaDoor
open Go Go.Abs
def wN (n : Int) : W := ⟨1, 1, n, 0, 0, []⟩
def wO (o t : Int) : W := ⟨o, t, 0, 0, 0, []⟩
theorem Adds.mk1 {σ : AS} {c1 c2} : Adds σ ((σ.newO c1).setO σ.no c2) := ((Adds.refl σ).newO).setO (Nat.le_refl _)
theorem numW_calls {G : Env} {n : Int} {σ : AS} {R : Out → AS → Prop} (h : ∀ σ', Adds σ σ' → R (.ret (wN n).av) σ') : ACalls Tryd.prog G 34 [.int .i64 n] σ R := by
  refine calls34 rfl ?_
  simp [pc34, splice]
  exact h _ .mk1
theorem getW_calls {G : Env} {σ : AS} {R : Out → AS → Prop} (h : ∀ σ', Adds σ σ' → R (.ret (wO 2 0).av) σ') : ACalls Tryd.prog G 32 [] σ R := by
  refine calls32 rfl ?_
  simp [pc32, splice]
  exact h _ .mk1
theorem dropW_calls {G : Env} {σ : AS} {R : Out → AS → Prop} (h : ∀ σ', Adds σ σ' → R (.ret (wO 18 0).av) σ') : ACalls Tryd.prog G 33 [] σ R := by
  refine calls33 rfl ?_
  simp [pc33, splice]
  exact h _ .mk1
theorem eqzW_calls {G : Env} {σ : AS} {R : Out → AS → Prop} (h : ∀ σ', Adds σ σ' → R (.ret (wO 5 1).av) σ') : ACalls Tryd.prog G 35 [] σ R := by
  refine calls35 rfl ?_
  simp [pc35, splice]
  exact h _ .mk1
/-- a list of instructions that may be read -/
def SlW (σ : AS) (v : AV) (l : List W) : Prop := (l = [] ∧ v = .nilsl) ∨ ∃ φ, v = .sl φ 6 (l.map W.av) ∧ Readable σ.F φ
theorem RepL.slw {σ : AS} {v l} (h : RepL v l) : SlW σ v l := by
  rcases h with h | ⟨b, rfl⟩
  · exact .inl h
  · exact .inr ⟨_, rfl, trivial⟩
def mainF (to : To) : F := ⟨[109, 97, 105, 110], [], [1], 1, to⟩
theorem of_calls {G : Env} {v : AV} {to : To} {σ : AS} {R : Out → AS → Prop} (hv : FromV v to) (h : ∀ v' σ', MV v' ⟨[mainF to], 0, 0⟩ → Adds σ σ' → R (.ret v') σ') : ACalls Tryd.prog G 53 [v] σ R := by
  refine calls53 rfl ?_
  obtain ⟨b, rows, rfl, hr⟩ := hv
  have := h (.agg [.sl (.stat true) 5 [.agg [.str [109, 97, 105, 110], .nilsl, .sl (.stat true) 1 [.int .i64 1], .int .i64 1, .sl (.stat b) 1 rows]], .int .i64 0, .int .i64 0]) ((σ.newO [.nilsl, .int .i64 0, .int .i64 0]).setO σ.no [.sl (.stat true) 5 [.agg [.str [109, 97, 105, 110], .nilsl, .sl (.stat true) 1 [.int .i64 1], .int .i64 1, .sl (.stat b) 1 rows]], .int .i64 0, .int .i64 0]) ⟨_, rfl, .inr ⟨_, _, rfl, .cons ⟨_, _, _, rfl, .inl ⟨rfl, rfl⟩, .inr ⟨_, rfl⟩, .inr ⟨_, _, rfl, hr⟩⟩ .nil⟩⟩ .mk1
  simpa [pc53, splice] using this

theorem aeqW (w u : W) : aeq Tryd.prog 40 (.agg [.int .i64 w.op, .int .i64 w.ty, .int .i64 w.n, .int .i64 w.body, .int .i64 w.other, .str w.name]) (.agg [.int .i64 u.op, .int .i64 u.ty, .int .i64 u.n, .int .i64 u.body, .int .i64 u.other, .str u.name]) = some (decide (w = u)) := by
  simp [aeq, aeqFs]
  have key : (w = u) ↔ (w.op = u.op ∧ w.ty = u.ty ∧ w.n = u.n ∧ w.body = u.body ∧ w.other = u.other ∧ w.name = u.name) := by
    constructor
    · rintro rfl; simp
    · rintro ⟨h1, h2, h3, h4, h5, h6⟩
      cases w; cases u; simp_all
  by_cases h1 : w.op = u.op <;> by_cases h2 : w.ty = u.ty <;> by_cases h3 : w.n = u.n <;> by_cases h4 : w.body = u.body <;> by_cases h5 : w.other = u.other <;> by_cases h6 : w.name = u.name <;> simp [key, h1, h2, h3, h4, h5, h6]

def SI (va vb : AV) (a b : List W) (σ : AS) (f : Nat → AV) (τ : AS) : Prop := ∃ i : Nat, i ≤ a.length ∧ f 0 = va ∧ f 1 = vb ∧ f 5 = .int .i64 (i : Int) ∧ a.take i = b.take i ∧ τ = σ
def SM (a : List W) (f : Nat → AV) (_ : AS) : Nat := match f 5 with
  | .int _ n => a.length - n.toNat
  | _ => 0
theorem SlW.len {σ v l} (h : SlW σ v l) {Q : Int → Prop} (hq : Q l.length) : alen Tryd.prog 38 v (fun x => ∃ n, x = .int .i64 n ∧ Q n) := by
  rcases h with ⟨rfl, rfl⟩ | ⟨φ, rfl, _⟩ <;> simp <;> exact hq

theorem same_calls {G : Env} {va vb : AV} {a b : List W} {σ : AS} {R : Out → AS → Prop} (ha : SlW σ va a) (hb : SlW σ vb b) (hl : a.length ≤ 2 ^ 30) (h : R (.ret (.bool (decide (a = b)))) σ) : ACalls Tryd.prog G 54 [va, vb] σ R := by
  refine calls54 rfl ?_
  by_cases hab : a.length = b.length
  · have loop : ∀ f, f 0 = va → f 1 = vb → f 5 = .int .i64 0 → ALoop Tryd.prog G 27 pc54_l1 (ablock 0 (athen (avc Tryd.prog G 27 pc54_r1 (afin Tryd.prog [.tmp 4] R)) (afin Tryd.prog [.tmp 4] R))) f σ := by
      intro f f0 f1 f5
      refine aloop (SI va vb a b σ) (SM a) ⟨0, Nat.zero_le _, f0, f1, by simpa using f5, by simp, rfl⟩ fun f τ ⟨i, hi, f0, f1, f5, ht, hτ⟩ => ?_
      subst hτ
      have hmu : SM a f τ = a.length - i := by simp [SM, f5]
      by_cases hlt : i < a.length
      · have hltb : i < b.length := by omega
        obtain ⟨φ, rfl, hφ⟩ : ∃ φ, va = .sl φ 6 (a.map W.av) ∧ Readable τ.F φ := by
          rcases ha with ⟨rfl, _⟩ | ha
          · simp at hlt
          · exact ha
        obtain ⟨ψ, rfl, hψ⟩ : ∃ φ, vb = .sl φ 6 (b.map W.av) ∧ Readable τ.F φ := by
          rcases hb with ⟨rfl, _⟩ | hb
          · simp at hltb
          · exact hb
        have hw2 : IntKind.wrap .i64 ((i : Int) + 1) = (i : Int) + 1 := by rw [wrap_i64] <;> omega
        have ea : a.take (i + 1) = a.take i ++ [a[i]] := by simp
        have eb : b.take (i + 1) = b.take i ++ [b[i]] := by simp
        by_cases hw : a[i] = b[i]
        · simp [pc54_l1, f0, f1, f5, hlt, hltb, W.av, W.cs, hφ, hψ, aeqW, hw, hw2]
          refine ⟨⟨i + 1, hlt, by simp [f0, W.av, W.cs], by simp [f1, W.av, W.cs], by simp, by rw [ea, eb, ht, hw], rfl⟩, ?_⟩
          rw [hmu]
          have : ((i : Int) + 1).toNat = i + 1 := by omega
          simp [SM, this]; omega
        · have hne : ¬ a = b := fun e => hw (by subst e; rfl)
          simp [hne] at h
          simp [pc54_l1, f0, f1, f5, hlt, hltb, W.av, W.cs, hφ, hψ, aeqW, hw, hw2, h]
      · have he : i = a.length := by omega
        subst he
        have e : a = b := by rw [List.take_length, hab, List.take_length] at ht; exact ht
        have hla : a.length = b.length := hab
        simp [e] at h
        rcases ha with ⟨rfl, rfl⟩ | ⟨φ, rfl, hφ⟩
        · simp [pc54_l1, pc54_r1, f0, f1, f5, h]
        · simp [pc54_l1, pc54_r1, f0, f1, f5, h]
    rcases ha with ⟨rfl, rfl⟩ | ⟨φ, rfl, hφ⟩ <;> rcases hb with ⟨rfl, rfl⟩ | ⟨ψ, rfl, hψ⟩
    · simp [pc54]
      refine loop _ ?_ ?_ ?_ <;> simp
    · simp at hab
      simp [pc54, ← hab]
      refine loop _ ?_ ?_ ?_ <;> simp
    · simp at hab
      subst hab
      simp [pc54]
      refine loop _ ?_ ?_ ?_ <;> simp
    · simp [pc54, hab]
      refine loop _ ?_ ?_ ?_ <;> simp
  · have hne : ¬ a = b := fun e => hab (by rw [e])
    have hi : ¬ (a.length : Int) = b.length := by omega
    simp [hne] at h
    rcases ha with ⟨rfl, rfl⟩ | ⟨φ, rfl, hφ⟩ <;> rcases hb with ⟨rfl, rfl⟩ | ⟨ψ, rfl, hψ⟩
    · simp at hab
    · simp at hab
      have hi' : ¬ (0 : Int) = b.length := by simpa using hi
      simp [pc54, hi', h]
    · simp at hab
      have hi' : ¬ (a.length : Int) = 0 := by simpa using hi
      simp [pc54, hab, h]
    · simp [pc54, hi, h]
end Go.Proofs.YthifgodgfhbnfaaDoor
set_option linter.unusedSimpArgs false
set_option linter.unusedVariables false
namespace Go.Proofs.YthifgodgfhbnfaaDoor
open Go Go.Abs
/-- a module of one function, as a value -/
theorem MV.single {v f x y} (h : MV v ⟨[f], x, y⟩) : ∃ b pv lv tv, v = .agg [.sl (.stat b) 5 [.agg [.str f.name, pv, lv, .int .i64 f.type, tv]], .int .i64 x, .int .i64 y] ∧ ListsV tv f.lists := by
  obtain ⟨fv, rfl, h⟩ := h
  rcases h with ⟨h, _⟩ | ⟨b, rows, rfl, hr⟩
  · simp at h
  · cases hr with
    | cons h r =>
      cases r
      obtain ⟨pv, lv, tv, rfl, _, _, h⟩ := h
      exact ⟨b, pv, lv, tv, rfl, h⟩
theorem ofLists_ok {k : Nat} {n : Int} {frm to : To} (hp : plist frm k ((frm.length : Int) - 1) [] = some (n, to)) (h1 : ∀ ws ∈ frm, ws.length ≤ 2 ^ 30) (h2 : frm.length ≤ 2 ^ 30) (h3 : to.length ≤ 2 ^ 30) :
    (∀ f ∈ [mainF frm], FOk k f) ∧ peepFs k [mainF frm] = some [mainF to] := by
  constructor
  · intro f hf
    simp at hf
    subst hf
    exact ⟨by simp [mainF], by simp [mainF], h1, h2, n, to, hp, h3⟩
  · have : peepF k (mainF frm) = some (mainF to) := by
      unfold peepF
      show (match plist frm k ((frm.length : Int) - 1) [] with | none => none | some (_, to) => some { mainF frm with lists := to }) = _
      rw [hp]; rfl
    simp [peepFs, this]

theorem is_calls {G : Env} {k : Nat} {va vb : AV} {a b : List W} {n : Int} {to : To} {σ : AS} {R : Out → AS → Prop} (ha : RepL va a) (hb : RepL vb b) (h1 : a.length ≤ 2 ^ 30) (hp : plist [a] k 0 [] = some (n, to)) (h3 : to.length ≤ 2 ^ 30) (h4 : ∀ t ∈ to, t.length ≤ 2 ^ 30)
    (h : ∀ σ', Adds σ σ' → R (.ret (.bool (decide (to = [b])))) σ') : ACalls Tryd.prog G 31 [va, vb] σ R := by
  refine calls31 rfl ?_
  have hok := ofLists_ok (frm := [a]) hp (by simpa using h1) (by simp) h3
  have hva : va.known = true ∧ va.one = true ∧ va.cells = [va] := by
    rcases ha with ⟨_, rfl⟩ | ⟨b, rfl⟩ <;> simp
  simp [pc31, splice, hva]
  refine of_calls (to := [a]) ⟨true, [va], rfl, .cons ha .nil⟩ fun mv σ1 hmv A1 => ?_
  simp
  refine peep_calls hmv (by simp) hok.1 hok.2 fun mv' σ2 hmv' A2 => ?_
  obtain ⟨bb, pv, lv, tv, rfl, htv⟩ := hmv'.single
  have A : ∀ c1 c2, Adds σ ((σ2.newO c1).setO σ2.no c2) := fun _ _ => ((A1.trans A2).newO).setO (A1.trans A2).no
  simp only [mainF] at htv
  rcases htv with ⟨rfl, rfl⟩ | ⟨b2, rows, rfl, hrows⟩
  · simp at h
    simp [splice, mainF]
    exact h _ (A _ _)
  · have hl := hrows.length
    by_cases h1 : to.length = 1
    · match to, rows, hl, h1, hrows with
      | [t], [r], _, _, .cons hr .nil =>
        have e : decide ([t] = [b]) = decide (t = b) := by simp
        rw [e] at h
        have hr1 : r.known = true ∧ r.one = true ∧ r.cells = [r] := by
          rcases hr with ⟨_, rfl⟩ | ⟨b, rfl⟩ <;> simp
        simp [splice, mainF, hr1]
        refine same_calls hr.slw hb.slw (h4 t (by simp)) ?_
        simp
        exact h _ (A _ _)
    · have hne : ¬ to = [b] := fun e => h1 (by rw [e]; rfl)
      simp [hne] at h
      have hi : ¬ (to.length : Int) = 1 := by omega
      simp [splice, mainF, hl, hi]
      exact h _ (A _ _)

theorem known_calls {G : Env} {σ : AS} {R : Out → AS → Prop} (h : ∀ σ', Adds σ σ' → R (.ret (.bool true)) σ') : ACalls Tryd.prog G 11 [] σ R := by
  refine calls11 rfl ?_
  have hp : plist [[wO 2 0, wO 18 0, wN 1, wO 5 1, wO 3 0, wN 5]] 9 0 [] = some (0, [[wN 0, wO 3 0, wN 5]]) := by decide
  simp [pc11]
  refine getW_calls fun σ1 A1 => ?_
  simp
  refine dropW_calls fun σ2 A2 => ?_
  simp
  refine numW_calls fun σ3 A3 => ?_
  simp
  refine eqzW_calls fun σ4 A4 => ?_
  simp [splice]
  refine numW_calls fun σ5 A5 => ?_
  simp [W.av, W.cs, wN, wO]
  refine numW_calls fun σ6 A6 => ?_
  simp [W.av, W.cs, wN, wO, splice]
  refine numW_calls fun σ7 A7 => ?_
  simp [W.av, W.cs, wN, wO]
  refine is_calls (a := [wO 2 0, wO 18 0, wN 1, wO 5 1, wO 3 0, wN 5]) (b := [wN 0, wO 3 0, wN 5]) (.inr ⟨true, rfl⟩) (.inr ⟨true, rfl⟩) (by decide) hp (by decide) (by decide) fun σ8 A8 => ?_
  simp
  exact h _ (((((((A1.trans A2).trans A3).trans A4).trans A5).trans A6).trans A7).trans A8)
end Go.Proofs.YthifgodgfhbnfaaDoor
