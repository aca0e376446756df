/- Part of the proofs of layer 22's statements: P6 (what peep's functions do, in lists of instructions, under the conditions that each theorem names). -/
import Derived.Test.YthifgodgfhbnfaaP5
set_option linter.unusedSimpArgs false
set_option linter.unusedVariables false
namespace Go.Proofs.Ythifgodgfhbnfaa
open Go Go.Abs
/-- a call that only adds -/
structure Adds (σ σ' : AS) : Prop where
  no : σ.no ≤ σ'.no
  nf : σ.nf ≤ σ'.nf
  obj : ∀ o, o < σ.no → σ'.objs o = σ.objs o
  fam : ∀ f, f < σ.nf → σ'.F f = σ.F f
theorem Adds.refl (σ) : Adds σ σ := ⟨Nat.le_refl _, Nat.le_refl _, fun _ _ => rfl, fun _ _ => rfl⟩
theorem Adds.trans {σ σ1 σ2} (h : Adds σ σ1) (h' : Adds σ1 σ2) : Adds σ σ2 where
  no := Nat.le_trans h.no h'.no
  nf := Nat.le_trans h.nf h'.nf
  obj o a := by rw [h'.obj o (Nat.lt_of_lt_of_le a h.no), h.obj o a]
  fam f a := by rw [h'.fam f (Nat.lt_of_lt_of_le a h.nf), h.fam f a]
theorem Adds.newO {σ σ' cs} (h : Adds σ σ') : Adds σ (σ'.newO cs) where
  no := Nat.le_trans h.no (by simp)
  nf := h.nf
  obj o a := by have := h.no; simp; rw [if_neg (by omega)]; exact h.obj o a
  fam := h.fam
theorem Adds.setO {σ σ' o cs} (h : Adds σ σ') (ho : σ.no ≤ o) : Adds σ (σ'.setO o cs) where
  no := h.no
  nf := h.nf
  obj p a := by simp; rw [if_neg (by omega)]; exact h.obj p a
  fam := h.fam
theorem Adds.newF {σ σ'} (h : Adds σ σ') : Adds σ σ'.newF where
  no := h.no
  nf := Nat.le_trans h.nf (by simp)
  obj := h.obj
  fam f a := by have := h.nf; simp; rw [if_neg (by omega)]; exact h.fam f a
theorem Adds.setF {σ σ' f s} (h : Adds σ σ') (hf : σ.nf ≤ f) : Adds σ (σ'.setF f s) where
  no := h.no
  nf := h.nf
  obj := h.obj
  fam g a := by simp; rw [if_neg (by omega)]; exact h.fam g a
theorem Adds.frz {σ σ' f p} (h : Adds σ σ') (hf : σ.nf ≤ f) (hp : ∀ o, o < σ.no → p o = false) : Adds σ (σ'.frz f p) where
  no := h.no
  nf := h.nf
  obj o a := by simp [AS.frz, hp o a]; exact h.obj o a
  fam g a := by simp [AS.frz, frzF]; rw [if_neg (by omega)]; exact h.fam g a

def IntsV (v : AV) (l : List Int) : Prop := (l = [] ∧ v = .nilsl) ∨ ∃ b, v = .sl (.stat b) 1 (l.map (.int .i64))
theorem IntsV.frz {v l} (h : IntsV v l) (f : Nat) : frz f v = v := by
  rcases h with ⟨_, rfl⟩ | ⟨b, rfl⟩ <;> simp [Function.comp_def]
theorem IntsV.one {v l} (h : IntsV v l) : v.known = true ∧ v.one = true ∧ v.cells = [v] := by
  rcases h with ⟨_, rfl⟩ | ⟨b, rfl⟩ <;> simp

def FrzOr (R : Out → AS → Prop) (o : Out) (σ' : AS) : Prop := R o σ' ∨ ∃ v g p, o = .ret v ∧ σ'.F g = .alive ∧ R (.ret (frz g v)) (σ'.frz g p)
theorem freezing {P : Program} {G : Nat → AV} {f : FuncId} {args : List AV} {σ : AS} {R : Out → AS → Prop} (h : ACalls P G f args σ (FrzOr R)) : ACalls P G f args σ R := freezeOr h
theorem FrzOr.froze {R : Out → AS → Prop} {v : AV} {σ' : AS} (g : Nat) (p : Nat → Bool) (h : σ'.F g = .alive) (h2 : R (.ret (frz g v)) (σ'.frz g p)) : FrzOr R (.ret v) σ' := .inr ⟨v, g, p, rfl, h, h2⟩
theorem clone_calls {G : Nat → AV} {σ : AS} {v : AV} {l : List Int} {R : Out → AS → Prop} (hv : IntsV v l) (hl : l.length ≤ 2 ^ 30) (h : ∀ v' σ', IntsV v' l → Adds σ σ' → R (.ret v') σ') : ACalls Try.prog G 15 [v] σ R := by
  refine freezing (calls15 rfl ?_)
  rcases hv with ⟨rfl, rfl⟩ | ⟨b, rfl⟩
  · have := h .nilsl σ (.inl ⟨rfl, rfl⟩) (.refl _)
    simp [pc15, aeq]
    exact .inl this
  · cases l with
    | nil =>
      have := h (.sl (.stat true) 1 []) σ (.inr ⟨_, rfl⟩) (.refl _)
      simp [pc15, aeq]
      exact .inl this
    | cons n l =>
      have := h (.sl (.stat false) 1 ((n :: l).map (.int .i64))) (σ.newF.frz σ.nf fun _ => false) (.inr ⟨_, rfl⟩) ((Adds.refl σ).newF.frz (Nat.le_refl _) fun _ _ => rfl)
      simp at hl
      simp [pc15, aeq]
      refine ⟨by omega, .froze σ.nf (fun _ => false) (by simp) ?_⟩
      simpa [Function.comp_def] using this

def ListsV (v : AV) (to : To) : Prop := (to = [] ∧ v = .nilsl) ∨ FromV v to
theorem ListsV.one {v l} (h : ListsV v l) : v.known = true ∧ v.one = true ∧ v.cells = [v] := by
  rcases h with ⟨_, rfl⟩ | ⟨b, _, rfl, _⟩ <;> simp
theorem ListsV.frz {v l} (h : ListsV v l) (f : Nat) : frz f v = v := by
  rcases h with ⟨_, rfl⟩ | h
  · simp
  · exact h.frz f
/-- the first call -/
theorem list_top {G : Nat → AV} {x : Nat} {fv : AV} {frm : To} (hf : FromV fv frm) (hl : ∀ ws ∈ frm, ws.length ≤ 2 ^ 30) {k : Nat} {σ : AS} {at_ n : Int} {to : To} {R : Out → AS → Prop} (hx : x < σ.no) (ho : σ.objs x = some [fv, .nilsl])
    (hp : plist frm k at_ [] = some (n, to)) (hb : to.length ≤ 2 ^ 30)
    (h : ∀ σ' tv, σ.no ≤ σ'.no → σ.nf ≤ σ'.nf → (∀ o, o < σ.no → o ≠ x → σ'.objs o = σ.objs o) → (∀ f, f < σ.nf → σ'.F f = σ.F f) → σ'.objs x = some [fv, tv] → ListsV tv to → R (.ret (.int .i64 n)) σ') : ACalls Try.prog G 14 [.ptr x 0, .int .i64 at_] σ R := by
  have hu : ∀ f, ¬ Uses σ x f := fun f ⟨fv', tv', h1, h2⟩ => by rw [ho] at h1; simp at h1; obtain ⟨rfl, rfl⟩ := h1; simp [famOf] at h2
  refine freezeOr (plist_ok hf hl k σ at_ [] n to _ ⟨hx, _, ho, .inl ⟨rfl, rfl⟩⟩ hp hb fun σ' K ⟨m1, tv, m2, m3⟩ => ?_)
  rcases m3 with ⟨e, rfl⟩ | ⟨g, tos, rfl, g1, g2, g3⟩
  · exact .inl (h σ' _ K.no K.nf K.obj (fun f hf => K.fam f hf (hu f)) m2 (.inl ⟨e, rfl⟩))
  · have hg : σ.nf ≤ g := by
      by_cases hlt : g < σ.nf
      · exact absurd (K.use g hlt ⟨_, _, m2, rfl⟩) (hu g)
      · omega
    refine .inr ⟨_, g, fun o => o == x, rfl, g2, ?_⟩
    rw [frz_int]
    refine h _ (.sl (.stat false) 1 tos) K.no K.nf (fun o h1 h2 => ?_) (fun f hf => ?_) ?_ (.inr ⟨_, _, rfl, g3⟩)
    · simp [AS.frz, h2]; exact K.obj o h1 h2
    · simp [AS.frz, frzF]; rw [if_neg (by omega)]; exact K.fam f hf (hu f)
    · simp [AS.frz, m2, hf.frz, frz_rows g3]

structure F where
  name : List UInt8
  params : List Int
  locals : List Int
  type : Int
  lists : To
def FV (v : AV) (f : F) : Prop := ∃ pv lv tv, v = .agg [.str f.name, pv, lv, .int .i64 f.type, tv] ∧ IntsV pv f.params ∧ IntsV lv f.locals ∧ ListsV tv f.lists
def FsV (v : AV) (fs : List F) : Prop := (fs = [] ∧ v = .nilsl) ∨ ∃ b rows, v = .sl (.stat b) 5 rows ∧ All2 FV rows fs
structure M where
  funcs : List F
  memory : Int
  main : Int
def MV (v : AV) (m : M) : Prop := ∃ fv, v = .agg [fv, .int .i64 m.memory, .int .i64 m.main] ∧ FsV fv m.funcs
def peepF (k : Nat) (f : F) : Option F := match plist f.lists k ((f.lists.length : Int) - 1) [] with
  | none => none
  | some (_, to) => some { f with lists := to }
def peepFs (k : Nat) : List F → Option (List F)
  | [] => some []
  | f :: fs => match peepF k f with
    | none => none
    | some f' => match peepFs k fs with
      | none => none
      | some fs' => some (f' :: fs')
/-- what is small enough -/
def FOk (k : Nat) (f : F) : Prop := f.params.length ≤ 2 ^ 30 ∧ f.locals.length ≤ 2 ^ 30 ∧ (∀ ws ∈ f.lists, ws.length ≤ 2 ^ 30) ∧ f.lists.length ≤ 2 ^ 30 ∧ ∃ n to, plist f.lists k ((f.lists.length : Int) - 1) [] = some (n, to) ∧ to.length ≤ 2 ^ 30
theorem FV.frz {v f} (h : FV v f) (g : Nat) : frz g v = v := by
  obtain ⟨pv, lv, tv, rfl, h1, h2, h3⟩ := h
  simp [h1.frz, h2.frz, h3.frz]
theorem frz_FVs {vs fs} (h : All2 FV vs fs) (g : Nat) : vs.map (frz g) = vs := by
  induction h with
  | nil => rfl
  | cons h r ih => simp [h.frz, ih]
end Go.Proofs.Ythifgodgfhbnfaa
