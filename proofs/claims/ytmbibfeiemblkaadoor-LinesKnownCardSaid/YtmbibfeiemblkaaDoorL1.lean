/- Part of the proofs of layer 26's statements: L1 (what the functions of lines and of its reference do, under the conditions that each theorem names). -/
import Derived.Test.YtmbibfeiemblkaaDoorGen
set_option linter.unusedSimpArgs false
set_option linter.unusedVariables false
namespace Go.Proofs.YtmbibfeiemblkaaDoor
open Go Go.Abs
/-- a call that only adds -/
structure Adds (σ σ' : AS) : Prop where
  no : σ.no ≤ σ'.no
  nf : σ.nf ≤ σ'.nf
  obj : ∀ o, o < σ.no → σ'.objs o = σ.objs o
  fam : ∀ f, f < σ.nf → σ'.F f = σ.F f
theorem Adds.refl (σ) : Adds σ σ := ⟨Nat.le_refl _, Nat.le_refl _, fun _ _ => rfl, fun _ _ => rfl⟩
theorem Adds.trans {σ σ1 σ2} (h : Adds σ σ1) (h' : Adds σ1 σ2) : Adds σ σ2 where
  no := Nat.le_trans h.no h'.no
  nf := Nat.le_trans h.nf h'.nf
  obj o a := by rw [h'.obj o (Nat.lt_of_lt_of_le a h.no), h.obj o a]
  fam f a := by rw [h'.fam f (Nat.lt_of_lt_of_le a h.nf), h.fam f a]
theorem Adds.newO {σ σ' cs} (h : Adds σ σ') : Adds σ (σ'.newO cs) where
  no := Nat.le_trans h.no (by simp)
  nf := h.nf
  obj o a := by have := h.no; simp; rw [if_neg (by omega)]; exact h.obj o a
  fam := h.fam
theorem Adds.setO {σ σ' o cs} (h : Adds σ σ') (ho : σ.no ≤ o) : Adds σ (σ'.setO o cs) where
  no := h.no
  nf := h.nf
  obj p a := by simp; rw [if_neg (by omega)]; exact h.obj p a
  fam := h.fam
theorem Adds.newF {σ σ'} (h : Adds σ σ') : Adds σ σ'.newF where
  no := h.no
  nf := Nat.le_trans h.nf (by simp)
  obj := h.obj
  fam f a := by have := h.nf; simp; rw [if_neg (by omega)]; exact h.fam f a
theorem Adds.setF {σ σ' f s} (h : Adds σ σ') (hf : σ.nf ≤ f) : Adds σ (σ'.setF f s) where
  no := h.no
  nf := h.nf
  obj := h.obj
  fam g a := by simp; rw [if_neg (by omega)]; exact h.fam g a
theorem Adds.frz {σ σ' f p} (h : Adds σ σ') (hf : σ.nf ≤ f) (hp : ∀ o, o < σ.no → p o = false) : Adds σ (σ'.frz f p) where
  no := h.no
  nf := h.nf
  obj o a := by simp [AS.frz, hp o a]; exact h.obj o a
  fam g a := by simp [AS.frz, frzF]; rw [if_neg (by omega)]; exact h.fam g a
theorem Adds.keep {σ σ' : AS} {o : Nat} {cs : List AV} (A : Adds σ σ') (h : σ.objs o = some cs ∧ o < σ.no) : σ'.objs o = some cs ∧ o < σ'.no :=
  ⟨(A.obj o h.2).trans h.1, Nat.lt_of_lt_of_le h.2 A.no⟩

theorem freezeOr {P : Program} {G : Env} {f : FuncId} {args : List AV} {σ : AS} {R : Out → AS → Prop}
    (h : ACalls P G f args σ fun o σ' => R o σ' ∨ ∃ v g p, o = .ret v ∧ σ'.F g = .alive ∧ R (.ret (frz g v)) (σ'.frz g p)) : ACalls P G f args σ R := by
  intro M w cargs S g c
  refine (h M w cargs S g c).mono fun e w' ⟨o, σ', M', hR, h2, h3, h4⟩ => ?_
  rcases hR with hR | ⟨v, k, p, ho, ha, hR⟩
  · exact ⟨o, σ', M', hR, h2, h3, h4⟩
  subst ho
  refine ⟨_, _, M'.frz k, hR, ?_, h3.frz ha, h4.trans (ext_frz ha)⟩
  cases e <;> simp only [OutRel] at h2 ⊢
  exact h2.frz ha
def FrzOr (R : Out → AS → Prop) (o : Out) (σ' : AS) : Prop := R o σ' ∨ ∃ v g p, o = .ret v ∧ σ'.F g = .alive ∧ R (.ret (frz g v)) (σ'.frz g p)
theorem freezing {P : Program} {G : Env} {f : FuncId} {args : List AV} {σ : AS} {R : Out → AS → Prop} (h : ACalls P G f args σ (FrzOr R)) : ACalls P G f args σ R := freezeOr h
theorem FrzOr.froze {R : Out → AS → Prop} {v : AV} {σ' : AS} (g : Nat) (p : Nat → Bool) (h : σ'.F g = .alive) (h2 : R (.ret (frz g v)) (σ'.frz g p)) : FrzOr R (.ret v) σ' := .inr ⟨v, g, p, rfl, h, h2⟩

/-! ### where lines begin -/
def beginsFrom : Nat → List UInt8 → List Nat
  | _, [] => []
  | i, c :: t => if c = 10 then (i + 1) :: beginsFrom (i + 1) t else beginsFrom (i + 1) t
def begins (t : List UInt8) : List Nat := 0 :: beginsFrom 0 t
theorem beginsFrom_snoc (k : Nat) (l : List UInt8) (c : UInt8) : beginsFrom k (l ++ [c]) = beginsFrom k l ++ if c = 10 then [k + l.length + 1] else [] := by
  induction l generalizing k with
  | nil => simp [beginsFrom]
  | cons x l ih =>
    simp only [List.cons_append, beginsFrom, ih, List.length_cons]
    split <;> split <;> simp_all <;> omega
def ints (l : List Nat) : List AV := l.map fun (n : Nat) => AV.int .i64 (n : Int)
theorem byte_eq (c d : UInt8) : ((c.toNat : Int) = (d.toNat : Int)) ↔ c = d := by rw [Int.ofNat_inj, UInt8.toNat_inj]
/-- a text's table lies at x -/
def TableAt (σ : AS) (x : Nat) (t : List UInt8) : Prop := x < σ.no ∧ ∃ b, σ.objs x = some [.sl (.stat b) 1 (ints (begins t)), .int .i64 (t.length : Int)]
theorem TableAt.mono {σ σ' x t} (h : TableAt σ x t) (A : Adds σ σ') : TableAt σ' x t := let ⟨h1, b, h2⟩ := h; ⟨Nat.lt_of_lt_of_le h1 A.no, b, (A.obj x h1).trans h2⟩

def TI (σ : AS) (x : Nat) (t : List UInt8) (a : Nat → AV) (τ : AS) : Prop := ∃ i : Nat, i ≤ t.length ∧ a 0 = .str t ∧ a 3 = .ptr x 0 ∧ a 11 = .int .i64 (t.length : Int) ∧ a 12 = .int .i64 (i : Int) ∧ x < τ.no ∧ Adds σ τ ∧
  ((∃ b, τ.objs x = some [.sl (.stat b) 1 (ints (0 :: beginsFrom 0 (t.take i))), .int .i64 (t.length : Int)] ∧ b = true) ∨ ∃ f, σ.nf ≤ f ∧ f < τ.nf ∧ τ.F f = .alive ∧ τ.objs x = some [.sl (.fam f false) 1 (ints (0 :: beginsFrom 0 (t.take i))), .int .i64 (t.length : Int)])
def TM (t : List UInt8) (a : Nat → AV) (_ : AS) : Nat := match a 12 with
  | .int _ n => t.length - n.toNat
  | _ => 0
theorem beginsFrom_length (k : Nat) (t : List UInt8) : (beginsFrom k t).length ≤ t.length := by
  induction t generalizing k with
  | nil => simp [beginsFrom]
  | cons c t ih => simp only [beginsFrom]; split <;> simp <;> have := ih (k + 1) <;> omega

theorem table_calls {G : Env} {t : List UInt8} {σ : AS} {R : Out → AS → Prop} (ht : t.length ≤ 2 ^ 30) (h : ∀ x σ', σ.no ≤ x → TableAt σ' x t → Adds σ σ' → R (.ret (.ptr x 0)) σ') : ACalls Tryd.prog G 10 [.str t] σ R := by
  refine freezing (calls10 rfl ?_)
  have fin : ∀ a τ, TI σ σ.no t a τ → a 12 = .int .i64 (t.length : Int) → avc Tryd.prog G 32 pc10_r1 (afin Tryd.prog [.tmp 2] (FrzOr R)) a τ := by
    intro a τ ⟨i, hi, a0, a3, a11, a12, hx, A, hob⟩ h12
    rw [h12] at a12
    have hit : i = t.length := by simp at a12; omega
    subst hit
    rw [List.take_length] at hob
    simp [pc10_r1, a3]
    rcases hob with ⟨b, ho, rfl⟩ | ⟨f, f1, f2, f3, ho⟩
    · exact .inl (h _ _ (Nat.le_refl _) ⟨hx, _, ho⟩ A)
    · refine .froze f (fun o => o == σ.no) f3 ?_
      rw [frz_ptr]
      refine h _ _ (Nat.le_refl _) ⟨hx, false, ?_⟩ (A.frz f1 fun o ho => by simp; omega)
      simp [AS.frz, ho, ints, Function.comp_def, begins]
  have start : ∀ a τ, TI σ σ.no t a τ → ALoop Tryd.prog G 32 pc10_l1 (ablock 0 (athen (avc Tryd.prog G 32 pc10_r1 (afin Tryd.prog [.tmp 2] (FrzOr R))) (afin Tryd.prog [.tmp 2] (FrzOr R)))) a τ := by
    intro a τ hI
    refine aloop (TI σ σ.no t) (TM t) hI fun a τ hI => ?_
    have hI' := hI
    obtain ⟨i, hi, a0, a3, a11, a12, hx, A, hob⟩ := hI
    have hmu : TM t a τ = t.length - i := by simp [TM, a12]
    by_cases hlt : i < t.length
    · have hw2 : IntKind.wrap .i64 ((i : Int) + 1) = (i : Int) + 1 := by rw [wrap_i64] <;> omega
      have etake : t.take (i + 1) = t.take i ++ [t[i]] := by simp
      have next : ∀ (a' : Nat → AV) (τ' : AS), a' 0 = .str t → a' 3 = .ptr σ.no 0 → a' 11 = .int .i64 (t.length : Int) → a' 12 = .int .i64 ((i : Int) + 1) → σ.no < τ'.no → Adds σ τ' →
          ((∃ b, τ'.objs σ.no = some [.sl (.stat b) 1 (ints (0 :: beginsFrom 0 (t.take (i + 1)))), .int .i64 (t.length : Int)] ∧ b = true) ∨ ∃ f, σ.nf ≤ f ∧ f < τ'.nf ∧ τ'.F f = .alive ∧ τ'.objs σ.no = some [.sl (.fam f false) 1 (ints (0 :: beginsFrom 0 (t.take (i + 1)))), .int .i64 (t.length : Int)]) →
          TI σ σ.no t a' τ' ∧ TM t a' τ' < TM t a τ := by
        intro a' τ' b0 b3 b11 b12 c1 c2 c3
        refine ⟨⟨i + 1, hlt, b0, b3, b11, by rw [b12]; simp, c1, c2, c3⟩, ?_⟩
        rw [hmu]
        simp only [TM, b12]
        have : ((i : Int) + 1).toNat = i + 1 := by omega
        rw [this]; omega
      by_cases hc : t[i] = 10
      · have hc' : (t[i].toNat : Int) = 10 := by rw [hc]; rfl
        have hb : beginsFrom 0 (t.take (i + 1)) = beginsFrom 0 (t.take i) ++ [i + 1] := by
          rw [etake, beginsFrom_snoc, if_pos hc]; simp; omega
        have hl := beginsFrom_length 0 (t.take i)
        simp at hl
        rcases hob with ⟨b, ho, rfl⟩ | ⟨f, f1, f2, f3, ho⟩
        · simp [pc10_l1, a0, a3, a11, a12, hlt, hc', ho, hw2, splice, ints]
          refine ⟨by omega, next _ _ (by simp [a0]) (by simp [a3]) (by simp [a11]) (by simp) (by simpa using hx) (A.newF.setO (Nat.le_refl _)) (.inr ⟨τ.nf, A.nf, by simp, by simp, ?_⟩)⟩
          simp [ints, hb]
        · simp [pc10_l1, a0, a3, a11, a12, hlt, hc', ho, hw2, splice, ints, f3]
          refine ⟨by omega, next _ _ (by simp [a0]) (by simp [a3]) (by simp [a11]) (by simp) (by simpa using hx) ((A.setF f1).newF.setO (Nat.le_refl _)) (.inr ⟨τ.nf, A.nf, by simp, by simp, ?_⟩)⟩
          simp [ints, hb]
      · have hc' : ¬ (t[i].toNat : Int) = 10 := fun e => hc ((byte_eq _ 10).1 e)
        have hb : beginsFrom 0 (t.take (i + 1)) = beginsFrom 0 (t.take i) := by
          rw [etake, beginsFrom_snoc, if_neg hc]; simp
        simp [pc10_l1, a0, a3, a11, a12, hlt, hc', hw2]
        exact next _ _ (by simp [a0]) (by simp [a3]) (by simp [a11]) (by simp) hx A (by rw [hb]; exact hob)
    · have he : i = t.length := by omega
      subst he
      simp [pc10_l1, a11, a12]
      exact fin _ _ hI' (by simp [a12])
  have A0 : ∀ cs, Adds σ (σ.newO cs) := fun _ => (Adds.refl σ).newO
  simp [pc10, splice]
  refine start _ _ ⟨0, by omega, by simp, by simp, by simp, by simp, by simp, A0 _, .inl ⟨true, ?_, rfl⟩⟩
  simp [ints, beginsFrom]
end Go.Proofs.YtmbibfeiemblkaaDoor
