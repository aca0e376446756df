/- What the small functions of Check come to, under the conditions that each theorem names. -/
import Derived.Test.YthifgodgfhbnfaaDoorQ
import Derived.Test.YthifgodgfhbnfaaDoorShelf
set_option linter.unusedSimpArgs false
set_option linter.unusedVariables false
namespace Go.Proofs.YthifgodgfhbnfaaDoor
open Go Go.Abs
def signCells : List AV := (signs.map fun p => [AV.str p.1, AV.str p.2]).flatten
/-- what the package's variables hold -/
structure Vars (G : Env) : Prop where
  signs : G.g 0 = .pv (.stat true) (.agg signCells)
  max : ∃ m, G.g 1 = .pv (.stat true) (.int .i64 m)
theorem number_calls {G : Env} {σ : AS} {R : Out → AS → Prop} {t : Int} (h : R (.ret (.bool (numberB t))) σ) : ACalls Tryd.prog G 50 [.int .i64 t] σ R := by
  refine calls50 rfl ?_
  unfold numberB at h
  by_cases h1 : t = 1
  · simp [h1] at h
    simp [pc50, h1]; exact h
  · by_cases h2 : t = 2
    · simp [h2] at h
      simp [pc50, h2]; exact h
    · simp [h1, h2] at h
      simp [pc50, h1, h2]; exact h
/-- what a check that fails ends with -/
def stopV (e : Int) : AV := .iface 61 (.agg [.int .i64 e])
theorem must_calls {G : Env} {σ : AS} {R : Out → AS → Prop} {b : Bool} {e : Int} (h1 : b = true → R (.ret (.tuple [])) σ) (h2 : b = false → R (.panic (stopV e)) σ) : ACalls Tryd.prog G 29 [.bool b, .int .i64 e] σ R := by
  refine calls29 rfl ?_
  cases b with
  | true => simp [pc29, splice]; exact h1 rfl
  | false => simp [pc29, splice]; exact h2 rfl
theorem bytes_calls {G : Env} {σ : AS} {R : Out → AS → Prop} {t n : Int} (h : R (.ret (.bool (bytesB t n))) σ) : ACalls Tryd.prog G 99 [.int .i64 t, .int .i64 n] σ R := by
  refine calls99 rfl ?_
  unfold bytesB at h
  by_cases h1 : t = 1
  · by_cases h2 : n = 1
    · simp [h1, h2] at h; simp [pc99, h1, h2]; exact h
    · by_cases h4 : n = 4
      · simp [h1, h4] at h; simp [pc99, h1, h4]; exact h
      · simp [h1, h2, h4] at h; simp [pc99, h1, h2, h4]; exact h
  · by_cases h2 : t = 2
    · by_cases h8 : n = 8
      · simp [h2, h8] at h; simp [pc99, h2, h8]; exact h
      · simp [h2, h8] at h; simp [pc99, h2, h8]; exact h
    · simp [h1, h2] at h; simp [pc99, h1, h2]; exact h
theorem wrap_self (k : IntKind) (n : Int) (h : k = .i8 ∨ k = .i32) : IntKind.wrap .i64 (k.wrap n) = k.wrap n := by
  have hb : -2147483648 ≤ k.wrap n ∧ k.wrap n ≤ 2147483647 := by
    rcases h with rfl | rfl <;> simp only [IntKind.wrap, IntKind.signed, IntKind.bits] <;> simp <;> omega
  rw [wrap_i64] <;> omega
theorem wrap_calls {G : Env} {σ : AS} {R : Out → AS → Prop} {t v : Int} (h : R (.ret (.int .i64 (wrapT t v))) σ) : ACalls Tryd.prog G 95 [.int .i64 t, .int .i64 v] σ R := by
  refine calls95 rfl ?_
  unfold wrapT at h
  by_cases h3 : t = 3
  · simp [h3] at h; simp [pc95, h3, wrap_self]; exact h
  · by_cases h1 : t = 1
    · simp [h1] at h; simp [pc95, h1, wrap_self]; exact h
    · by_cases h2 : t = 2
      · simp [h2] at h; simp [pc95, h2]; exact h
      · simp [h1, h2, h3] at h; simp [pc95, h1, h2, h3]; exact h
def GI (s : List UInt8) (σ : AS) (a : Nat → AV) (τ : AS) : Prop := ∃ i : Nat, i ≤ 16 ∧ a 0 = .str s ∧ a 5 = .agg signCells ∧ a 6 = .int .i64 (i : Int) ∧ signOf (signs.drop i) s = signOf signs s ∧ Adds σ τ
/-- how far a counter is from its end -/
def MU (r n : Nat) (a : Nat → AV) (_ : AS) : Nat := match a r with | .int _ i => n - i.toNat | _ => 0
theorem pairs_at : ∀ (l : List (List UInt8 × List UInt8)) (i : Nat) (p : List UInt8 × List UInt8), l[i]? = some p → (((l.map fun p => [AV.str p.1, AV.str p.2]).flatten).drop (i * 2)).take 2 = [.str p.1, .str p.2]
  | [], i, p, h => by simp at h
  | q :: l, 0, p, h => by simp at h; subst h; rfl
  | q :: l, i + 1, p, h => by
    have := pairs_at l i p (by simpa using h)
    rw [show (i + 1) * 2 = i * 2 + 1 + 1 from by omega]
    simpa using this
theorem signs_at (i : Nat) (h : i < 16) : ∃ p, signs[i]? = some p ∧ (signCells.drop (i * 2)).take 2 = [.str p.1, .str p.2] :=
  ⟨_, List.getElem?_eq_getElem h, pairs_at signs i _ (List.getElem?_eq_getElem h)⟩
theorem sign_calls {G : Env} (V : Vars G) {σ : AS} {R : Out → AS → Prop} {s : List UInt8} (h : ∀ σ', Adds σ σ' → R (.ret (.str (signOf signs s))) σ') : ACalls Tryd.prog G 94 [.str s] σ R := by
  refine calls94 rfl ?_
  have hg := V.signs
  have hl : signCells.length = 32 := rfl
  simp [pc94, hg, hl]
  refine aloop (GI s σ) (MU 6 17) ⟨0, by omega, by simp, by simp, by simp, rfl, .refl _⟩ fun a τ hI => ?_
  obtain ⟨i, hi, a0, a5, a6, hs, A⟩ := hI
  by_cases hlt : i < 16
  · obtain ⟨p, hp, hc⟩ := signs_at i hlt
    have hd : signs.drop i = p :: signs.drop (i + 1) := by
      obtain ⟨hi', e⟩ := List.getElem?_eq_some_iff.1 hp
      rw [List.drop_eq_getElem_cons hi', e]
    have hlt' : (i : Int) < 16 := by omega
    have hw3 : IntKind.wrap .i64 ((i : Int) + 1) = ((i + 1 : Nat) : Int) := by rw [wrap_i64] <;> omega
    have hle : i * 2 + 2 ≤ 32 := by omega
    obtain ⟨x, y⟩ := p
    rw [hd, signOf] at hs
    by_cases he : x = s
    · rw [if_pos he] at hs
      simp [pc94_l1, a0, a5, a6, hlt', hl, hle, partOf, hc, splice, he]
      rw [hs]
      exact h _ ((A.newO).setO (by have := A.no; omega))
    · rw [if_neg he] at hs
      simp [pc94_l1, a0, a5, a6, hlt', hl, hle, partOf, hc, splice, he, hw3]
      refine ⟨⟨i + 1, by omega, by simp [a0], by simp [a5], by simp, hs, (A.newO).setO (by have := A.no; omega)⟩, ?_⟩
      simp [MU, a6]; omega
  · have he : i = 16 := by omega
    subst he
    have : signOf signs s = [] := by rw [← hs]; rfl
    rw [this] at h
    simp [pc94_l1, pc94_r1, a6]
    exact h _ A
end Go.Proofs.YthifgodgfhbnfaaDoor
set_option linter.unusedSimpArgs false
set_option linter.unusedVariables false
namespace Go.Proofs.YthifgodgfhbnfaaDoor
open Go Go.Abs
@[simp] theorem grown_full_cons {KS : AV → AS → Prop} {σ : AS} (bs sz f s' xs y ys) : grown bs sz (.sl (.fam f true) s' xs) (y :: ys) σ KS = (s' = sz ∧ (xs.length + (y :: ys).length) * bs ≤ 2 ^ 47 ∧ σ.F f = .alive ∧ KS (.sl (.fam σ.nf false) sz (xs ++ y :: ys)) σ.newF) := by simp [grown]
@[simp] theorem acall_under {P : Program} {G : Env} {n : Nat} {pa pb : PC} {ps : List Nat} {f0 : Nat} {a : Nat → AV} {l : Nat} {args : List AV} {σ : AS} {K PK : AV → AS → Prop} :
    acall P (G.under P n pa pb ps f0 a l) (.fn (.yield l) [] []) args σ K PK = (args.length = ps.length ∧ σ.F f0 = .alive ∧ avc P G n pa (athen (fun a1 σ1 => σ1.F f0 = .alive ∧ avc P G n pb (rq f0 K PK) a1 σ1) fun _ _ _ => False) (upds a ps args) σ) := by
  simp [acall, Env.under, ARound]
@[simp] theorem rq_normal (f0 : Nat) (K PK : AV → AS → Prop) (a : Nat → AV) (σ : AS) : rq f0 K PK .normal a σ = (σ.F f0 = .alive ∧ K (.bool true) σ) := Eq.trans rfl rfl
@[simp] theorem rq_panic (f0 : Nat) (K PK : AV → AS → Prop) (v : AV) (a : Nat → AV) (σ : AS) : rq f0 K PK (.panic v) a σ = (σ.F f0 = .alive ∧ PK v { σ with F := upd σ.F f0 .dead }) := Eq.trans rfl rfl
def intsA (l : List Int) : List AV := l.map (.int .i64)
/-- a stack's memory -/
def SV (σ : AS) (sv : AV) (st : List Int) : Prop := (st = [] ∧ sv = .nilsl) ∨ ∃ g b, sv = .sl (.fam g b) 1 (intsA st) ∧ g < σ.nf ∧ σ.F g = .alive
/-- the family that a list's stack may end -/
def UsesL (σ : AS) (x f : Nat) : Prop := ∃ cs v, σ.objs x = some cs ∧ cs[1]? = some v ∧ famOf v = some f
structure KeepL (x : Nat) (σ σ' : AS) : Prop where
  no : σ.no ≤ σ'.no
  nf : σ.nf ≤ σ'.nf
  obj : ∀ o, o < σ.no → o ≠ x → σ'.objs o = σ.objs o
  fam : ∀ f, f < σ.nf → ¬ UsesL σ x f → σ'.F f = σ.F f
  use : ∀ f, f < σ.nf → UsesL σ' x f → UsesL σ x f
theorem KeepL.refl (x σ) : KeepL x σ σ := ⟨Nat.le_refl _, Nat.le_refl _, fun _ _ _ => rfl, fun _ _ _ => rfl, fun _ _ h => h⟩
theorem KeepL.trans {x σ σ1 σ2} (h : KeepL x σ σ1) (h' : KeepL x σ1 σ2) : KeepL x σ σ2 where
  no := Nat.le_trans h.no h'.no
  nf := Nat.le_trans h.nf h'.nf
  obj o a b := by rw [h'.obj o (Nat.lt_of_lt_of_le a h.no) b, h.obj o a b]
  fam f a b := by rw [h'.fam f (Nat.lt_of_lt_of_le a h.nf) fun u => b (h.use f a u), h.fam f a b]
  use f a u := h.use f a (h'.use f (Nat.lt_of_lt_of_le a h.nf) u)
theorem Adds.keepL {x σ σ'} (h : Adds σ σ') (hx : x < σ.no) : KeepL x σ σ' where
  no := h.no
  nf := h.nf
  obj o a _ := h.obj o a
  fam f a _ := h.fam f a
  use f _ u := by unfold UsesL at *; rwa [h.obj x hx] at u
/-- the list at x, of the checker at c -/
def LS (σ : AS) (x c : Nat) (s : St) (deep : Int) : Prop := x < σ.no ∧ ∃ sv, σ.objs x = some [.ptr c 0, sv, .bool s.any, .int .i64 deep] ∧ SV σ sv s.stack
theorem LS.adds {σ σ' x c s deep} (h : LS σ x c s deep) (A : Adds σ σ') : LS σ' x c s deep := by
  obtain ⟨hx, sv, ho, hs⟩ := h
  refine ⟨Nat.lt_of_lt_of_le hx A.no, sv, (A.obj x hx).trans ho, ?_⟩
  rcases hs with hs | ⟨g, b, e, h1, h2⟩
  · exact .inl hs
  · exact .inr ⟨g, b, e, Nat.lt_of_lt_of_le h1 A.nf, (A.fam g h1).trans h2⟩
/-- how a function of a list ends -/
def FinE (R : Out → AS → Prop) (x c : Nat) (deep : Int) (σ : AS) : Res St → Prop
  | .ok s' => ∀ σ', KeepL x σ σ' → LS σ' x c s' deep → R (.ret (.tuple [])) σ'
  | .error e => ∀ σ', KeepL x σ σ' → R (.panic (stopV e)) σ'
/-- x's cells are written over, the stack's memory being what it was, or another that is new -/
theorem KeepL.set {x σ cs} (hx : x < σ.no) (h : ∀ f v, f < σ.nf → cs[1]? = some v → famOf v = some f → UsesL σ x f) : KeepL x σ (σ.setO x cs) where
  no := Nat.le_refl _
  nf := Nat.le_refl _
  obj o _ ho := by simp [ho]
  fam f _ _ := rfl
  use f hf u := by
    obtain ⟨cs', v, h1, h2, h3⟩ := u
    simp at h1
    subst h1
    exact h f v hf h2 h3
theorem drop_calls {G : Env} {σ : AS} {R : Out → AS → Prop} {x c : Nat} {s : St} {deep : Int} (L : LS σ x c s deep) (hb : s.stack.length ≤ 2 ^ 40) (h : FinE R x c deep σ (dropE s)) : ACalls Tryd.prog G 102 [.ptr x 0] σ R := by
  refine calls102 rfl ?_
  have L0 := L
  obtain ⟨hx, sv, ho, hs⟩ := L
  unfold dropE at h
  rcases hs with ⟨hnil, rfl⟩ | ⟨g, b, rfl, hg1, hg2⟩
  · have hl : s.stack.length = 0 := by rw [hnil]; rfl
    rw [if_pos hl] at h
    cases ha : s.any with
    | true =>
      rw [ha] at ho h
      rw [if_pos rfl] at h
      simp [pc102, ho]
      exact h σ (.refl _ _) L0
    | false =>
      rw [ha] at ho h
      rw [if_neg (by simp)] at h
      simp [pc102, ho]
      refine must_calls (fun q => by simp at q) fun _ => ?_
      exact h σ (.refl _ _)
  · have hlA : (intsA s.stack).length = s.stack.length := by simp [intsA]
    by_cases hl : s.stack.length = 0
    · rw [if_pos hl] at h
      have hl2 : intsA s.stack = [] := List.length_eq_zero_iff.1 (by omega)
      cases ha : s.any with
      | true =>
        rw [ha] at ho h
        rw [if_pos rfl] at h
        simp [pc102, ho, hl2]
        exact h σ (.refl _ _) L0
      | false =>
        rw [ha] at ho h
        rw [if_neg (by simp)] at h
        simp [pc102, ho, hl2]
        refine must_calls (fun q => by simp at q) fun _ => ?_
        exact h σ (.refl _ _)
    · rw [if_neg hl] at h
      have hl2 : ¬ ((intsA s.stack).length : Int) = 0 := by omega
      have hl3 : (0 : Int) < ((intsA s.stack).length : Int) := by omega
      have hne : ¬ intsA s.stack = [] := fun q => by rw [q] at hl2; simp at hl2
      have hpos : 0 < (intsA s.stack).length := by omega
      have hw : IntKind.wrap .i64 (((intsA s.stack).length : Int) - 1) = (((intsA s.stack).length - 1 : Nat) : Int) := by rw [wrap_i64] <;> omega
      have e : (intsA s.stack).take ((intsA s.stack).length - 1) = intsA s.stack.dropLast := by
        rw [hlA]; unfold intsA; rw [← List.map_take, List.dropLast_eq_take]
      simp [pc102, ho, hne, hpos, splice]
      refine must_calls (fun _ => ?_) (fun q => by simp at q)
      simp [pc102, ho, hne, hpos, splice, hw]
      rw [e]
      refine h _ (.set hx fun f v hf hv hfam => ?_) ⟨by simpa using hx, _, by simp, .inr ⟨g, true, rfl, hg1, hg2⟩⟩
      simp at hv
      subst hv
      simp [famOf] at hfam
      subst hfam
      exact ⟨_, _, ho, rfl, rfl⟩
theorem SV.one {σ : AS} {sv : AV} {st : List Int} (h : SV σ sv st) : sv.known = true ∧ sv.one = true ∧ sv.cells = [sv] := by
  rcases h with ⟨_, rfl⟩ | ⟨g, b, rfl, _⟩ <;> simp
theorem setO_setO (σ : AS) (x : Nat) (a b : List AV) : (σ.setO x a).setO x b = σ.setO x b := by
  unfold AS.setO
  congr 1
  funext j
  simp only [upd]
  split <;> rfl
theorem leaves_calls' {G : Env} {σ : AS} {R : Out → AS → Prop} {x c : Nat} {s : St} {deep : Int} (L : LS σ x c s deep) (h : ∀ σ', KeepL x σ σ' → LS σ' x c leftS deep → R (.ret (.tuple [])) σ') : ACalls Tryd.prog G 90 [.ptr x 0] σ R := by
  refine calls90 rfl ?_
  obtain ⟨hx, sv, ho, hs⟩ := L
  simp [pc90, ho, splice]
  rw [setO_setO]
  refine h _ ((KeepL.set (cs := [.ptr c 0, .nilsl, .bool true, .int .i64 deep]) hx fun f v hf hv hfam => ?_)) ⟨by simpa using hx, _, by simp [leftS], .inl ⟨rfl, rfl⟩⟩
  simp at hv
  subst hv
  simp [famOf] at hfam
/-- x's cells are written over, the stack's memory being new; the old one may have ended -/
theorem KeepL.grow {x : Nat} {σ σ1 : AS} {cs : List AV} (hx : x < σ.no) (ho : σ1.objs = σ.objs) (hno : σ1.no = σ.no) (hnf : σ.nf ≤ σ1.nf) (hF : ∀ f, f < σ.nf → ¬ UsesL σ x f → σ1.F f = σ.F f) (h : ∀ f v, f < σ.nf → cs[1]? = some v → famOf v = some f → False) : KeepL x σ (σ1.setO x cs) where
  no := by simp [hno]
  nf := by simpa using hnf
  obj o _ hne := by simp [hne, ho]
  fam f hf hu := hF f hf hu
  use f hf u := by
    obtain ⟨cs', v, h1, h2, h3⟩ := u
    simp at h1
    subst h1
    exact (h f v hf h2 h3).elim
theorem give_calls {G : Env} {σ : AS} {R : Out → AS → Prop} {x c : Nat} {s : St} {deep t : Int} (L : LS σ x c s deep) (hb : s.stack.length ≤ 2 ^ 40) (h : ∀ σ', KeepL x σ σ' → LS σ' x c (giveS s t) deep → R (.ret (.tuple [])) σ') : ACalls Tryd.prog G 89 [.ptr x 0, .int .i64 t] σ R := by
  refine calls89 rfl ?_
  have L0 := L
  obtain ⟨hx, sv, ho, hs⟩ := L
  by_cases ht : t = 0
  · have e : giveS s t = s := by simp [giveS, ht]
    rw [e] at h
    simp [pc89, ht]
    exact h σ (.refl _ _) L0
  · have e : giveS s t = { s with stack := s.stack ++ [t] } := by simp [giveS, ht]
    rw [e] at h
    rcases hs with ⟨hnil, rfl⟩ | ⟨g, b, rfl, hg1, hg2⟩
    · simp [pc89, ht, ho, splice]
      refine h _ (.grow hx rfl rfl (by simp) (fun f hf _ => by simp; omega) fun f v hf hv hfam => ?_) ⟨by simpa using hx, .sl (.fam σ.nf false) 1 (intsA (s.stack ++ [t])), by simp [hnil, intsA], .inr ⟨σ.nf, false, rfl, by simp, by simp⟩⟩
      · simp at hv; subst hv; simp [famOf] at hfam; omega
    · have hlA : (intsA s.stack).length = s.stack.length := by simp [intsA]
      have ea : intsA s.stack ++ [.int .i64 t] = intsA (s.stack ++ [t]) := by simp [intsA]
      cases b with
      | true =>
        simp [pc89, ht, ho, splice, hg2, hlA]
        refine ⟨by omega, h _ (.grow hx rfl rfl (by simp) (fun f hf _ => by simp; omega) fun f v hf hv hfam => ?_) ⟨by simpa using hx, .sl (.fam σ.nf false) 1 (intsA (s.stack ++ [t])), by simp [intsA], .inr ⟨σ.nf, false, rfl, by simp, by simp⟩⟩⟩
        · simp at hv; subst hv; simp [famOf] at hfam; omega
      | false =>
        simp [pc89, ht, ho, splice, hg2, hlA]
        refine ⟨by omega, h _ (.grow hx rfl rfl (by simp) (fun f hf hu => ?_) fun f v hf hv hfam => ?_) ⟨by simpa using hx, .sl (.fam σ.nf false) 1 (intsA (s.stack ++ [t])), by simp [intsA], .inr ⟨σ.nf, false, rfl, by simp, by simp⟩⟩⟩
        · have : f ≠ g := by rintro rfl; exact hu ⟨_, _, ho, rfl, rfl⟩
          simp [this]; omega
        · simp at hv; subst hv; simp [famOf] at hfam; omega
end Go.Proofs.YthifgodgfhbnfaaDoor
set_option linter.unusedSimpArgs false
set_option linter.unusedVariables false
namespace Go.Proofs.YthifgodgfhbnfaaDoor
open Go Go.Abs
theorem backward_calls {G : Env} {σ : AS} {R : Out → AS → Prop} {tv : AV} (hk : tv.known = true) (hc : tv.cells = [tv]) (h : R (.ret (.fn (.func 107) [] [.ptr σ.no 0])) (σ.newO [tv])) : ACalls Tryd.prog G 101 [tv] σ R := by
  refine calls101 rfl ?_
  simp [pc101, hk, hc]
  exact h
/-- one value is taken -/
theorem takeE_cons (t : Int) (ts : List Int) (s : St) : takeE (t :: ts) s = if s.stack.length = 0 ∨ s.stack.getLast? = some t then (match dropE s with | .ok s' => takeE ts s' | .error e => .error e) else .error 14 := rfl
theorem dropE_le {s s' : St} (h : dropE s = .ok s') : s'.stack.length ≤ s.stack.length := by
  unfold dropE at h
  split at h
  · split at h
    · cases h; exact Nat.le_refl _
    · cases h
  · cases h; simp
@[simp] theorem upds_two (a : Nat → AV) (p q : Nat) (x y : AV) : upds a [p, q] [x, y] = upd (upd a p x) q y := Eq.trans rfl rfl
theorem SV.len {σ : AS} {sv : AV} {st : List Int} (h : SV σ sv st) (K : AV → Prop) : alen Tryd.prog 34 sv K = K (.int .i64 (st.length : Int)) := by
  rcases h with ⟨rfl, rfl⟩ | ⟨g, b, rfl, _⟩
  · simp
  · simp [intsA]
theorem SV.last {σ : AS} {sv : AV} {st : List Int} (h : SV σ sv st) (hn : 0 < st.length) : ∃ φ v, Readable σ.F φ ∧ st.getLast? = some v ∧ ∀ (n : Int), n = (st.length : Int) - 1 → ∀ K : AV → Prop, aindexAddr Tryd.prog 34 sv (.int .i64 n) K = K (.pv φ (.int .i64 v)) := by
  rcases h with ⟨rfl, _⟩ | ⟨g, b, rfl, _, hg⟩
  · simp at hn
  · refine ⟨.fam g b, st[st.length - 1], hg, by rw [List.getLast?_eq_getElem?, List.getElem?_eq_getElem (by omega)], fun n hn2 K => ?_⟩
    have e : n.toNat = st.length - 1 := by omega
    have h0 : 0 ≤ n := by omega
    have hlt : st.length - 1 < st.length := by omega
    simp [intsA, e, h0, hlt]
theorem IntsV.len {tv : AV} {ts : List Int} (h : IntsV tv ts) (K : AV → Prop) : alen Tryd.prog 34 tv K = K (.int .i64 (ts.length : Int)) := by
  rcases h with ⟨rfl, rfl⟩ | ⟨b, rfl⟩ <;> simp
def TI (x c : Nat) (deep : Int) (o f0 l : Nat) (σN : AS) (ts : List Int) (s0 : St) (a : Nat → AV) (τ : AS) : Prop := ∃ (i : Nat) (s : St), i ≤ ts.length ∧ a 0 = .fn (.yield l) [] [] ∧ a 1 = .ptr o 0 ∧ a 3 = .int .i64 ((i : Int) - 1) ∧ LS τ x c s deep ∧ KeepL x σN τ ∧ s.stack.length ≤ s0.stack.length ∧
  takeE (ts.take i).reverse s = takeE ts.reverse s0
def TM (a : Nat → AV) (_ : AS) : Nat := match a 3 with | .int _ n => (n + 1).toNat | _ => 0
set_option maxRecDepth 20000 in
theorem take_calls {G : Env} {σ : AS} {R : Out → AS → Prop} {x c : Nat} {s : St} {deep : Int} {ts : List Int} {tv : AV} (hv : IntsV tv ts) (hts : ts.length ≤ 2 ^ 40) (L : LS σ x c s deep) (hb : s.stack.length ≤ 2 ^ 40) (h : FinE R x c deep σ (takeE ts.reverse s)) : ACalls Tryd.prog G 88 [.ptr x 0, tv] σ R := by
  obtain ⟨v1, v2, v3⟩ := hv.one
  refine acalls_range (px := pc88_x) (py := pc88_yx) (pa := pc88_yya) (pb := pc88_yyb) mixed Tryd.func88 (n := 33) (res := []) rfl rfl rfl (by kernel_rfl) (by kernel_rfl) (by kernel_rfl) (by kernel_rfl) (by decide) (by simp) ?_
  simp [pc88_x, pc88_yx]
  refine backward_calls v1 v3 ?_
  simp
  generalize hσ2 : (σ.newO [AV.ptr x 0]).newO [tv] = σ2
  have hno2 : σ2.no = σ.no + 2 := by rw [← hσ2]; simp
  have hnf2 : σ2.nf = σ.nf := by rw [← hσ2]; simp
  have A2 : Adds σ σ2 := by rw [← hσ2]; exact (Adds.refl σ).newO.newO
  have hb0 : σ2.objs σ.no = some [.ptr x 0] := by rw [← hσ2]; simp
  have ho0 : σ2.objs (σ.no + 1) = some [tv] := by rw [← hσ2]; simp
  have hxl := L.1
  refine ⟨107, [.ptr (σ.no + 1) 0], by simp, by simp, fun l => ?_⟩
  refine calls107 rfl ?_
  have L2 : LS σ2.newF x c s deep := (L.adds A2).adds (Adds.refl σ2).newF
  have AN : Adds σ σ2.newF := A2.newF
  have hnu : ∀ τ, KeepL x σ2.newF τ → τ.F σ2.nf = .alive := fun τ K => by
    rw [K.fam σ2.nf (by simp) ?_]
    · simp
    · rintro ⟨cs, v, e1, e2, e3⟩
      obtain ⟨hx, sv, e4, e5⟩ := L
      have : σ2.newF.objs x = some [.ptr c 0, sv, .bool s.any, .int .i64 deep] := (AN.obj x hx).trans e4
      rw [this] at e1
      cases e1
      simp at e2
      subst e2
      rcases e5 with ⟨_, rfl⟩ | ⟨g, b, rfl, hg, _⟩
      · simp [famOf] at e3
      · simp [famOf] at e3; omega
  -- a state behind the loop
  have back : ∀ τ, KeepL x σ2.newF τ → KeepL x σ { τ with F := upd τ.F σ2.nf .dead } := by
    intro τ K
    have K' := (AN.keepL hxl).trans K
    exact ⟨K'.no, K'.nf, K'.obj, fun f hf hu => by simp only [upd]; rw [if_neg (by omega)]; exact K'.fam f hf hu, K'.use⟩
  have backL : ∀ τ s', KeepL x σ2.newF τ → LS τ x c s' deep → LS { τ with F := upd τ.F σ2.nf .dead } x c s' deep := by
    intro τ s' K ⟨e1, sv, e2, e3⟩
    refine ⟨e1, sv, e2, ?_⟩
    rcases e3 with e3 | ⟨g, b, e4, e5, e6⟩
    · exact .inl e3
    · refine .inr ⟨g, b, e4, e5, ?_⟩
      have hne : g ≠ σ2.nf := by
        rintro rfl
        have u : UsesL τ x σ2.nf := ⟨_, _, e2, rfl, by rw [e4]; rfl⟩
        obtain ⟨cs, v, q1, q2, q3⟩ := K.use σ2.nf (by simp) u
        obtain ⟨hx, sv', q4, q5⟩ := L2
        rw [q4] at q1
        cases q1
        simp at q2
        subst q2
        rcases q5 with ⟨_, rfl⟩ | ⟨g', b', rfl, hg', _⟩
        · simp [famOf] at q3
        · obtain ⟨hx1, sv1, p1, p2⟩ := L
          have : σ2.newF.objs x = some [.ptr c 0, sv1, .bool s.any, .int .i64 deep] := (AN.obj x hx1).trans p1
          rw [q4] at this
          simp at this
          subst this
          rcases p2 with ⟨_, p3⟩ | ⟨g2, b2, p3, p4, _⟩
          · cases p3
          · simp at p3; simp [famOf] at q3; omega
      simp only [upd]; rw [if_neg hne]; exact e6
  have ho1 : σ2.newF.objs (σ.no + 1) = some [tv] := by simpa using ho0
  have hw0 : IntKind.wrap .i64 ((ts.length : Int) - 1) = (ts.length : Int) - 1 := by rw [wrap_i64] <;> omega
  have start : ∀ a, TI x c deep (σ.no + 1) σ2.nf l σ2.newF ts s a σ2.newF → ALoop Tryd.prog (Env.under G Tryd.prog 33 pc88_yya pc88_yyb [9, 10] σ2.nf (upd (upd (upd (frame0 [AV.ptr x 0, tv]) 2 (AV.ptr σ.no 0)) 7 tv) 8 (AV.fn (Fn.func 107) [] [AV.ptr (σ.no + 1) 0])) l) 19 pc107_l1
      (ablock 0 (afin Tryd.prog [] fun o σ' => match o with
        | .ret v => σ'.F σ2.nf = .alive ∧ R (.ret (.tuple [])) { σ' with F := upd σ'.F σ2.nf .dead }
        | .panic v => R (.panic v) σ')) a σ2.newF := by
    intro a hI
    refine aloop (TI x c deep (σ.no + 1) σ2.nf l σ2.newF ts s) TM hI fun a τ hI => ?_
    obtain ⟨i, s1, hi, a0, a1, a3, L1, K1, hle, hq⟩ := hI
    have hal := hnu τ K1
    have hob : τ.objs (σ.no + 1) = some [tv] := by
      rw [K1.obj (σ.no + 1) (by simp; omega) (by omega)]; exact ho1
    have hob0 : τ.objs σ.no = some [.ptr x 0] := by
      rw [K1.obj σ.no (by simp; omega) (by omega)]; simpa using hb0
    cases i with
    | zero =>
      simp [takeE] at hq
      rw [← hq] at h
      simp [pc107_l1, a3]
      exact ⟨hal, h _ (back τ K1) (backL τ s1 K1 L1)⟩
    | succ j =>
      have hj : j < ts.length := by omega
      rcases hv with ⟨rfl, _⟩ | ⟨b, rfl⟩
      · simp at hj
      have hrev : (ts.take (j + 1)).reverse = ts[j] :: (ts.take j).reverse := by rw [List.take_succ_eq_append_getElem hj, List.reverse_append]; rfl
      rw [hrev, takeE_cons] at hq
      obtain ⟨hx1, sv1, hs1, hs2⟩ := L1
      have L1' : LS τ x c s1 deep := ⟨hx1, sv1, hs1, hs2⟩
      have hf0 := hal
      have hsl := hs2.len
      have hwj : IntKind.wrap .i64 ((j : Int) - 1) = (j : Int) - 1 := by rw [wrap_i64] <;> omega
      have next : ∀ (a' : Nat → AV) (τ' : AS) (s' : St), KeepL x τ τ' → LS τ' x c s' deep → takeE (ts.take j).reverse s' = takeE ts.reverse s → s'.stack.length ≤ s1.stack.length → a' 0 = .fn (.yield l) [] [] → a' 1 = .ptr (σ.no + 1) 0 → a' 3 = .int .i64 ((j : Int) - 1) →
          TI x c deep (σ.no + 1) σ2.nf l σ2.newF ts s a' τ' ∧ TM a' τ' < TM a τ := by
        intro a' τ' s' K' L' e' l' b0 b1 b3
        refine ⟨⟨j, s', by omega, b0, b1, b3, L', K1.trans K', by omega, e'⟩, ?_⟩
        simp only [TM, a3, b3]
        omega
      by_cases hn : s1.stack.length = 0
      · have hn' : s1.stack = [] := List.length_eq_zero_iff.1 hn
        rw [if_pos (.inl hn)] at hq
        simp [pc107_l1, a0, a1, a3, hob, hj, pc88_yya, pc88_yyb, hal, hob0, hs1, hsl, hn']
        refine must_calls (fun _ => ?_) (fun q => by simp at q)
        simp [hob0]
        refine drop_calls L1' (by omega) ?_
        cases hd : dropE s1 with
        | ok s' =>
          rw [hd] at hq
          intro τ' K' L'
          simp [hal, hnu τ' (K1.trans K'), a0, a1, a3, hwj]
          exact next _ τ' s' K' L' hq (dropE_le hd) (by simp [a0]) (by simp [a1]) (by simp)
        | error e =>
          rw [hd] at hq
          simp only at hq
          rw [← hq] at h
          intro τ' K'
          simp [hal, hnu τ' (K1.trans K')]
          exact h _ (back τ' (K1.trans K'))
      · obtain ⟨φ, v, hrd, hlast, hix⟩ := hs2.last (by omega)
        have hix' := hix _ rfl
        have hw1 : IntKind.wrap .i64 ((s1.stack.length : Int) - 1) = (s1.stack.length : Int) - 1 := by rw [wrap_i64] <;> omega
        have hne : ¬ s1.stack = [] := fun q => hn (by rw [q]; rfl)
        by_cases hvt : v = ts[j]
        · rw [if_pos (.inr (by rw [hlast, hvt]))] at hq
          subst hvt
          simp [pc107_l1, a0, a1, a3, hob, hj, pc88_yya, pc88_yyb, hal, hob0, hs1, hsl, hne, hix', hw1, hrd]
          refine must_calls (fun _ => ?_) (fun q => by simp at q)
          simp [hob0]
          refine drop_calls L1' (by omega) ?_
          cases hd : dropE s1 with
          | ok s' =>
            rw [hd] at hq
            intro τ' K' L'
            simp [hal, hnu τ' (K1.trans K'), a0, a1, a3, hwj]
            exact next _ τ' s' K' L' hq (dropE_le hd) (by simp [a0]) (by simp [a1]) (by simp)
          | error e =>
            rw [hd] at hq
            simp only at hq
            rw [← hq] at h
            intro τ' K'
            simp [hal, hnu τ' (K1.trans K')]
            exact h _ (back τ' (K1.trans K'))
        · rw [if_neg (by rintro (q | q); exact hn q; rw [hlast] at q; exact hvt (Option.some.inj q))] at hq
          rw [← hq] at h
          simp [pc107_l1, a0, a1, a3, hob, hj, pc88_yya, pc88_yyb, hal, hob0, hs1, hsl, hne, hix', hw1, hrd, hvt]
          refine must_calls (fun q => by simp at q) (fun _ => ?_)
          simp [hal]
          exact h _ (back τ K1)
  simp [pc107, ho1, hv.len, hw0]
  exact start _ ⟨ts.length, s, Nat.le_refl _, by simp, by simp, by simp, L2, .refl _ _, Nat.le_refl _, by rw [List.take_length]⟩
end Go.Proofs.YthifgodgfhbnfaaDoor
set_option linter.unusedSimpArgs false
set_option linter.unusedVariables false
namespace Go.Proofs.YthifgodgfhbnfaaDoor
open Go Go.Abs
/-- the checker at c: of the module m, at the function f, whose locals are ls -/
def CkAt (σ : AS) (c : Nat) (m : M) (f : F) (ls : List Int) : Prop := c < σ.no ∧ ∃ fsv pv lv tv sv, σ.objs c = some [fsv, .int .i64 m.memory, .int .i64 m.main, .str f.name, pv, lv, .int .i64 f.type, tv, sv] ∧ FsV fsv m.funcs ∧ IntsV pv f.params ∧ IntsV lv f.locals ∧ ListsV tv f.lists ∧ IntsV sv ls
theorem CkAt.adds {σ σ' c m f ls} (h : CkAt σ c m f ls) (A : Adds σ σ') : CkAt σ' c m f ls := by
  obtain ⟨hc, fsv, pv, lv, tv, sv, ho, r⟩ := h
  exact ⟨Nat.lt_of_lt_of_le hc A.no, fsv, pv, lv, tv, sv, (A.obj c hc).trans ho, r⟩
theorem CkAt.keep {σ σ' x c m f ls} (h : CkAt σ c m f ls) (K : KeepL x σ σ') (hx : c ≠ x) : CkAt σ' c m f ls := by
  obtain ⟨hc, fsv, pv, lv, tv, sv, ho, r⟩ := h
  exact ⟨Nat.lt_of_lt_of_le hc K.no, fsv, pv, lv, tv, sv, (K.obj c hc hx).trans ho, r⟩
theorem FsV.len {fv : AV} {fs : List F} (h : FsV fv fs) (K : AV → Prop) : alen Tryd.prog 22 fv K = K (.int .i64 (fs.length : Int)) := by
  rcases h with ⟨rfl, rfl⟩ | ⟨b, rows, rfl, hr⟩
  · simp
  · simp [hr.length]
theorem ListsV.len {tv : AV} {ls : To} (h : ListsV tv ls) (K : AV → Prop) : alen Tryd.prog 35 tv K = K (.int .i64 (ls.length : Int)) := by
  rcases h with ⟨rfl, rfl⟩ | ⟨b, rows, rfl, hr⟩
  · simp
  · simp [hr.length]
theorem RepL.len {v : AV} {l : List W} (h : RepL v l) (K : AV → Prop) : alen Tryd.prog 38 v K = K (.int .i64 (l.length : Int)) := by
  rcases h with ⟨rfl, rfl⟩ | ⟨b, rfl⟩ <;> simp
theorem returns_calls {G : Env} {σ : AS} {R : Out → AS → Prop} {x c : Nat} {s : St} {deep : Int} {m : M} {f : F} {ls : List Int} (L : LS σ x c s deep) (C : CkAt σ c m f ls) (hb : s.stack.length ≤ 2 ^ 40) (h : FinE R x c deep σ (returnsE f.type s)) : ACalls Tryd.prog G 74 [.ptr x 0] σ R := by
  refine calls74 rfl ?_
  obtain ⟨hc, fsv, pv, lv, tv, lsv, hco, _⟩ := C
  obtain ⟨hx, sv, ho, hs⟩ := L
  unfold returnsE at h
  by_cases ht : f.type = 0
  · rw [if_pos ht] at h
    simp [pc74, ho, hco, ht]
    exact h σ (.refl _ _) ⟨hx, sv, ho, hs⟩
  · rw [if_neg ht] at h
    simp [pc74, ho, hco, ht]
    refine take_calls (ts := [f.type]) (.inr ⟨_, rfl⟩) (by simp) ⟨hx, sv, ho, hs⟩ hb ?_
    have e : [f.type].reverse = [f.type] := rfl
    rw [e]
    revert h
    cases takeE [f.type] s with
    | ok s' => intro h σ' K L; simp; exact h σ' K L
    | error e => intro h σ' K; simp; exact h σ' K
theorem form_calls {G : Env} (V : Vars G) {σ : AS} {R : Out → AS → Prop} {w : W} (h : ∀ σ', Adds σ σ' → R (.ret (.bool (formB w))) σ') : ACalls Tryd.prog G 86 [w.av] σ R := by
  refine calls86 rfl ?_
  unfold formB at h
  have A : Adds σ (σ.newO w.cs) := (Adds.refl σ).newO
  simp only [W.cs] at A
  by_cases h1 : w.op = 1
  · rw [if_pos (.inl h1)] at h
    simp [pc86, W.av, W.cs, h1]
    refine number_calls ?_
    simp
    simpa [h1] using h _ A
  by_cases h5 : w.op = 5
  · rw [if_pos (.inr h5)] at h
    simp [pc86, W.av, W.cs, h5]
    refine number_calls ?_
    simp
    simpa [h5] using h _ A
  rw [if_neg (by omega)] at h
  by_cases h4 : w.op = 4
  · rw [if_pos h4] at h
    simp [pc86, W.av, W.cs, h4]
    refine number_calls ?_
    cases hn : numberB w.ty with
    | false =>
      rw [hn] at h
      simp
      simpa [h4] using h _ A
    | true =>
      rw [hn] at h
      simp
      refine sign_calls V fun σ1 A1 => ?_
      simp
      have := h _ ((by simpa [h4] using A : Adds σ _).trans A1)
      cases hq : signOf signs w.name with
      | nil => rw [hq] at this; simpa using this
      | cons a l => rw [hq] at this; simpa using this
  rw [if_neg h4] at h
  by_cases h8 : w.op = 8
  · rw [if_pos (.inl h8)] at h
    simp [pc86, W.av, W.cs, h8]
    refine bytes_calls ?_
    simp
    simpa [h8] using h _ A
  by_cases h9 : w.op = 9
  · rw [if_pos (.inr h9)] at h
    simp [pc86, W.av, W.cs, h9]
    refine bytes_calls ?_
    simp
    simpa [h9] using h _ A
  rw [if_neg (by omega)] at h
  by_cases k1 : 1 ≤ w.op
  · by_cases k2 : w.op ≤ 18
    · simp [k1, k2] at h
      simp [pc86, W.av, W.cs, h1, h5, h4, h8, h9, k1, k2]
      exact h _ A
    · simp [k1, k2] at h
      simp [pc86, W.av, W.cs, h1, h5, h4, h8, h9, k1, k2]
      exact h _ A
  · simp [k1] at h
    simp [pc86, W.av, W.cs, h1, h5, h4, h8, h9, k1]
    exact h _ A
/-- what a function takes and gives, as it is told -/
def HeadV (v : AV) (r : Option (List Int × Int)) : Prop := match r with
  | some (ts, g) => ∃ tv, v = .tuple [.agg [tv, .int .i64 g], .bool true] ∧ IntsV tv ts
  | none => v = .tuple [.agg [.nilsl, .int .i64 0], .bool false]
theorem headOf_calls {G : Env} {σ : AS} {R : Out → AS → Prop} {mv : AV} {m : M} {n : Int} (hm : MV mv m) (hb : n ≤ 2 ^ 63 - 1) (h : ∀ v σ', HeadV v (headOf m.funcs n) → Adds σ σ' → R (.ret v) σ') : ACalls Tryd.prog G 100 [mv, .int .i64 n] σ R := by
  refine calls100 rfl ?_
  obtain ⟨fv, rfl, hf⟩ := hm
  unfold headOf at h
  have A0 : ∀ c1 c2 c3 : List AV, Adds σ (((σ.newO c1).newO c2).setO (σ.no + 1) c3) := fun _ _ _ => ((Adds.refl σ).newO.newO).setO (by omega)
  by_cases n0 : n = 0
  · rw [if_pos n0] at h
    simp [pc100, n0, splice]
    exact h _ _ ⟨_, rfl, .inl ⟨rfl, rfl⟩⟩ (A0 _ _ _)
  rw [if_neg n0] at h
  by_cases n1 : n = 1
  · rw [if_pos n1] at h
    simp [pc100, n1, splice]
    exact h _ _ ⟨_, rfl, .inr ⟨_, rfl⟩⟩ (A0 _ _ _)
  rw [if_neg n1] at h
  by_cases n2 : n = 2
  · rw [if_pos n2] at h
    simp [pc100, n2, splice]
    exact h _ _ ⟨_, rfl, .inr ⟨_, rfl⟩⟩ (A0 _ _ _)
  rw [if_neg n2] at h
  by_cases n3 : n < 0
  · rw [if_pos n3] at h
    simp [pc100, n0, n1, n2, n3, splice]
    exact h _ _ rfl (A0 _ _ _)
  rw [if_neg n3] at h
  have hw : IntKind.wrap .i64 (n - 3) = n - 3 := by rw [wrap_i64] <;> omega
  have hl := hf.len
  by_cases n4 : (m.funcs.length : Int) ≤ n - 3
  · have e : m.funcs[(n - 3).toNat]? = none := List.getElem?_eq_none (by omega)
    rw [e] at h
    simp [pc100, n0, n1, n2, n3, n4, splice, hl, hw]
    exact h _ _ rfl (A0 _ _ _)
  · rcases hf with ⟨e0, rfl⟩ | ⟨b, rows, rfl, hr⟩
    · rw [e0] at n4; simp at n4; omega
    have hlt : (n - 3).toNat < m.funcs.length := by omega
    have hg : m.funcs[(n - 3).toNat]? = some m.funcs[(n - 3).toNat] := List.getElem?_eq_getElem hlt
    obtain ⟨row, hrow, pv, lv, tv, rfl, hp, hlv, htv⟩ := hr.get hg
    rw [hg] at h
    have h3 : 0 ≤ n - 3 := by omega
    have p1 := hp.one
    simp [pc100, n0, n1, n2, n3, n4, splice, hl, hw, hrow, h3, p1]
    refine ⟨by omega, ⟨hlv.one.2.1, htv.one.2.1⟩, h _ _ ⟨_, rfl, hp⟩ ?_⟩
    exact (((Adds.refl σ).newO.newO.newO).setO (by omega)).setO (by omega)
theorem ranged_calls {G : Env} {σ : AS} {R : Out → AS → Prop} {x c : Nat} {s : St} {deep : Int} {m : M} {f : F} {ls : List Int} {w : W} (L : LS σ x c s deep) (C : CkAt σ c m f ls) (hb : w.n ≤ 2 ^ 63 - 1) (h : ∀ σ', Adds σ σ' → R (.ret (.bool (rangedB m.funcs ls deep w))) σ') : ACalls Tryd.prog G 87 [.ptr x 0, w.av] σ R := by
  refine calls87 rfl ?_
  obtain ⟨hc, fsv, pv, lv, tv, lsv, hco, hfs, hpv, hlv, htv, hls⟩ := C
  obtain ⟨hx, sv, ho, hs⟩ := L
  have A : Adds σ (σ.newO w.cs) := (Adds.refl σ).newO
  simp only [W.cs] at A
  have hx' : x ≠ σ.no := by omega
  have hc' : c ≠ σ.no := by omega
  unfold rangedB at h
  by_cases h1 : w.op = 1
  · rw [if_pos h1] at h
    simp [pc87, W.av, W.cs, h1]
    refine wrap_calls ?_
    simp
    simpa [h1] using h _ A
  rw [if_neg h1] at h
  by_cases h2 : w.op = 2 ∨ w.op = 3
  · rw [if_pos h2] at h
    have hl := hls.len
    by_cases k1 : 0 ≤ w.n
    · by_cases k2 : w.n < (ls.length : Int)
      · simp [k1, k2] at h
        rcases h2 with h2 | h2 <;> simp [pc87, W.av, W.cs, h1, h2, ho, hco, hx', hc', hl, k1, k2] <;> exact h _ (by simpa [h2] using A)
      · simp [k1, k2] at h
        rcases h2 with h2 | h2 <;> simp [pc87, W.av, W.cs, h1, h2, ho, hco, hx', hc', hl, k1, k2] <;> exact h _ (by simpa [h2] using A)
    · simp [k1] at h
      rcases h2 with h2 | h2 <;> simp [pc87, W.av, W.cs, h1, h2, ho, hco, hx', hc', hl, k1] <;> exact h _ (by simpa [h2] using A)
  rw [if_neg h2] at h
  have h2a : ¬ w.op = 2 := fun q => h2 (.inl q)
  have h2b : ¬ w.op = 3 := fun q => h2 (.inr q)
  by_cases h10 : w.op = 10
  · rw [if_pos h10] at h
    simp [pc87, W.av, W.cs, h10, ho, hco, hx', hc']
    have hx'' : x ≠ σ.no + 1 := by omega
    have hc'' : c ≠ σ.no + 1 := by omega
    have A' : Adds σ (σ.newO [.int .i64 10, .int .i64 w.ty, .int .i64 w.n, .int .i64 w.body, .int .i64 w.other, .str w.name]) := by simpa [h10] using A
    constructor
    · refine headOf_calls (m := m) ⟨_, rfl, hfs⟩ hb fun v σ1 hv A1 => ?_
      have A2 := A'.trans A1
      cases hq : headOf m.funcs w.n with
      | none =>
        rw [hq] at hv h
        simp only [HeadV] at hv
        subst hv
        simp [splice]
        exact h _ (A2.newO.setO A2.no)
      | some p =>
        rw [hq] at hv h
        obtain ⟨y, rfl, hy⟩ := hv
        have y1 := hy.one
        simp [splice, y1]
        exact h _ (A2.newO.setO A2.no)
    · simp [ho, hco, hx', hc', hx'', hc'']
      refine headOf_calls (m := m) ⟨_, rfl, hfs⟩ hb fun v σ1 hv A1 => ?_
      have A2 : Adds σ σ1 := (A'.newO).trans A1
      have hnew : σ1.objs (σ.no + 1) = some [.nilsl, .int .i64 0] := (A1.obj (σ.no + 1) (by simp)).trans (by simp)
      cases hq : headOf m.funcs w.n with
      | none =>
        rw [hq] at hv h
        simp only [HeadV] at hv
        subst hv
        simp [splice, hnew]
        exact h _ (A2.setO (by omega))
      | some p =>
        rw [hq] at hv h
        obtain ⟨y, rfl, hy⟩ := hv
        have y1 := hy.one
        simp [splice, y1, hnew]
        exact h _ (A2.setO (by omega))
  rw [if_neg h10] at h
  by_cases h14 : w.op = 14 ∨ w.op = 15
  · rw [if_pos h14] at h
    by_cases k1 : 0 ≤ w.n
    · by_cases k2 : w.n ≤ deep
      · simp [k1, k2] at h
        rcases h14 with h14 | h14 <;> simp [pc87, W.av, W.cs, h14, ho, hco, hx', hc', k1, k2] <;> exact h _ (by simpa [h14] using A)
      · simp [k1, k2] at h
        rcases h14 with h14 | h14 <;> simp [pc87, W.av, W.cs, h14, ho, hco, hx', hc', k1, k2] <;> exact h _ (by simpa [h14] using A)
    · simp [k1] at h
      rcases h14 with h14 | h14 <;> simp [pc87, W.av, W.cs, h14, ho, hco, hx', hc', k1] <;> exact h _ (by simpa [h14] using A)
  rw [if_neg h14] at h
  have h14a : ¬ w.op = 14 := fun q => h14 (.inl q)
  have h14b : ¬ w.op = 15 := fun q => h14 (.inr q)
  simp [pc87, W.av, W.cs, h1, h2a, h2b, h10, h14a, h14b]
  exact h _ A
end Go.Proofs.YthifgodgfhbnfaaDoor
set_option linter.unusedSimpArgs false
set_option linter.unusedVariables false
namespace Go.Proofs.YthifgodgfhbnfaaDoor
open Go Go.Abs
@[simp] theorem abin_add_str {P : Program} (t) (x y : List UInt8) {K : AV → Prop} : abin P .add t (.str x) (.str y) K = (x.length + y.length < 2 ^ 62 ∧ K (.str (x ++ y))) := by simp only [abin, strCmp]
theorem Vars.cell {G : Env} (V : Vars G) {M F w} (g : GOk Tryd.prog G M F w) : ∃ m, w.cell? ⟨1, 0, none⟩ = some (.int .i64 m) := by
  obtain ⟨m, hm⟩ := V.max
  have h := g.vars 1
  rw [hm] at h
  cases h with
  | pv φ v B off cs hmem hc hv =>
    have h1 := hc trivial 0 (by simp)
    have h2 := hv trivial 0 (by simp)
    simp at h2
    generalize cs 0 = c at h1 h2
    cases h2
    exact ⟨m, h1⟩
theorem contains_calls {G : Env} (V : Vars G) {s t : List UInt8} {σ : AS} {R : Out → AS → Prop} (hl : s.length < 4294967281) (h : R (.ret (.bool (Lib.contains s t))) σ) : ACalls Tryd.prog G 103 [.str s, .str t] σ R := by
  refine ACalls.of_below fun M w cargs S g hc => ?_
  obtain ⟨m, hm⟩ := V.cell g
  obtain ⟨c0, e0, v0⟩ := hc.2 0 _ rfl
  obtain ⟨c1, e1, v1⟩ := hc.2 1 _ rfl
  obtain ⟨b0, rfl, rfl⟩ := v0.str_inv
  obtain ⟨b1, rfl, rfl⟩ := v1.str_inv
  have hcargs : cargs = #[.string b0, .string b1] := by
    have hsz : cargs.size = 2 := hc.1
    apply Array.ext
    · simpa using hsz
    · intro i h1 h2
      match i, h1 with
      | 0, _ => simpa using (Array.getElem?_eq_some_iff.1 e0).2
      | 1, _ => simpa using (Array.getElem?_eq_some_iff.1 e1).2
      | i + 2, h => omega
  rw [hcargs]
  refine (Tryd.strings_Contains b0 b1 m w (by simpa using hl) hm).mono fun e w' ⟨he, hw⟩ => ?_
  subst he hw
  exact ⟨⟨.bool _, _, rfl, fun M F w => .bool _, h⟩, rfl, rfl, rfl, Nat.le_refl _, fun _ _ => rfl⟩
theorem takeE_le : ∀ {ts : List Int} {s s' : St}, takeE ts s = .ok s' → s'.stack.length ≤ s.stack.length
  | [], s, s', h => by simp [takeE] at h; subst h; exact Nat.le_refl _
  | t :: ts, s, s', h => by
    rw [takeE] at h
    split at h
    · cases hd : dropE s with
      | error e => rw [hd] at h; cases h
      | ok s1 => rw [hd] at h; exact Nat.le_trans (takeE_le h) (dropE_le hd)
    · cases h
theorem sign_short : ∀ s, signOf signs s ≠ [] → s.length ≤ 5 := by
  have key : ∀ (l : List (List UInt8 × List UInt8)), (∀ p ∈ l, p.1.length ≤ 5) → ∀ s, signOf l s ≠ [] → s.length ≤ 5 := by
    intro l
    induction l with
    | nil => intro _ s h; simp [signOf] at h
    | cons p l ih =>
      intro hp s h
      obtain ⟨x, y⟩ := p
      rw [signOf] at h
      by_cases e : x = s
      · subst e; exact hp (x, y) (by simp)
      · rw [if_neg e] at h; exact ih (fun q hq => hp q (by simp [hq])) s h
  exact key signs (by decide)
section
variable {G : Env} {σ : AS} {R : Out → AS → Prop} {x c : Nat} {s : St} {deep : Int} {m : M} {f : F} {ls : List Int} {w : W}
theorem plain_calls (V : Vars G) (L : LS σ x c s deep) (C : CkAt σ c m f ls) (hcx : c ≠ x) (hb : s.stack.length ≤ 2 ^ 39) (hn : w.n ≤ 2 ^ 63 - 1) (hps : ∀ g ∈ m.funcs, g.params.length ≤ 2 ^ 30) (hf : formB w = true) (hr : rangedB m.funcs ls deep w = true)
    (h : FinE R x c deep σ (plainE m.funcs ls w s)) : ACalls Tryd.prog G 91 [.ptr x 0, w.av] σ R := by
  refine calls91 rfl ?_
  have A : Adds σ (σ.newO w.cs) := (Adds.refl σ).newO
  have La := L.adds A
  have Ca := C.adds A
  have Ka := A.keepL L.1
  have hwo : (σ.newO w.cs).objs σ.no = some [.int .i64 w.op, .int .i64 w.ty, .int .i64 w.n, .int .i64 w.body, .int .i64 w.other, .str w.name] := by simp [W.cs]
  have hwl : σ.no < (σ.newO w.cs).no := by simp
  have hxw : σ.no ≠ x := by have := L.1; omega
  simp [pc91, W.av, W.cs]
  rw [show σ.newO [AV.int IntKind.i64 w.op, AV.int IntKind.i64 w.ty, AV.int IntKind.i64 w.n, AV.int IntKind.i64 w.body, AV.int IntKind.i64 w.other, AV.str w.name] = σ.newO w.cs from rfl]
  generalize hσa : σ.newO w.cs = σa at *
  obtain ⟨hc, fsv, pv, lv, tv, lsv, hco, hfs, hpv, hlv, htv, hls⟩ := Ca
  obtain ⟨hx, sv, ho, hs⟩ := La
  have La : LS σa x c s deep := ⟨hx, sv, ho, hs⟩
  -- the ends
  have fin : ∀ r : Res St, FinE R x c deep σ r → FinE (ends (fun v σ' => R (.ret (.tuple [])) σ') fun v σ' => R (.panic v) σ') x c deep σa r := by
    intro r hr
    cases r with
    | ok s' => intro σ' K L'; simp; exact hr σ' (Ka.trans K) L'
    | error e => intro σ' K; simp; exact hr σ' (Ka.trans K)
  unfold plainE at h
  by_cases h1 : w.op = 1
  · rw [if_pos h1] at h
    simp [h1, hwo]
    refine give_calls La (by omega) fun σ' K L' => ?_
    simp
    exact h σ' (Ka.trans K) L'
  rw [if_neg h1] at h
  by_cases h2 : w.op = 2
  · rw [if_pos h2] at h
    have hr2 : 0 ≤ w.n ∧ w.n < (ls.length : Int) := by simpa [rangedB, h1, h2] using hr
    rcases hls with ⟨e, _⟩ | ⟨b, rfl⟩
    · rw [e] at hr2; simp at hr2; omega
    have hlt : w.n.toNat < ls.length := by omega
    have e1 : ls.getD w.n.toNat 0 = ls[w.n.toNat] := by rw [List.getD_eq_getElem?_getD, List.getElem?_eq_getElem hlt]; rfl
    simp [h2, hwo, ho, hco, hr2.1, hlt]
    refine give_calls La (by omega) fun σ' K L' => ?_
    simp
    unfold localAt at h
    rw [e1] at h
    exact h σ' (Ka.trans K) L'
  rw [if_neg h2] at h
  by_cases h3 : w.op = 3
  · rw [if_pos h3] at h
    have hr2 : 0 ≤ w.n ∧ w.n < (ls.length : Int) := by simpa [rangedB, h1, h2, h3] using hr
    rcases hls with ⟨e, _⟩ | ⟨b, rfl⟩
    · rw [e] at hr2; simp at hr2; omega
    have hlt : w.n.toNat < ls.length := by omega
    have e1 : ls.getD w.n.toNat 0 = ls[w.n.toNat] := by rw [List.getD_eq_getElem?_getD, List.getElem?_eq_getElem hlt]; rfl
    simp [h3, hwo, ho, hco, hr2.1, hlt]
    unfold localAt at h
    rw [e1] at h
    refine take_calls (ts := [ls[w.n.toNat]]) (.inr ⟨_, rfl⟩) (by simp) La (by omega) ?_
    have e : [ls[w.n.toNat]].reverse = [ls[w.n.toNat]] := rfl
    rw [e]
    revert h
    cases takeE [ls[w.n.toNat]] s with
    | ok s' => intro h σ' K L; simp; exact h σ' (Ka.trans K) L
    | error e => intro h σ' K; simp; exact h σ' (Ka.trans K)
  rw [if_neg h3] at h
  -- takes, and gives
  have tgB : ∀ {R' : Out → AS → Prop} {σb : AS} (Kb : KeepL x σ σb) (Lb : LS σb x c s deep) (o : Nat) (cs : List AV) (ts : List Int) (tv : AV) (t : Int), σb.objs o = some cs → o < σb.no → o ≠ x → IntsV tv ts → ts.length ≤ 2 ^ 30 → FinE R x c deep σ (gives (takeE ts.reverse s) t) →
      (∀ σ1 s1, s1.stack.length ≤ 2 ^ 39 → KeepL x σb σ1 → LS σ1 x c s1 deep → σ1.objs o = some cs → (∀ σ2, KeepL x σ1 σ2 → LS σ2 x c (giveS s1 t) deep → R (.ret (.tuple [])) σ2) → R' (.ret (.tuple [])) σ1) →
      (∀ e σ1, R (.panic (stopV e)) σ1 → R' (.panic (stopV e)) σ1) → ACalls Tryd.prog G 88 [.ptr x 0, tv] σb R' := by
    intro R' σb Kb Lb o cs ts tv t hob hlo hox hv hl hr k1 k2
    refine take_calls hv (by omega) Lb (by omega) ?_
    cases hq : takeE ts.reverse s with
    | error e =>
      rw [hq] at hr
      exact fun σ1 K => k2 e σ1 (hr σ1 (Kb.trans K))
    | ok s1 =>
      rw [hq] at hr
      exact fun σ1 K L' => k1 σ1 s1 (by have := takeE_le hq; omega) K L' ((K.obj o hlo hox).trans hob) fun σ2 K2 L2 => hr σ2 (Kb.trans (K.trans K2)) L2
  have tg : ∀ {R' : Out → AS → Prop} (ts : List Int) (tv : AV) (t : Int), IntsV tv ts → ts.length ≤ 2 ^ 30 → FinE R x c deep σ (gives (takeE ts.reverse s) t) →
      (∀ σ1 s1, s1.stack.length ≤ 2 ^ 39 → KeepL x σa σ1 → LS σ1 x c s1 deep → σ1.objs σ.no = some [.int .i64 w.op, .int .i64 w.ty, .int .i64 w.n, .int .i64 w.body, .int .i64 w.other, .str w.name] → (∀ σ2, KeepL x σ1 σ2 → LS σ2 x c (giveS s1 t) deep → R (.ret (.tuple [])) σ2) → R' (.ret (.tuple [])) σ1) →
      (∀ e σ1, R (.panic (stopV e)) σ1 → R' (.panic (stopV e)) σ1) → ACalls Tryd.prog G 88 [.ptr x 0, tv] σa R' := fun ts tv t hv hl hr k1 k2 => tgB Ka La σ.no _ ts tv t hwo hwl hxw hv hl hr k1 k2
  by_cases h4 : w.op = 4
  · rw [if_pos h4] at h
    have hsig : w.name.length ≤ 5 := by
      refine sign_short _ fun q => ?_
      simp [formB, h4, q] at hf
    simp [h4, hwo]
    refine tg [w.ty, w.ty] _ _ (.inr ⟨_, rfl⟩) (by simp) h (fun σ1 s1 hb1 K1 L1 hw1 fin1 => ?_) (fun e σ1 hh => by simp; exact hh)
    simp [hw1]
    refine ⟨by omega, by omega, contains_calls V ?_ ?_⟩
    · decide
    have hcmp : Lib.contains [32, 101, 113, 32, 110, 101, 32, 108, 116, 95, 115, 32, 108, 101, 95, 115, 32, 103, 116, 95, 115, 32, 103, 101, 95, 115, 32] (32 :: (w.name ++ [32])) = cmpB w.name := rfl
    simp [hcmp]
    cases hq : cmpB w.name with
    | true =>
      rw [hq] at fin1
      simp [hw1]
      refine give_calls L1 (by omega) fun σ2 K2 L2 => ?_
      simp
      exact fin1 σ2 K2 L2
    | false =>
      rw [hq] at fin1
      simp [hw1]
      refine give_calls L1 (by omega) fun σ2 K2 L2 => ?_
      simp
      exact fin1 σ2 K2 L2
  rw [if_neg h4] at h
  by_cases h5 : w.op = 5
  · rw [if_pos h5] at h
    simp [h5, hwo]
    refine tg [w.ty] _ _ (.inr ⟨_, rfl⟩) (by simp) h (fun σ1 s1 hb1 K1 L1 hw1 fin1 => ?_) (fun e σ1 hh => by simp; exact hh)
    simp [hw1]
    refine give_calls L1 (by omega) fun σ2 K2 L2 => ?_
    simp
    exact fin1 σ2 K2 L2
  rw [if_neg h5] at h
  by_cases h6 : w.op = 6
  · rw [if_pos h6] at h
    simp [h6, hwo]
    refine tg [2] _ _ (.inr ⟨_, rfl⟩) (by simp) h (fun σ1 s1 hb1 K1 L1 hw1 fin1 => ?_) (fun e σ1 hh => by simp; exact hh)
    simp [hw1]
    refine give_calls L1 (by omega) fun σ2 K2 L2 => ?_
    simp
    exact fin1 σ2 K2 L2
  rw [if_neg h6] at h
  by_cases h7 : w.op = 7
  · rw [if_pos h7] at h
    simp [h7, hwo]
    refine tg [1] _ _ (.inr ⟨_, rfl⟩) (by simp) h (fun σ1 s1 hb1 K1 L1 hw1 fin1 => ?_) (fun e σ1 hh => by simp; exact hh)
    simp [hw1]
    refine give_calls L1 (by omega) fun σ2 K2 L2 => ?_
    simp
    exact fin1 σ2 K2 L2
  rw [if_neg h7] at h
  by_cases h8 : w.op = 8
  · rw [if_pos h8] at h
    simp [h8, hwo]
    refine tg [1] _ _ (.inr ⟨_, rfl⟩) (by simp) h (fun σ1 s1 hb1 K1 L1 hw1 fin1 => ?_) (fun e σ1 hh => by simp; exact hh)
    simp [hw1]
    refine give_calls L1 (by omega) fun σ2 K2 L2 => ?_
    simp
    exact fin1 σ2 K2 L2
  rw [if_neg h8] at h
  by_cases h9 : w.op = 9
  · rw [if_pos h9] at h
    simp [h9, hwo]
    refine take_calls (ts := [1, w.ty]) (.inr ⟨_, rfl⟩) (by simp) La (by omega) ?_
    have e : [1, w.ty].reverse = [w.ty, 1] := rfl
    rw [e]
    revert h
    cases takeE [w.ty, 1] s with
    | ok s' => intro h σ' K L; simp; exact h σ' (Ka.trans K) L
    | error e => intro h σ' K; simp; exact h σ' (Ka.trans K)
  rw [if_neg h9] at h
  by_cases h10 : w.op = 10
  · rw [if_pos h10] at h
    have hh : (headOf m.funcs w.n).isSome = true := by simpa [rangedB, h1, h2, h3, h10] using hr
    obtain ⟨⟨ts, g⟩, hq⟩ := Option.isSome_iff_exists.1 hh
    rw [hq] at h
    simp only at h
    have htl : ts.length ≤ 2 ^ 30 := by
      unfold headOf at hq
      split at hq
      · cases hq; simp
      · split at hq
        · cases hq; simp
        · split at hq
          · cases hq; simp
          · split at hq
            · cases hq
            · obtain ⟨fn, hfn, e⟩ := Option.map_eq_some_iff.1 hq
              cases e
              exact hps _ (List.mem_of_getElem? hfn)
    have hcw : c ≠ σa.no := by omega
    have hxw' : x ≠ σa.no := by omega
    simp [h10, hwo, ho, hco]
    constructor
    · refine headOf_calls (m := m) ⟨_, rfl, hfs⟩ hn fun v σ1 hv A1 => ?_
      rw [hq] at hv
      obtain ⟨y, rfl, hy⟩ := hv
      have y1 := hy.one
      simp [splice, y1]
      have A2 : Adds σa ((σ1.newO [.nilsl, .int .i64 0]).setO σ1.no [y, .int .i64 g]) := A1.newO.setO A1.no
      have Lb := La.adds A2
      refine tgB (Ka.trans (A2.keepL hx)) Lb σ1.no [y, .int .i64 g] ts y g (by simp) (by simp) (by have := A1.no; omega) hy htl h (fun σ3 s1 hb1 K1 L1 hw1 fin1 => ?_) (fun e σ1 hh => by simp; exact hh)
      simp [hw1]
      refine give_calls L1 (by omega) fun σ2 K2 L2 => ?_
      simp
      exact fin1 σ2 K2 L2
    · have hx2 : x ≠ σ.no := fun q => hxw q.symm
      simp [ho, hco, hcw, hxw', hwo, show σ.no ≠ σa.no from by omega]
      refine headOf_calls (m := m) ⟨_, rfl, hfs⟩ hn fun v σ1 hv A1 => ?_
      rw [hq] at hv
      obtain ⟨y, rfl, hy⟩ := hv
      have y1 := hy.one
      have hnew : σ1.objs σa.no = some [.nilsl, .int .i64 0] := (A1.obj σa.no (by simp)).trans (by simp)
      simp [splice, y1, hnew]
      have hle : σa.no + 1 ≤ σ1.no := by have := A1.no; simpa using this
      have A2 : Adds σa (σ1.setO σa.no [y, .int .i64 g]) := (((Adds.refl σa).newO).trans A1).setO (Nat.le_refl _)
      have Lb := La.adds A2
      refine tgB (Ka.trans (A2.keepL hx)) Lb σa.no [y, .int .i64 g] ts y g (by simp) (by simp; omega) (fun q => hxw' q.symm) hy htl h (fun σ3 s1 hb1 K1 L1 hw1 fin1 => ?_) (fun e σ1 hh => by simp; exact hh)
      simp [hw1]
      refine give_calls L1 (by omega) fun σ2 K2 L2 => ?_
      simp
      exact fin1 σ2 K2 L2
  rw [if_neg h10] at h
  by_cases h18 : w.op = 18
  · rw [if_pos h18] at h
    simp [h18, hwo]
    refine drop_calls La (by omega) ?_
    revert h
    cases dropE s with
    | ok s' => intro h σ' K L; simp; exact h σ' (Ka.trans K) L
    | error e => intro h σ' K; simp; exact h σ' (Ka.trans K)
  rw [if_neg h18] at h
  simp [h1, h2, h3, h4, h5, h6, h7, h8, h9, h10, h18, hwo]
  exact h σa Ka La
end
end Go.Proofs.YthifgodgfhbnfaaDoor
set_option linter.unusedSimpArgs false
set_option linter.unusedVariables false
namespace Go.Proofs.YthifgodgfhbnfaaDoor
open Go Go.Abs
/-- how a function that looks, and leaves all as it is, ends -/
def FinU (R : Out → AS → Prop) (σ : AS) : Res Unit → Prop
  | .ok _ => ∀ σ', Adds σ σ' → R (.ret (.tuple [])) σ'
  | .error e => ∀ σ', Adds σ σ' → R (.panic (stopV e)) σ'
/-- what the looking at lists ahead of the B-th one comes to -/
def LookOk (G : Env) (m : M) (f : F) (ls : List Int) (B : Int) (lk : Look) : Prop := ∀ (c : Nat) (σ : AS) (at_ deep : Int) (R : Out → AS → Prop), CkAt σ c m f ls → 0 ≤ at_ → at_ < B → 0 ≤ deep → deep + at_ ≤ 2 ^ 40 → FinU R σ (lk at_ deep) → ACalls Tryd.prog G 52 [.ptr c 0, .int .i64 at_, .int .i64 deep] σ R
section
variable {G : Env} {σ : AS} {R : Out → AS → Prop} {x c : Nat} {s : St} {deep : Int} {m : M} {f : F} {ls : List Int} {w : W} {lk : Look} {B : Int}
set_option maxRecDepth 20000 in
theorem instr_calls (V : Vars G) (IH : LookOk G m f ls B lk) (L : LS σ x c s deep) (C : CkAt σ c m f ls) (hcx : c ≠ x) (hb : s.stack.length ≤ 2 ^ 38) (hd0 : 0 ≤ deep) (hd1 : deep ≤ 2 ^ 40) (hn : w.n ≤ 2 ^ 63 - 1) (hps : ∀ g ∈ m.funcs, g.params.length ≤ 2 ^ 30)
    (hnm : ∀ n ∈ namesL w, 0 ≤ n ∧ n < B ∧ deep + 1 + n ≤ 2 ^ 40) (h : FinE R x c deep σ (instrE m.funcs ls f.type deep lk w s)) : ACalls Tryd.prog G 73 [.ptr x 0, w.av] σ R := by
  refine calls73 rfl ?_
  have A : Adds σ (σ.newO w.cs) := (Adds.refl σ).newO
  have La := L.adds A
  have Ca := C.adds A
  have Ka := A.keepL L.1
  have hwo : (σ.newO w.cs).objs σ.no = some [.int .i64 w.op, .int .i64 w.ty, .int .i64 w.n, .int .i64 w.body, .int .i64 w.other, .str w.name] := by simp [W.cs]
  have hwl : σ.no < (σ.newO w.cs).no := by simp
  have hxw : σ.no ≠ x := by have := L.1; omega
  have hcs : w.cs = [.int .i64 w.op, .int .i64 w.ty, .int .i64 w.n, .int .i64 w.body, .int .i64 w.other, .str w.name] := rfl
  simp [pc73, W.av, hcs]
  rw [show σ.newO [AV.int IntKind.i64 w.op, AV.int IntKind.i64 w.ty, AV.int IntKind.i64 w.n, AV.int IntKind.i64 w.body, AV.int IntKind.i64 w.other, AV.str w.name] = σ.newO w.cs from rfl]
  rw [show AV.agg [AV.int IntKind.i64 w.op, AV.int IntKind.i64 w.ty, AV.int IntKind.i64 w.n, AV.int IntKind.i64 w.body, AV.int IntKind.i64 w.other, AV.str w.name] = w.av from rfl]
  generalize σ.newO w.cs = σa at *
  unfold instrE at h
  refine form_calls V fun σ1 A1 => ?_
  cases hf : formB w with
  | false =>
    rw [if_pos hf] at h
    simp
    refine must_calls (fun q => by simp at q) fun _ => ?_
    simp
    exact h _ (Ka.trans (A1.keepL La.1))
  | true =>
  rw [if_neg (by rw [hf]; simp)] at h
  have hw1 := (A1.obj σ.no hwl).trans hwo
  simp
  refine must_calls (fun _ => ?_) (fun q => by simp at q)
  simp [hw1]
  rw [show AV.agg [AV.int IntKind.i64 w.op, AV.int IntKind.i64 w.ty, AV.int IntKind.i64 w.n, AV.int IntKind.i64 w.body, AV.int IntKind.i64 w.other, AV.str w.name] = w.av from rfl]
  refine ranged_calls (La.adds A1) (Ca.adds A1) hn fun σ2 A2 => ?_
  have A12 := A1.trans A2
  cases hr : rangedB m.funcs ls deep w with
  | false =>
    rw [if_pos hr] at h
    simp
    refine must_calls (fun q => by simp at q) fun _ => ?_
    simp
    exact h _ (Ka.trans (A12.keepL La.1))
  | true =>
  rw [if_neg (by rw [hr]; simp)] at h
  have hw2 := (A2.obj σ.no (Nat.lt_of_lt_of_le hwl A1.no)).trans hw1
  have L2 := La.adds A12
  have C2 := Ca.adds A12
  have K2 := Ka.trans (A12.keepL La.1)
  have hwl2 : σ.no < σ2.no := Nat.lt_of_lt_of_le hwl A12.no
  simp
  refine must_calls (fun _ => ?_) (fun q => by simp at q)
  simp [hw2]
  clear A1 A2 hw1 hwo A12 Ka La Ca
  have keepW : ∀ {σ3}, KeepL x σ2 σ3 → σ3.objs σ.no = some [.int .i64 w.op, .int .i64 w.ty, .int .i64 w.n, .int .i64 w.body, .int .i64 w.other, .str w.name] := fun K => (K.obj σ.no hwl2 hxw).trans hw2
  have L2' := L2
  have C2' := C2
  obtain ⟨hc2, fsv, pv, lv, tv, lsv, hco, _⟩ := C2'
  obtain ⟨hx2, sv, ho, _⟩ := L2'
  have hwd : IntKind.wrap .i64 (deep + 1) = deep + 1 := by rw [wrap_i64] <;> omega
  by_cases h11 : w.op = 11 ∨ w.op = 12
  · rw [if_pos h11] at h
    have hnn : namesL w = [w.body] := by unfold namesL; rw [if_pos (by omega)]
    rw [hnn] at hnm
    have hb0 := hnm w.body (by simp)
    have go : FinU (ends (fun v σ' => R (.ret (.tuple [])) σ') fun v σ' => R (.panic v) σ') σ2 (lk w.body (deep + 1)) := by
      cases hq : lk w.body (deep + 1) with
      | ok u => rw [hq] at h; intro σ3 A3; simp; exact h σ3 (K2.trans (A3.keepL hx2)) (L2.adds A3)
      | error e => rw [hq] at h; intro σ3 A3; simp; exact h σ3 (K2.trans (A3.keepL hx2))
    rcases h11 with h11 | h11
    · simp [h11, hw2, ho, hco, hwd]
      refine IH c σ2 w.body (deep + 1) _ C2 hb0.1 hb0.2.1 (by omega) hb0.2.2 ?_
      revert go
      cases lk w.body (deep + 1) with
      | ok u => intro go σ3 A3; have := go σ3 A3; simpa using this
      | error e => intro go σ3 A3; have := go σ3 A3; simpa using this
    · simp [h11, hw2, ho, hco, hwd]
      refine IH c σ2 w.body (deep + 1) _ C2 hb0.1 hb0.2.1 (by omega) hb0.2.2 ?_
      revert go
      cases lk w.body (deep + 1) with
      | ok u => intro go σ3 A3; have := go σ3 A3; simpa using this
      | error e => intro go σ3 A3; have := go σ3 A3; simpa using this
  rw [if_neg h11] at h
  have h11a : ¬ w.op = 11 := fun q => h11 (.inl q)
  have h11b : ¬ w.op = 12 := fun q => h11 (.inr q)
  by_cases h13 : w.op = 13
  · rw [if_pos h13] at h
    simp [h13, hw2]
    refine take_calls (ts := [1]) (.inr ⟨_, rfl⟩) (by simp) L2 (by omega) ?_
    rw [show [(1 : Int)].reverse = [1] from rfl]
    cases ht : takeE [1] s with
    | error e =>
      rw [ht] at h
      intro σ3 K3
      simp
      exact h σ3 (K2.trans K3)
    | ok s1 =>
      rw [ht] at h
      simp only at h
      intro σ3 K3 L3
      have C3 := C2.keep K3 hcx
      have hw3 := keepW K3
      have hwl3 : σ.no < σ3.no := Nat.lt_of_lt_of_le hwl2 K3.no
      have C3' := C3
      have L3' := L3
      obtain ⟨hc3, fsv3, pv3, lv3, tv3, lsv3, hco3, _⟩ := C3'
      obtain ⟨hx3, sv3, ho3, _⟩ := L3'
      have hb0 : 0 ≤ w.body ∧ w.body < B ∧ deep + 1 + w.body ≤ 2 ^ 40 := hnm w.body (by
        unfold namesL
        by_cases ho : w.other < 0
        · rw [if_pos (by omega)]; simp
        · rw [if_neg (by omega), if_pos h13]; simp)
      simp [hw3, ho3, hco3, hwd]
      refine IH c σ3 w.body (deep + 1) _ C3 hb0.1 hb0.2.1 (by omega) hb0.2.2 ?_
      cases hq : lk w.body (deep + 1) with
      | error e =>
        rw [hq] at h
        intro σ4 A4
        simp
        exact h σ4 (K2.trans (K3.trans (A4.keepL hx3)))
      | ok u =>
        rw [hq] at h
        simp only at h
        intro σ4 A4
        have hw4 := (A4.obj σ.no hwl3).trans hw3
        have ho4 := (A4.obj x hx3).trans ho3
        have hco4 := (A4.obj c hc3).trans hco3
        have L4 := L3.adds A4
        have C4 := C3.adds A4
        by_cases ho : 0 ≤ w.other
        · rw [if_pos ho] at h
          have hb1 : 0 ≤ w.other ∧ w.other < B ∧ deep + 1 + w.other ≤ 2 ^ 40 := hnm w.other (by unfold namesL; rw [if_neg (by omega), if_pos h13]; simp)
          simp [hw4, ho, ho4, hco4, hwd]
          refine IH c σ4 w.other (deep + 1) _ C4 hb1.1 hb1.2.1 (by omega) hb1.2.2 ?_
          cases hq2 : lk w.other (deep + 1) with
          | error e =>
            rw [hq2] at h
            intro σ5 A5
            simp
            exact h σ5 (K2.trans (K3.trans ((A4.trans A5).keepL hx3)))
          | ok u =>
            rw [hq2] at h
            intro σ5 A5
            simp
            exact h σ5 (K2.trans (K3.trans ((A4.trans A5).keepL hx3))) (L4.adds A5)
        · rw [if_neg ho] at h
          simp [hw4, ho]
          exact h σ4 (K2.trans (K3.trans (A4.keepL hx3))) L4
  rw [if_neg h13] at h
  by_cases h15 : w.op = 15
  · rw [if_pos h15] at h
    simp [h15, hw2]
    refine take_calls (ts := [1]) (.inr ⟨_, rfl⟩) (by simp) L2 (by omega) ?_
    rw [show [(1 : Int)].reverse = [1] from rfl]
    cases ht : takeE [1] s with
    | error e =>
      rw [ht] at h
      intro σ3 K3
      simp
      exact h σ3 (K2.trans K3)
    | ok s1 =>
      rw [ht] at h
      simp only at h
      intro σ3 K3 L3
      have hs1 := takeE_le ht
      have C3 := C2.keep K3 hcx
      have hw3 := keepW K3
      have L3' := L3
      obtain ⟨hx3, sv3, ho3, _⟩ := L3'
      by_cases hq : w.n = deep
      · rw [if_pos hq] at h
        simp [hw3, ho3, hq]
        refine returns_calls L3 C3 (by omega) ?_
        cases hq2 : returnsE f.type s1 with
        | error e =>
          rw [hq2] at h
          intro σ4 K4
          simp
          exact h σ4 (K2.trans (K3.trans K4))
        | ok s2 =>
          rw [hq2] at h
          intro σ4 K4 L4
          have hs2 : s2.stack.length ≤ s1.stack.length := by
            unfold returnsE at hq2
            split at hq2
            · cases hq2; exact Nat.le_refl _
            · exact takeE_le hq2
          have C4 := C3.keep K4 hcx
          have C4' := C4
          have L4' := L4
          obtain ⟨hc4, fsv4, pv4, lv4, tv4, lsv4, hco4, _⟩ := C4'
          obtain ⟨hx4, sv4, ho4, _⟩ := L4'
          simp [ho4, hco4]
          refine give_calls L4 (by omega) fun σ5 K5 L5 => ?_
          simp
          exact h σ5 (K2.trans (K3.trans (K4.trans K5))) L5
      · rw [if_neg hq] at h
        simp [hw3, ho3, hq]
        exact h σ3 (K2.trans K3) L3
  rw [if_neg h15] at h
  have ret : ∀ {R' : Out → AS → Prop}, FinE R' x c deep σ2 (returnsE f.type s) → ACalls Tryd.prog G 74 [.ptr x 0] σ2 R' := fun hh => returns_calls L2 C2 (by omega) hh
  by_cases h14 : w.op = 14
  · rw [if_pos h14] at h
    by_cases hq : w.n = deep
    · rw [if_pos hq] at h
      simp [h14, hw2, ho, hq]
      refine ret ?_
      cases hq2 : returnsE f.type s with
      | error e =>
        rw [hq2] at h
        intro σ4 K4
        simp
        exact h σ4 (K2.trans K4)
      | ok s2 =>
        rw [hq2] at h
        intro σ4 K4 L4
        simp
        refine leaves_calls' L4 fun σ5 K5 L5 => ?_
        simp
        exact h σ5 (K2.trans (K4.trans K5)) L5
    · rw [if_neg hq] at h
      simp [h14, hw2, ho, hq]
      refine leaves_calls' L2 fun σ5 K5 L5 => ?_
      simp
      exact h σ5 (K2.trans K5) L5
  rw [if_neg h14] at h
  by_cases h16 : w.op = 16
  · rw [if_pos h16] at h
    simp [h16, hw2]
    refine ret ?_
    cases hq2 : returnsE f.type s with
    | error e =>
      rw [hq2] at h
      intro σ4 K4
      simp
      exact h σ4 (K2.trans K4)
    | ok s2 =>
      rw [hq2] at h
      intro σ4 K4 L4
      simp
      refine leaves_calls' L4 fun σ5 K5 L5 => ?_
      simp
      exact h σ5 (K2.trans (K4.trans K5)) L5
  rw [if_neg h16] at h
  by_cases h17 : w.op = 17
  · rw [if_pos h17] at h
    simp [h17, hw2]
    refine leaves_calls' L2 fun σ5 K5 L5 => ?_
    simp
    exact h σ5 (K2.trans K5) L5
  rw [if_neg h17] at h
  simp [h11a, h11b, h13, h15, h14, h16, h17, hw2]
  rw [show AV.agg [AV.int IntKind.i64 w.op, AV.int IntKind.i64 w.ty, AV.int IntKind.i64 w.n, AV.int IntKind.i64 w.body, AV.int IntKind.i64 w.other, AV.str w.name] = w.av from rfl]
  refine plain_calls V L2 C2 hcx (by omega) hn hps hf hr ?_
  revert h
  cases plainE m.funcs ls w s with
  | ok s' => intro h σ3 K3 L3; simp; exact h σ3 (K2.trans K3) L3
  | error e => intro h σ3 K3; simp; exact h σ3 (K2.trans K3)
end
end Go.Proofs.YthifgodgfhbnfaaDoor
set_option linter.unusedSimpArgs false
set_option linter.unusedVariables false
namespace Go.Proofs.YthifgodgfhbnfaaDoor
open Go Go.Abs
theorem giveS_le (s : St) (t : Int) : (giveS s t).stack.length ≤ s.stack.length + 1 := by unfold giveS; split <;> simp
theorem gives_le {ts : List Int} {s s' : St} {t : Int} (h : gives (takeE ts s) t = .ok s') : s'.stack.length ≤ s.stack.length + 1 := by
  obtain ⟨s1, e, rfl⟩ : ∃ s1, takeE ts s = .ok s1 ∧ s' = giveS s1 t := by
    cases hq : takeE ts s with
    | error e => rw [hq] at h; cases h
    | ok s1 => rw [hq] at h; cases h; exact ⟨s1, rfl, rfl⟩
  have := takeE_le e
  have := giveS_le s1 t
  omega
theorem plainE_le {fs : List F} {ls : List Int} {w : W} {s s' : St} (h : plainE fs ls w s = .ok s') : s'.stack.length ≤ s.stack.length + 1 := by
  unfold plainE at h
  repeat' split at h
  all_goals first
    | (cases h; first | exact giveS_le _ _ | omega)
    | exact gives_le h
    | (have := takeE_le h; omega)
    | (have := dropE_le h; omega)
theorem returnsE_le {ty : Int} {s s' : St} (h : returnsE ty s = .ok s') : s'.stack.length ≤ s.stack.length := by
  unfold returnsE at h
  split at h
  · cases h; exact Nat.le_refl _
  · exact takeE_le h
theorem instrE_le {fs : List F} {ls : List Int} {ty deep : Int} {lk : Look} {w : W} {s s' : St} (h : instrE fs ls ty deep lk w s = .ok s') : s'.stack.length ≤ s.stack.length + 1 := by
  unfold instrE at h
  by_cases h1 : formB w = false
  · rw [if_pos h1] at h; cases h
  rw [if_neg h1] at h
  by_cases h2 : rangedB fs ls deep w = false
  · rw [if_pos h2] at h; cases h
  rw [if_neg h2] at h
  by_cases h3 : w.op = 11 ∨ w.op = 12
  · rw [if_pos h3] at h
    split at h
    · cases h; omega
    · cases h
  rw [if_neg h3] at h
  by_cases h4 : w.op = 13
  · rw [if_pos h4] at h
    split at h
    · cases h
    · rename_i s1 hs1
      have := takeE_le hs1
      split at h
      · cases h
      · split at h
        · split at h
          · cases h
          · cases h; omega
        · cases h; omega
  rw [if_neg h4] at h
  by_cases h5 : w.op = 15
  · rw [if_pos h5] at h
    split at h
    · cases h
    · rename_i s1 hs1
      have := takeE_le hs1
      split at h
      · cases hq : returnsE ty s1 with
        | error e => rw [hq] at h; cases h
        | ok s2 =>
          rw [hq] at h
          cases h
          have := returnsE_le hq
          have := giveS_le s2 ty
          omega
      · cases h; omega
  rw [if_neg h5] at h
  have hl : leftS.stack.length = 0 := rfl
  by_cases h6 : w.op = 14
  · rw [if_pos h6] at h
    split at h
    · split at h
      · cases h
      · cases h; omega
    · cases h; omega
  rw [if_neg h6] at h
  by_cases h7 : w.op = 16
  · rw [if_pos h7] at h
    split at h
    · cases h
    · cases h; omega
  rw [if_neg h7] at h
  by_cases h8 : w.op = 17
  · rw [if_pos h8] at h; cases h; omega
  rw [if_neg h8] at h
  exact plainE_le h
/-- a module that is small enough, its numbers as Go's -/
structure Small (m : M) : Prop where
  funcs : m.funcs.length ≤ 2 ^ 20
  params : ∀ f ∈ m.funcs, f.params.length ≤ 2 ^ 20
  locals : ∀ f ∈ m.funcs, f.locals.length ≤ 2 ^ 20
  lists : ∀ f ∈ m.funcs, f.lists.length ≤ 2 ^ 20
  rows : ∀ f ∈ m.funcs, ∀ l ∈ f.lists, l.length ≤ 2 ^ 20
  nums : ∀ f ∈ m.funcs, ∀ l ∈ f.lists, ∀ w ∈ l, w.n ≤ 2 ^ 63 - 1
theorem KeepL.made {x : Nat} {σ σ' : AS} {cs : List AV} (K : KeepL x (σ.newO cs) σ') (hx : x = σ.no) (hn : ∀ v f, cs[1]? = some v → famOf v ≠ some f) : Adds σ σ' where
  no := Nat.le_trans (by simp) K.no
  nf := by have := K.nf; simpa using this
  obj o ho := by
    rw [K.obj o (by simp; omega) (by omega)]
    simp; omega
  fam f hf := by
    rw [K.fam f (by simpa using hf) ?_]
    · rfl
    · rintro ⟨cs', v, h1, h2, h3⟩
      subst hx
      simp at h1
      subst h1
      exact hn v f h2 h3
def KI (x c : Nat) (deep : Int) (rv : AV) (row : List W) (σ1 : AS) (run : List W → St → Res St) (a : Nat → AV) (τ : AS) : Prop := ∃ (i : Nat) (s : St), i ≤ row.length ∧ a 2 = .int .i64 deep ∧ a 6 = .ptr x 0 ∧ a 20 = rv ∧ a 21 = .int .i64 (row.length : Int) ∧ a 22 = .int .i64 (i : Int) ∧ LS τ x c s deep ∧ KeepL x σ1 τ ∧ s.stack.length ≤ i ∧
  run (row.drop i) s = run row ⟨[], false⟩
theorem RepL.one {v l} (h : RepL v l) : v.known = true ∧ v.one = true ∧ v.cells = [v] := by
  rcases h with ⟨_, rfl⟩ | ⟨b, rfl⟩ <;> simp
theorem RepL.at {v : AV} {l : List W} (h : RepL v l) {i : Nat} (hi : i < l.length) : ∃ b, ∀ K : AV → Prop, aindexAddr Tryd.prog 38 v (.int .i64 (i : Int)) K = K (.pv (.stat b) l[i].av) := by
  rcases h with ⟨rfl, _⟩ | ⟨b, rfl⟩
  · simp at hi
  · exact ⟨b, fun K => by simp [hi]⟩
theorem look_ok {G : Env} (V : Vars G) {m : M} (sm : Small m) {f : F} (hfm : f ∈ m.funcs) (ha : Ahead f.lists) (ls : List Int) : ∀ k : Nat, LookOk G m f ls (min (k : Int) (f.lists.length : Int)) (lookE m.funcs ls f.type f.lists k)
  | 0 => fun c σ at_ deep R _ h0 h1 => by omega
  | k + 1 => by
    have IH := look_ok V sm hfm ha ls k
    intro c σ at_ deep R C h0 h1 hd0 hd1 h
    refine calls52 rfl ?_
    rw [lookE] at h
    obtain ⟨j, rfl⟩ : ∃ j : Nat, at_ = (j : Int) := ⟨at_.toNat, by omega⟩
    have hj : j < f.lists.length := by omega
    have hjk : j < k + 1 := by omega
    rw [Int.toNat_natCast] at h
    have hrow : f.lists.getD j [] = f.lists[j] := by rw [List.getD_eq_getElem?_getD, List.getElem?_eq_getElem hj]; rfl
    rw [hrow] at h
    have hahead := ha j _ (List.getElem?_eq_getElem hj)
    have hrl := sm.rows f hfm f.lists[j] (List.getElem_mem hj)
    have hnums := sm.nums f hfm f.lists[j] (List.getElem_mem hj)
    have C0 := C
    obtain ⟨hc, fsv, pv, lv, tv, lsv, hco, hfs, hpv, hlv, htv, hls⟩ := C
    rcases htv with ⟨e, _⟩ | ⟨b, rows, rfl, hrows⟩
    · rw [e] at hj; simp at hj
    obtain ⟨rv, hrv, hrep⟩ := hrows.get (List.getElem?_eq_getElem hj)
    generalize f.lists[j] = row at *
    have hlen := hrep.len
    have hcx : c ≠ σ.no := by omega
    simp [pc52, hco, hcx, hrv, hlen, splice]
    refine ⟨hrep.one.2.2, ?_⟩
    generalize hσ1 : σ.newO [AV.ptr c 0, AV.nilsl, AV.bool false, AV.int IntKind.i64 deep] = σ1
    have hno1 : σ1.no = σ.no + 1 := by rw [← hσ1]; simp
    have ho1 : σ1.objs σ.no = some [.ptr c 0, .nilsl, .bool false, .int .i64 deep] := by rw [← hσ1]; simp
    have L1 : LS σ1 σ.no c ⟨[], false⟩ deep := ⟨by omega, _, ho1, .inl ⟨rfl, rfl⟩⟩
    have A1 : Adds σ σ1 := by rw [← hσ1]; exact (Adds.refl σ).newO
    have C1 := C0.adds A1
    have made : ∀ {σ'}, KeepL σ.no σ1 σ' → Adds σ σ' := fun K => by
      rw [← hσ1] at K
      exact K.made rfl fun v f hv hf => by simp at hv; subst hv; simp [famOf] at hf
    refine aloop (KI σ.no c deep rv row σ1 (instrsE m.funcs ls f.type deep (lookE m.funcs ls f.type f.lists k))) (MU 22 (row.length + 1)) ⟨0, ⟨[], false⟩, by omega, by simp, by simp, by simp, by simp, by simp, L1, .refl _ _, by simp, by simp⟩ fun a τ hI => ?_
    obtain ⟨i, s, hi, a2, a6, a20, a21, a22, L, K, hsl, hrun⟩ := hI
    have C2 := C1.keep K hcx
    by_cases hlt : i < row.length
    · obtain ⟨b2, hix2⟩ := hrep.at hlt
      have hlt' : (i : Int) < (row.length : Int) := by omega
      rw [List.drop_eq_getElem_cons hlt, instrsE] at hrun
      simp [pc52_l1, a6, a20, a21, a22, hlt, hix2, W.av, W.cs, splice]
      have hw3 : IntKind.wrap .i64 ((i : Int) + 1) = ((i + 1 : Nat) : Int) := by rw [wrap_i64] <;> omega
      have hmem := List.getElem_mem hlt
      have A3 : Adds τ ((τ.newO [AV.int IntKind.i64 0, AV.int IntKind.i64 0, AV.int IntKind.i64 0, AV.int IntKind.i64 0, AV.int IntKind.i64 0, AV.str []]).setO τ.no row[i].cs) := ((Adds.refl τ).newO).setO (Nat.le_refl _)
      refine instr_calls (w := row[i]) V IH (L.adds A3) (C2.adds A3) hcx (by omega) hd0 (by omega) (hnums _ hmem) (fun g hg => by have := sm.params g hg; omega) (fun n hn => ?_) ?_
      · have := hahead n (List.mem_flatMap.2 ⟨_, hmem, hn⟩)
        exact ⟨this.1, by omega, by omega⟩
      · have KA := K.trans (A3.keepL L.1)
        cases hq : instrE m.funcs ls f.type deep (lookE m.funcs ls f.type f.lists k) row[i] s with
        | error e =>
          rw [hq] at hrun
          simp only at hrun
          rw [← hrun] at h
          intro σ' K'
          simp
          exact h σ' (made (KA.trans K'))
        | ok s' =>
          rw [hq] at hrun
          simp only at hrun
          have hle := instrE_le hq
          intro σ' K' L'
          simp [a22, hw3]
          refine ⟨⟨i + 1, s', by omega, by simp [a2], by simp [a6], by simp [a20], by simp [a21], by simp, L', KA.trans K', by omega, hrun⟩, ?_⟩
          simp only [MU, a22]
          simp; omega
    · have he : i = row.length := by omega
      subst he
      simp [instrsE] at hrun
      rw [← hrun] at h
      simp only at h
      have L' := L
      obtain ⟨hx, sv, ho, hs⟩ := L'
      unfold endE at h
      by_cases hdz : deep = 0
      · rw [if_pos hdz] at h
        simp [pc52_l1, pc52_r1, a2, a6, a21, a22, hdz]
        refine returns_calls (by rw [hdz] at L; exact L) C2 (by omega) ?_
        cases hq : returnsE f.type s with
        | error e =>
          rw [hq] at h
          intro σ' K'
          simp
          exact h σ' (made (K.trans K'))
        | ok s3 =>
          rw [hq] at h
          intro σ' K' L3
          obtain ⟨hx3, sv3, ho3, hs3⟩ := L3
          have hsl3 := hs3.len
          by_cases hz : s3.stack.length = 0
          · simp only [if_pos hz] at h
            have hz' : s3.stack = [] := List.length_eq_zero_iff.1 hz
            simp [a6, ho3, hsl3, hz']
            refine must_calls (fun _ => ?_) (fun q => by simp at q)
            simp
            exact h σ' (made (K.trans K'))
          · simp only [if_neg hz] at h
            have hz' : ¬ s3.stack = [] := fun q => hz (by rw [q]; rfl)
            simp [a6, ho3, hsl3, hz']
            refine must_calls (fun q => by simp at q) (fun _ => ?_)
            simp
            exact h σ' (made (K.trans K'))
      · rw [if_neg hdz] at h
        have hsl3 := hs.len
        by_cases hz : s.stack.length = 0
        · simp only [if_pos hz] at h
          have hz' : s.stack = [] := List.length_eq_zero_iff.1 hz
          simp [pc52_l1, pc52_r1, a2, a6, a21, a22, hdz, ho, hsl3, hz']
          refine must_calls (fun _ => ?_) (fun q => by simp at q)
          simp
          exact h τ (made K)
        · simp only [if_neg hz] at h
          have hz' : ¬ s.stack = [] := fun q => hz (by rw [q]; rfl)
          simp [pc52_l1, pc52_r1, a2, a6, a21, a22, hdz, ho, hsl3, hz']
          refine must_calls (fun q => by simp at q) (fun _ => ?_)
          simp
          exact h τ (made K)
end Go.Proofs.YthifgodgfhbnfaaDoor
set_option linter.unusedSimpArgs false
set_option linter.unusedVariables false
namespace Go.Proofs.YthifgodgfhbnfaaDoor
open Go Go.Abs
theorem names_calls {G : Env} {σ : AS} {R : Out → AS → Prop} {w : W} (h : ∀ v σ', IntsV v (namesL w) → Adds σ σ' → R (.ret v) σ') : ACalls Tryd.prog G 71 [w.av] σ R := by
  refine calls71 rfl ?_
  have A : Adds σ (σ.newO w.cs) := (Adds.refl σ).newO
  simp only [W.cs] at A
  unfold namesL at h
  by_cases h1 : w.op = 11
  · rw [if_pos (.inl h1)] at h
    simp [pc71, W.av, W.cs, h1]
    exact h _ _ (.inr ⟨_, rfl⟩) (by simpa [h1] using A)
  by_cases h2 : w.op = 12
  · rw [if_pos (.inr (.inl h2))] at h
    simp [pc71, W.av, W.cs, h2]
    exact h _ _ (.inr ⟨_, rfl⟩) (by simpa [h2] using A)
  by_cases h3 : w.op = 13
  · by_cases ho : w.other < 0
    · rw [if_pos (.inr (.inr ⟨h3, ho⟩))] at h
      simp [pc71, W.av, W.cs, h3, ho]
      exact h _ _ (.inr ⟨_, rfl⟩) (by simpa [h3] using A)
    · rw [if_neg (by omega), if_pos h3] at h
      simp [pc71, W.av, W.cs, h3, ho]
      exact h _ _ (.inr ⟨_, rfl⟩) (by simpa [h3] using A)
  · rw [if_neg (by omega), if_neg h3] at h
    simp [pc71, W.av, W.cs, h1, h2, h3]
    exact h _ _ (.inl ⟨rfl, rfl⟩) A
@[simp] theorem aeq_bool4 (x y : Bool) : aeq Tryd.prog 4 (.bool x) (.bool y) = some (x == y) := by simp [aeq, aeq1, show Tryd.prog.underlying 4 = some .bool from by kernel_rfl]
@[simp] theorem callable49 : callable Tryd.prog 49 = true := by kernel_rfl
def boolsA (l : List Bool) : List AV := l.map AV.bool
def CI (σ : AS) (o len : Nat) (named : List Bool) (a : Nat → AV) (τ : AS) : Prop := ∃ i : Nat, i ≤ len ∧ a 0 = .slm o 0 1 len ∧ a 1 = .bool false ∧ a 7 = .int .i64 (len : Int) ∧ a 8 = .int .i64 (i : Int) ∧ τ = σ ∧ ∀ j, j < i → named[j]? = some true
theorem contains_false {G : Env} {σ : AS} {R : Out → AS → Prop} {o len : Nat} {named : List Bool} (ho : σ.objs o = some (boolsA named)) (hl : len ≤ named.length) (hb : len ≤ 2 ^ 40) (h : R (.ret (.bool (!(named.take len).all (· == true)))) σ) : ACalls Tryd.prog G 72 [.slm o 0 1 len, .bool false] σ R := by
  refine calls72 rfl ?_
  simp [pc72]
  refine calls85 rfl ?_
  simp [pc85]
  refine aloop (CI σ o len named) (MU 8 (len + 1)) ⟨0, by omega, by simp, by simp, by simp, by simp, rfl, fun j hj => by omega⟩ fun a τ hI => ?_
  obtain ⟨i, hi, a0, a1, a7, a8, rfl, hall⟩ := hI
  have hw3 : IntKind.wrap .i64 ((i : Int) + 1) = ((i + 1 : Nat) : Int) := by rw [wrap_i64] <;> omega
  by_cases hlt : i < len
  · have hlt' : (i : Int) < (len : Int) := by omega
    have hin : i < named.length := by omega
    have hget : (boolsA named)[i]? = some (.bool named[i]) := by simp [boolsA, hin]
    have hge : ∀ q : i < (boolsA named).length, (boolsA named)[i]'q = .bool named[i] := fun q => by rw [List.getElem?_eq_getElem q] at hget; exact Option.some.inj hget
    have hlb : i < (boolsA named).length := by simp [boolsA]; exact hin
    cases hv : named[i] with
    | true =>
      rw [hv] at hget hge
      simp [pc85_l1, a0, a1, a7, a8, hlt, ho, hlb, hge, hw3]
      refine ⟨⟨i + 1, by omega, by simp [a0], by simp [a1], by simp [a7], by simp, rfl, fun j hj => ?_⟩, ?_⟩
      · by_cases e : j = i
        · subst e; rw [List.getElem?_eq_getElem hin, hv]
        · exact hall j (by omega)
      · simp only [MU, a8]; simp; omega
    | false =>
      rw [hv] at hget hge
      have e : (!(named.take len).all (· == true)) = true := by
        rw [Bool.not_eq_true', List.all_eq_false]
        exact ⟨false, List.mem_iff_getElem.2 ⟨i, by rw [List.length_take]; omega, by rw [List.getElem_take]; exact hv⟩, by simp⟩
      rw [e] at h
      simp [pc85_l1, a0, a1, a7, a8, hlt, ho, hlb, hge]
      exact h
  · have he : i = len := by omega
    subst he
    have e : (!(named.take i).all (· == true)) = false := by
      rw [Bool.not_eq_false', List.all_eq_true]
      intro b hb
      obtain ⟨j, hj, rfl⟩ := List.mem_iff_getElem.1 hb
      rw [List.length_take] at hj
      have := hall j (by omega)
      rw [List.getElem?_eq_getElem (by omega)] at this
      rw [List.getElem_take]
      simp [Option.some.inj this]
    rw [e] at h
    simp [pc85_l1, pc85_r1, a7, a8]
    exact h
def FI (σ : AS) (v : AV) (ls : List Int) (a : Nat → AV) (τ : AS) : Prop := ∃ i : Nat, i ≤ ls.length ∧ a 0 = v ∧ a 1 = .fn (.func 49) [] [] ∧ a 7 = .int .i64 (ls.length : Int) ∧ a 8 = .int .i64 (i : Int) ∧ τ = σ ∧ ∀ j, j < i → ∃ t, ls[j]? = some t ∧ numberB t = true
theorem containsFunc_calls {G : Env} {σ : AS} {R : Out → AS → Prop} {v : AV} {ls : List Int} (hv : IntsV v ls) (hb : ls.length ≤ 2 ^ 40) (h : R (.ret (.bool (!ls.all numberB))) σ) : ACalls Tryd.prog G 48 [v, .fn (.func 49) [] []] σ R := by
  refine calls48 rfl ?_
  simp [pc48]
  refine calls70 rfl ?_
  simp [pc70, hv.len]
  refine aloop (FI σ v ls) (MU 8 (ls.length + 1)) ⟨0, by omega, by simp, by simp, by simp, by simp, rfl, fun j hj => by omega⟩ fun a τ hI => ?_
  obtain ⟨i, hi, a0, a1, a7, a8, rfl, hall⟩ := hI
  have hw3 : IntKind.wrap .i64 ((i : Int) + 1) = ((i + 1 : Nat) : Int) := by rw [wrap_i64] <;> omega
  by_cases hlt : i < ls.length
  · rcases hv with ⟨rfl, _⟩ | ⟨b, rfl⟩
    · simp at hlt
    simp [pc70_l1, a0, a1, a7, a8, hlt]
    refine calls49 rfl ?_
    simp [pc49]
    refine number_calls ?_
    cases hn : numberB ls[i] with
    | true =>
      simp [a8, hw3]
      refine ⟨⟨i + 1, by omega, by simp [a0], by simp [a1], by simp [a7], by simp, rfl, fun j hj => ?_⟩, ?_⟩
      · by_cases e : j = i
        · subst e; exact ⟨_, List.getElem?_eq_getElem hlt, hn⟩
        · exact hall j (by omega)
      · simp only [MU, a8]; simp; omega
    | false =>
      have e : (!ls.all numberB) = true := by
        rw [Bool.not_eq_true', List.all_eq_false]
        exact ⟨_, List.getElem_mem hlt, by simp [hn]⟩
      rw [e] at h
      simp [a8]
      exact h
  · have he : i = ls.length := by omega
    subst he
    have e : (!ls.all numberB) = false := by
      rw [Bool.not_eq_false', List.all_eq_true]
      intro t ht
      obtain ⟨j, hj, rfl⟩ := List.mem_iff_getElem.1 ht
      obtain ⟨t, h1, h2⟩ := hall j hj
      rw [List.getElem?_eq_getElem hj] at h1
      cases h1
      exact h2
    rw [e] at h
    simp [pc70_l1, pc70_r1, a7, a8]
    exact h
theorem concat_calls {G : Env} {σ : AS} {R : Out → AS → Prop} {pv lv : AV} {p l : List Int} (hp : IntsV pv p) (hl : IntsV lv l) (hb : p.length + l.length ≤ 2 ^ 30) (h : ∀ v σ', IntsV v (p ++ l) → Adds σ σ' → R (.ret v) σ') : ACalls Tryd.prog G 47 [.sl (.stat true) 1 [pv, lv]] σ R := by
  refine freezing (calls47 rfl ?_)
  have p1 := hp.one
  have l1 := hl.one
  have hpl := hp.len
  have hll := hl.len
  have w1 : IntKind.wrap .i64 (p.length : Int) = (p.length : Int) := by rw [wrap_i64] <;> omega
  have w2 : IntKind.wrap .i64 ((p.length : Int) + (l.length : Int)) = (p.length : Int) + (l.length : Int) := by rw [wrap_i64] <;> omega
  have w3 : IntKind.wrap .i64 1 = 1 := rfl
  have w4 : IntKind.wrap .i64 2 = 2 := rfl
  have n1 : ¬ (p.length : Int) < 0 := by omega
  have n2 : ¬ (p.length : Int) + (l.length : Int) < 0 := by omega
  simp [pc47]
  refine aloop_rounds 3 ?_
  simp [pc47_l1, p1, l1, hpl, hll, w1, w2, w3, w4, n1, n2, pc47_r1, pc47_r2]
  have hgrow : ∀ {R' : Out → AS → Prop}, (p.length + l.length = 0 → R' (.ret .nilsl) σ) → (0 < p.length + l.length → R' (.ret (.sl (.fam σ.nf false) 1 [])) σ.newF) → ACalls Tryd.prog G 69 [.nilsl, .int .i64 ((p.length : Int) + (l.length : Int))] σ R' := by
    intro R' g0 g1
    refine calls69 rfl ?_
    have w5 : IntKind.wrap .i64 0 = 0 := rfl
    by_cases hz : p.length + l.length = 0
    · have hz' : ¬ (0 : Int) < (p.length : Int) + (l.length : Int) := by omega
      simp [pc69, n2, w5, w2, hz']
      exact g0 hz
    · have hz' : (0 : Int) < (p.length : Int) + (l.length : Int) := by omega
      obtain ⟨n, hn⟩ : ∃ n, ((p.length : Int) + (l.length : Int)).toNat = n + 1 := ⟨((p.length : Int) + (l.length : Int)).toNat - 1, by omega⟩
      simp [pc69, n2, w5, w2, hz', hn, List.replicate_succ, bounds, optInt]
      exact ⟨by omega, by omega, by omega, by omega, g1 (by omega)⟩
  refine hgrow (fun hz => ?_) (fun hz => ?_)
  · have e1 : p = [] := List.length_eq_zero_iff.1 (by omega)
    have e2 : l = [] := List.length_eq_zero_iff.1 (by omega)
    subst e1 e2
    have := h .nilsl σ (.inl ⟨rfl, rfl⟩) (.refl _)
    have sta : ∀ K : AV → AS → Prop, ∀ v, IntsV v [] → aappend Tryd.prog 34 34 .nilsl v σ K = K .nilsl σ := by
      intro K v hv
      rcases hv with ⟨_, rfl⟩ | ⟨b, rfl⟩ <;> simp
    simp
    refine aloop_rounds 3 ?_
    rcases hp with ⟨_, rfl⟩ | ⟨b, rfl⟩ <;> rcases hl with ⟨_, rfl⟩ | ⟨b', rfl⟩ <;> simp [pc47_l2, pc47_r1, w3, w4] <;> exact .inl this
  · simp
    refine aloop_rounds 3 ?_
    have fin : ∀ σ', Adds σ σ' → ∀ g, σ.nf ≤ g → σ'.F g = .alive → FrzOr R (.ret (.sl (.fam g false) 1 ((p ++ l).map (.int .i64)))) σ' := by
      intro σ' A' g hg ha
      refine .froze g (fun _ => false) ha ?_
      have := h (.sl (.stat false) 1 ((p ++ l).map (.int .i64))) (σ'.frz g fun _ => false) (.inr ⟨_, rfl⟩) (A'.frz hg fun _ _ => rfl)
      simpa [Function.comp_def] using this
    have A3 : Adds σ ((σ.newF.setF σ.nf FSt.dead).newF.setF (σ.nf + 1) FSt.dead).newF := ((((Adds.refl σ).newF.setF (Nat.le_refl _)).newF).setF (by omega)).newF
    have key := fin _ A3 (σ.nf + 1 + 1) (by omega) (by simp)
    rcases hp with ⟨rfl, rfl⟩ | ⟨b, rfl⟩ <;> rcases hl with ⟨rfl, rfl⟩ | ⟨b', rfl⟩ <;> simp [pc47_l2, pc47_r1, w3, w4]
    · simp at hz
    · exact ⟨by simp at hb; omega, by simpa using key⟩
    · exact ⟨by simp at hb; omega, by simpa using key⟩
    · exact ⟨by omega, by omega, by simpa using key⟩
end Go.Proofs.YthifgodgfhbnfaaDoor
set_option linter.unusedSimpArgs false
set_option linter.unusedVariables false
namespace Go.Proofs.YthifgodgfhbnfaaDoor
open Go Go.Abs
theorem nameE_len {a n : Int} {named named' : List Bool} (h : nameE a named n = .ok named') : named'.length = named.length := by
  unfold nameE at h
  split at h
  · cases h; simp
  · cases h
/-- what a run over the names leaves: the rows' rest, the row's rest -/
structure NS (σ1 : AS) (o : Nat) (named : List Bool) (L : Nat) (τ : AS) : Prop where
  obj : τ.objs o = some (boolsA named)
  len : named.length = L
  no : σ1.no ≤ τ.no
  nf : σ1.nf ≤ τ.nf
  oth : ∀ p, p < σ1.no → p ≠ o → τ.objs p = σ1.objs p
  fam : ∀ f, f < σ1.nf → τ.F f = σ1.F f
theorem NS.adds {σ1 o named L τ τ'} (h : NS σ1 o named L τ) (ho : o < σ1.no) (A : Adds τ τ') : NS σ1 o named L τ' where
  obj := (A.obj o (Nat.lt_of_lt_of_le ho h.no)).trans h.obj
  len := h.len
  no := Nat.le_trans h.no A.no
  nf := Nat.le_trans h.nf A.nf
  oth p hp hne := (A.obj p (Nat.lt_of_lt_of_le hp h.no)).trans (h.oth p hp hne)
  fam f hf := (A.fam f (Nat.lt_of_lt_of_le hf h.nf)).trans (h.fam f hf)
theorem NS.set {σ1 o named named' L τ} (h : NS σ1 o named L τ) (hl : named'.length = L) : NS σ1 o named' L (τ.setO o (boolsA named')) where
  obj := by simp
  len := hl
  no := h.no
  nf := h.nf
  oth p hp hne := by simp [hne]; exact h.oth p hp hne
  fam f hf := h.fam f hf
def thenE {α β : Type} (r : Res α) (k : α → Res β) : Res β := match r with
  | .error e => .error e
  | .ok a => k a
theorem namesE_then (a n : Int) (ns : List Int) (named : List Bool) : namesE a (n :: ns) named = thenE (nameE a named n) fun m => namesE a ns m := by
  rw [namesE]; unfold thenE; cases nameE a named n <;> rfl
theorem rowE_then (a : Int) (w : W) (ws : List W) (named : List Bool) : rowE a (w :: ws) named = thenE (namesE a (namesL w) named) fun m => rowE a ws m := by
  rw [rowE]; unfold thenE; cases namesE a (namesL w) named <;> rfl
theorem rowsE_then (k : Nat) (l : List W) (ls : To) (named : List Bool) : rowsE k (l :: ls) named = thenE (rowE (k : Int) l named) fun m => rowsE (k + 1) ls m := by
  rw [rowsE]; unfold thenE; cases rowE (k : Int) l named <;> rfl
def NI3 (σ1 : AS) (o L : Nat) (tv : AV) (ls : To) (goal : Res (List Bool)) (a : Nat → AV) (τ : AS) : Prop := ∃ (i : Nat) (named : List Bool), i ≤ ls.length ∧ a 2 = .slm o 0 1 L ∧ a 28 = tv ∧ a 29 = .int .i64 (ls.length : Int) ∧ a 30 = .int .i64 (i : Int) ∧ NS σ1 o named L τ ∧ rowsE i (ls.drop i) named = goal
def NI2 (σ1 : AS) (o L : Nat) (tv : AV) (ls : To) (k : Nat) (rv : AV) (row : List W) (goal : Res (List Bool)) (a : Nat → AV) (τ : AS) : Prop := ∃ (j : Nat) (named : List Bool), j ≤ row.length ∧ a 2 = .slm o 0 1 L ∧ a 28 = tv ∧ a 29 = .int .i64 (ls.length : Int) ∧ a 30 = .int .i64 (k : Int) ∧ a 3 = .int .i64 (k : Int) ∧ a 35 = rv ∧ a 36 = .int .i64 (row.length : Int) ∧ a 37 = .int .i64 (j : Int) ∧ NS σ1 o named L τ ∧
  thenE (rowE (k : Int) (row.drop j) named) (fun n => rowsE (k + 1) (ls.drop (k + 1)) n) = goal
def NI1 (σ1 : AS) (o L : Nat) (tv : AV) (ls : To) (k : Nat) (rv : AV) (row : List W) (j : Nat) (nv : AV) (ns : List Int) (goal : Res (List Bool)) (a : Nat → AV) (τ : AS) : Prop := ∃ (q : Nat) (named : List Bool), q ≤ ns.length ∧ a 2 = .slm o 0 1 L ∧ a 28 = tv ∧ a 29 = .int .i64 (ls.length : Int) ∧ a 30 = .int .i64 (k : Int) ∧ a 3 = .int .i64 (k : Int) ∧ a 35 = rv ∧ a 36 = .int .i64 (row.length : Int) ∧ a 37 = .int .i64 (j : Int) ∧
  a 42 = nv ∧ a 43 = .int .i64 (ns.length : Int) ∧ a 44 = .int .i64 (q : Int) ∧ NS σ1 o named L τ ∧
  thenE (thenE (namesE (k : Int) (ns.drop q) named) fun n => rowE (k : Int) (row.drop (j + 1)) n) (fun n => rowsE (k + 1) (ls.drop (k + 1)) n) = goal
theorem IntsV.at {v : AV} {l : List Int} (h : IntsV v l) {i : Nat} (hi : i < l.length) : ∃ b, ∀ K : AV → Prop, aindexAddr Tryd.prog 34 v (.int .i64 (i : Int)) K = K (.pv (.stat b) (.int .i64 l[i])) := by
  rcases h with ⟨rfl, _⟩ | ⟨b, rfl⟩
  · simp at hi
  · exact ⟨b, fun K => by simp [hi]⟩
theorem ListsV.at {v : AV} {l : To} (h : ListsV v l) {i : Nat} (hi : i < l.length) : ∃ b rv, RepL rv l[i] ∧ ∀ K : AV → Prop, aindexAddr Tryd.prog 35 v (.int .i64 (i : Int)) K = K (.pv (.stat b) rv) := by
  rcases h with ⟨rfl, _⟩ | ⟨b, rows, rfl, hr⟩
  · simp at hi
  · obtain ⟨rv, h1, h2⟩ := hr.get (List.getElem?_eq_getElem hi)
    exact ⟨b, rv, h2, fun K => by simp [h1]⟩
theorem splice_bool {named : List Bool} {n : Nat} (h : n < named.length) (b : Bool) : splice (boolsA named) n [.bool b] = boolsA (named.set n b) := by
  unfold splice boolsA
  rw [List.set_eq_take_append_cons_drop, if_pos h]
  simp
set_option maxRecDepth 20000 in
theorem clists_calls {G : Env} (V : Vars G) {σ : AS} {R : Out → AS → Prop} {c : Nat} {m : M} {f : F} {ls0 : List Int} (C : CkAt σ c m f ls0) (hb : f.lists.length ≤ 2 ^ 20) (hrows : ∀ l ∈ f.lists, l.length ≤ 2 ^ 20) (h : FinU R σ (listsE f.lists)) : ACalls Tryd.prog G 51 [.ptr c 0] σ R := by
  refine calls51 rfl ?_
  obtain ⟨hc, fsv, pv, lv, tv, lsv, hco, hfs, hpv, hlv, htv, hls⟩ := C
  have hlen := htv.len
  unfold listsE at h
  by_cases hz : f.lists.length = 0
  · rw [if_pos hz] at h
    have hz' : f.lists = [] := List.length_eq_zero_iff.1 hz
    simp [pc51, hco, hlen, hz']
    refine must_calls (fun q => by simp at q) (fun _ => ?_)
    simp
    exact h σ (.refl _)
  · rw [if_neg hz] at h
    have hz' : ¬ f.lists = [] := fun q => hz (by rw [q]; rfl)
    have hpos : 0 < f.lists.length := by omega
    simp [pc51, hco, hlen, hz', hpos]
    refine must_calls (fun _ => ?_) (fun q => by simp at q)
    simp [hco, hlen]
    have hto : ((f.lists.length : Int)).toNat = f.lists.length := by omega
    generalize hgoal : rowsE 0 f.lists (List.replicate f.lists.length false) = goal at h
    refine ⟨1, 1, .bool false, by simp, by simp, by simp, rfl, rfl, rfl, by omega, by omega, by omega, ?_⟩
    have hflat : flat (List.replicate f.lists.length (AV.bool false)) = boolsA (List.replicate f.lists.length false) := by
      unfold flat boolsA
      induction f.lists.length with
      | zero => rfl
      | succ n ih => rw [List.replicate_succ, List.replicate_succ, List.flatMap_cons, List.map_cons, ih]; rfl
    have hcn : c ≠ σ.no := by omega
    simp [hflat, hcn, hco, hlen]
    generalize hσ1 : σ.newO (boolsA (List.replicate f.lists.length false)) = σ1
    have hno1 : σ1.no = σ.no + 1 := by rw [← hσ1]; simp
    have A1 : Adds σ σ1 := by rw [← hσ1]; exact (Adds.refl σ).newO
    have N1 : NS σ1 σ.no (List.replicate f.lists.length false) f.lists.length σ1 := ⟨by rw [← hσ1]; simp, by simp, Nat.le_refl _, Nat.le_refl _, fun _ _ _ => rfl, fun _ _ => rfl⟩
    have toA : ∀ {named τ}, NS σ1 σ.no named f.lists.length τ → Adds σ τ := fun N => ⟨by have := N.no; omega, Nat.le_trans A1.nf N.nf, fun o ho => (N.oth o (by omega) (by omega)).trans (A1.obj o ho), fun g hg => (N.fam g (Nat.lt_of_lt_of_le hg A1.nf)).trans (A1.fam g hg)⟩
    refine aloop (NI3 σ1 σ.no f.lists.length tv f.lists goal) (MU 30 (f.lists.length + 1)) ⟨0, _, by omega, by simp, by simp, by simp, by simp, N1, by simpa using hgoal⟩ fun a τ hI => ?_
    obtain ⟨i, named0, hi, a2, a28, a29, a30, N0, hg0⟩ := hI
    by_cases hlt : i < f.lists.length
    · obtain ⟨b, rv, hrep, hix⟩ := htv.at hlt
      have hrl := hrows _ (List.getElem_mem hlt)
      rw [List.drop_eq_getElem_cons hlt, rowsE_then] at hg0
      generalize f.lists[i] = row at *
      have hrlen := hrep.len
      have hr1 := hrep.one
      have hlt' : (i : Int) < (f.lists.length : Int) := by omega
      simp [pc51_l3, a2, a28, a29, a30, hlt, hix, hr1, hrlen]
      refine aloop (NI2 σ1 σ.no f.lists.length tv f.lists i rv row goal) (MU 37 (row.length + 1)) ⟨0, named0, by omega, by simp [a2], by simp [a28], by simp [a29], by simp [a30], by simp, by simp, by simp, by simp, N0, by simpa using hg0⟩ fun b ρ hI => ?_
      obtain ⟨j, named1, hj, b2, b28, b29, b30, b3, b35, b36, b37, N2, hg1⟩ := hI
      by_cases hjl : j < row.length
      · obtain ⟨q2, hix2⟩ := hrep.at hjl
        rw [List.drop_eq_getElem_cons hjl, rowE_then] at hg1
        simp [pc51_l2, b35, b36, b37, hjl, hix2, W.av, W.cs, splice]
        rw [show AV.agg [AV.int IntKind.i64 row[j].op, AV.int IntKind.i64 row[j].ty, AV.int IntKind.i64 row[j].n, AV.int IntKind.i64 row[j].body, AV.int IntKind.i64 row[j].other, AV.str row[j].name] = row[j].av from rfl]
        refine names_calls fun nv σ3 hnv A3 => ?_
        have A3' : Adds ρ σ3 := (((Adds.refl ρ).newO).setO (Nat.le_refl _)).trans A3
        have N3 := N2.adds (by omega) A3'
        have hnl := hnv.len
        simp [hnl]
        refine aloop (NI1 σ1 σ.no f.lists.length tv f.lists i rv row j nv (namesL row[j]) goal) (MU 44 ((namesL row[j]).length + 1)) ⟨0, named1, by omega, by simp [b2], by simp [b28], by simp [b29], by simp [b30], by simp [b3], by simp [b35], by simp [b36], by simp [b37], by simp, by simp, by simp, N3, by simpa using hg1⟩ fun d π hI => ?_
        obtain ⟨q, named, hq, d2, d28, d29, d30, d3, d35, d36, d37, d42, d43, d44, N, hg⟩ := hI
        have ho := N.obj
        have hnlen := N.len
        have hbl : (boolsA named).length = f.lists.length := by simp [boolsA, hnlen]
        by_cases hql : q < (namesL row[j]).length
        · obtain ⟨q3, hix3⟩ := hnv.at hql
          rw [List.drop_eq_getElem_cons hql, namesE_then] at hg
          have hw3 : IntKind.wrap .i64 ((q : Int) + 1) = ((q + 1 : Nat) : Int) := by
            have : (namesL row[j]).length ≤ 2 := by unfold namesL; split <;> (try split) <;> simp
            rw [wrap_i64] <;> omega
          generalize hn : (namesL row[j])[q] = n at *
          by_cases hok : 0 ≤ n ∧ n < (i : Int)
          · have hnl2 : n.toNat < f.lists.length := by omega
            have hnn : n.toNat < named.length := by omega
            have hget : (boolsA named)[n.toNat]? = some (.bool named[n.toNat]) := by simp [boolsA, hnn]
            have hge : ∀ p : n.toNat < (boolsA named).length, (boolsA named)[n.toNat]'p = .bool named[n.toNat] := fun p => by rw [List.getElem?_eq_getElem p] at hget; exact Option.some.inj hget
            have hlb : n.toNat < (boolsA named).length := by omega
            have hgd : named.getD n.toNat true = named[n.toNat] := by rw [List.getD_eq_getElem?_getD, List.getElem?_eq_getElem hnn]; rfl
            have hnL : n < (f.lists.length : Int) := by omega
            cases hv : named[n.toNat] with
            | true =>
              have hE : nameE (i : Int) named n = .error 11 := by unfold nameE; rw [if_neg (by rw [hgd, hv]; simp)]
              rw [hE] at hg
              simp [thenE] at hg
              rw [← hg] at h
              rw [hv] at hget hge
              simp [pc51_l1, d2, d3, d42, d43, d44, hql, hix3, hok.1, hok.2, ho, hlb, hge, hnL]
              refine must_calls (fun q => by simp at q) (fun _ => ?_)
              simp
              exact h _ (toA N)
            | false =>
              have hE : nameE (i : Int) named n = .ok (named.set n.toNat true) := by unfold nameE; rw [if_pos ⟨hok.1, hok.2, by rw [hgd, hv]⟩]
              rw [hE] at hg
              simp only [thenE] at hg
              rw [hv] at hget hge
              simp [pc51_l1, d2, d3, d42, d43, d44, hql, hix3, hok.1, hok.2, ho, hlb, hge, hnL]
              refine must_calls (fun _ => ?_) (fun q => by simp at q)
              simp [d2, d44, hok.1, hnL, ho, hlb, hw3]
              rw [splice_bool hnn]
              refine ⟨hlb, ⟨q + 1, named.set n.toNat true, by omega, by simp [d2], by simp [d28], by simp [d29], by simp [d30], by simp [d3], by simp [d35], by simp [d36], by simp [d37], by simp [d42], by simp [d43], by simp, N.set (by simp [hnlen]), hg⟩, ?_⟩
              simp only [MU, d44]; simp; omega
          · have hE : nameE (i : Int) named n = .error 11 := by unfold nameE; rw [if_neg (fun q => hok ⟨q.1, q.2.1⟩)]
            rw [hE] at hg
            simp [thenE] at hg
            rw [← hg] at h
            by_cases h0 : 0 ≤ n
            · have h1 : ¬ n < (i : Int) := fun q => hok ⟨h0, q⟩
              simp [pc51_l1, d2, d3, d42, d43, d44, hql, hix3, h0, h1]
              refine must_calls (fun q => by simp at q) (fun _ => ?_)
              simp
              exact h _ (toA N)
            · simp [pc51_l1, d2, d3, d42, d43, d44, hql, hix3, h0]
              refine must_calls (fun q => by simp at q) (fun _ => ?_)
              simp
              exact h _ (toA N)
        · have he : q = (namesL row[j]).length := by omega
          subst he
          have hnil : (namesL row[j]).drop (namesL row[j]).length = [] := by simp
          rw [hnil] at hg
          simp only [namesE, thenE] at hg
          have hw3 : IntKind.wrap .i64 ((j : Int) + 1) = ((j + 1 : Nat) : Int) := by rw [wrap_i64] <;> omega
          simp [pc51_l1, pc51_r1, d37, d43, d44, hw3]
          refine ⟨⟨j + 1, named, by omega, by simp [d2], by simp [d28], by simp [d29], by simp [d30], by simp [d3], by simp [d35], by simp [d36], by simp, N, hg⟩, ?_⟩
          simp only [MU, b37]; simp; omega
      · have he : j = row.length := by omega
        subst he
        have hnil : row.drop row.length = [] := by simp
        rw [hnil] at hg1
        simp only [rowE, thenE] at hg1
        have hw3 : IntKind.wrap .i64 ((i : Int) + 1) = ((i + 1 : Nat) : Int) := by rw [wrap_i64] <;> omega
        simp [pc51_l2, pc51_r2, b30, b36, b37, hw3]
        refine ⟨⟨i + 1, named1, by omega, by simp [b2], by simp [b28], by simp [b29], by simp, N2, hg1⟩, ?_⟩
        simp only [MU, a30]; simp; omega
    · have he : i = f.lists.length := by omega
      subst he
      have hnil : f.lists.drop f.lists.length = [] := by simp
      rw [hnil] at hg0
      simp only [rowsE] at hg0
      rw [← hg0] at h
      simp only at h
      have hw3 : IntKind.wrap .i64 ((f.lists.length : Int) - 1) = ((f.lists.length - 1 : Nat) : Int) := by rw [wrap_i64] <;> omega
      simp [pc51_l3, pc51_r3, a2, a29, a30, hw3]
      refine contains_false N0.obj (by rw [N0.len]; omega) (by omega) ?_
      cases hq : (named0.take (f.lists.length - 1)).all (· == true) with
      | true =>
        rw [if_pos hq] at h
        simp
        refine must_calls (fun _ => ?_) (fun q => by simp at q)
        simp
        exact h _ (toA N0)
      | false =>
        rw [if_neg (by rw [hq]; simp)] at h
        simp
        refine must_calls (fun q => by simp at q) (fun _ => ?_)
        simp
        exact h _ (toA N0)
end Go.Proofs.YthifgodgfhbnfaaDoor
set_option linter.unusedSimpArgs false
set_option linter.unusedVariables false
namespace Go.Proofs.YthifgodgfhbnfaaDoor
open Go Go.Abs
theorem function_calls {G : Env} (V : Vars G) {m : M} (sm : Small m) {f : F} (hfm : f ∈ m.funcs) {σ0 σ : AS} {R : Out → AS → Prop} {c : Nat} (A0 : Adds σ0 σ) (hc0 : σ0.no ≤ c) (C : CkAt σ c m f []) (h : FinU R σ0 (functionE m.funcs f)) : ACalls Tryd.prog G 30 [.ptr c 0] σ R := by
  refine calls30 rfl ?_
  have C0 := C
  obtain ⟨hc, fsv, pv, lv, tv, lsv, hco, hfs, hpv, hlv, htv, hls⟩ := C
  have p1 := hpv.one
  have l1 := hlv.one
  have hpb := sm.params f hfm
  have hlb := sm.locals f hfm
  simp [pc30, hco, p1, l1]
  refine concat_calls hpv hlv (by omega) fun v σ1 hv A1 => ?_
  have v1 := hv.one
  have hco1 := (A1.obj c hc).trans hco
  simp [hco1, v1, splice]
  generalize hσ2 : σ1.setO c [fsv, AV.int IntKind.i64 m.memory, AV.int IntKind.i64 m.main, AV.str f.name, pv, lv, AV.int IntKind.i64 f.type, tv, v] = σ2
  have hc1 : c < σ1.no := Nat.lt_of_lt_of_le hc A1.no
  have hco2 : σ2.objs c = some [fsv, .int .i64 m.memory, .int .i64 m.main, .str f.name, pv, lv, .int .i64 f.type, tv, v] := by rw [← hσ2]; simp
  have A2 : Adds σ0 σ2 := by rw [← hσ2]; exact (A0.trans A1).setO hc0
  have C2 : CkAt σ2 c m f (f.params ++ f.locals) := ⟨by rw [← hσ2]; simpa using hc1, _, _, _, _, _, hco2, hfs, hpv, hlv, htv, hv⟩
  unfold functionE at h
  have hll := sm.lists f hfm
  refine containsFunc_calls hv (by simp; omega) ?_
  have fail : ((f.params ++ f.locals).all numberB && decide (0 ≤ f.type) && decide (f.type ≤ 2)) = false → ∀ σ', Adds σ0 σ' → R (.panic (stopV 6)) σ' := fun q => by
    rw [if_pos q] at h; exact h
  cases hn : (f.params ++ f.locals).all numberB with
  | false =>
    simp
    refine must_calls (fun q => by simp at q) (fun _ => ?_)
    simp
    exact fail (by rw [hn]; rfl) _ A2
  | true =>
  by_cases k0 : 0 ≤ f.type
  · by_cases k2 : f.type ≤ 2
    · rw [if_neg (by rw [hn]; simp [k0, k2])] at h
      simp [hco2, k0, k2]
      refine must_calls (fun _ => ?_) (fun q => by simp at q)
      simp
      refine clists_calls V C2 hll (fun l hl => sm.rows f hfm l hl) ?_
      cases hq : listsE f.lists with
      | error e =>
        rw [hq] at h
        intro σ3 A3
        simp
        exact h σ3 (A2.trans A3)
      | ok u =>
        rw [hq] at h
        simp only at h
        intro σ3 A3
        have C3 := C2.adds A3
        have C3' := C3
        obtain ⟨hc3, fsv3, pv3, lv3, tv3, lsv3, hco3, _, _, _, htv3, _⟩ := C3'
        obtain ⟨hpos, hah, _⟩ := listsE_ok hq
        have hlen3 := htv3.len
        have hw3 : IntKind.wrap .i64 ((f.lists.length : Int) - 1) = (f.lists.length : Int) - 1 := by rw [wrap_i64] <;> omega
        simp [hco3, hlen3, hw3]
        refine look_ok V sm hfm hah (f.params ++ f.locals) f.lists.length c σ3 ((f.lists.length : Int) - 1) 0 _ C3 (by omega) (by omega) (by omega) (by omega) ?_
        revert h
        cases lookE m.funcs (f.params ++ f.locals) f.type f.lists f.lists.length ((f.lists.length : Int) - 1) 0 with
        | ok u => intro h σ4 A4; simp; exact h σ4 ((A2.trans A3).trans A4)
        | error e => intro h σ4 A4; simp; exact h σ4 ((A2.trans A3).trans A4)
    · simp [hco2, k0, k2]
      refine must_calls (fun q => by simp at q) (fun _ => ?_)
      simp
      exact fail (by simp [k2]) _ A2
  · simp [hco2, k0]
    refine must_calls (fun q => by simp at q) (fun _ => ?_)
    simp
    exact fail (by simp [k0]) _ A2
theorem FsV.at {v : AV} {l : List F} (h : FsV v l) {i : Nat} (hi : i < l.length) : ∃ b fv, FV fv l[i] ∧ ∀ K : AV → Prop, aindexAddr Tryd.prog 22 v (.int .i64 (i : Int)) K = K (.pv (.stat b) fv) := by
  rcases h with ⟨rfl, _⟩ | ⟨b, rows, rfl, hr⟩
  · simp at hi
  · obtain ⟨fv, h1, h2⟩ := hr.get (List.getElem?_eq_getElem hi)
    exact ⟨b, fv, h2, fun K => by simp [h1]⟩
@[simp] theorem aeq_if20 (t : Nat) (v : AV) : aeq Tryd.prog 20 (.iface t v) .nilif = some false := by simp [aeq, aeq1, show Tryd.prog.underlying 20 = some (.interface #[]) from by kernel_rfl]
@[simp] theorem aeq_nil20 : aeq Tryd.prog 20 .nilif .nilif = some true := by simp [aeq, aeq1, show Tryd.prog.underlying 20 = some (.interface #[]) from by kernel_rfl]
@[simp] theorem abin_if20 (t : Nat) (v : AV) (K : AV → Prop) : abin Tryd.prog .neq 20 (.iface t v) .nilif K = K (.bool true) := by simp [abin]
@[simp] theorem abin_nil20 (K : AV → Prop) : abin Tryd.prog .neq 20 .nilif .nilif K = K (.bool false) := by simp [abin]
@[simp] theorem aq_normal (H : Option AV → (Nat → AV) → AS → Prop) (a : Nat → AV) (σ : AS) : aq H .normal a σ = H none a σ := Eq.trans rfl rfl
@[simp] theorem aq_ret (H : Option AV → (Nat → AV) → AS → Prop) (a : Nat → AV) (σ : AS) : aq H .ret a σ = H none a σ := Eq.trans rfl rfl
@[simp] theorem aq_panic (H : Option AV → (Nat → AV) → AS → Prop) (v : AV) (a : Nat → AV) (σ : AS) : aq H (.panic v) a σ = H (some v) a σ := Eq.trans rfl rfl
def MI (σ1 : AS) (mb eb : Nat) (fsv : AV) (m : M) (goal : Res Unit) (a : Nat → AV) (τ : AS) : Prop := ∃ i : Nat, i ≤ m.funcs.length ∧ a 1 = .ptr mb 0 ∧ a 2 = .ptr eb 0 ∧ a 16 = fsv ∧ a 17 = .int .i64 (m.funcs.length : Int) ∧ a 18 = .int .i64 (i : Int) ∧ Adds σ1 τ ∧ functionsE m.funcs (m.funcs.drop i) = goal
set_option maxRecDepth 20000 in
theorem check_calls {G : Env} (V : Vars G) {m : M} (sm : Small m) {σ : AS} {R : Out → AS → Prop} {mv : AV} (hm : MV mv m) (h : ∀ σ', Adds σ σ' → R (.ret (.int .i64 (errOf (checkE m)))) σ') : ACalls Tryd.prog G 10 [mv] σ R := by
  refine acalls_recover (px := pc10_x) (pz := pc10_z) (k := 28) (py := pc28_h) (n := 61) (nk := 8) (t := 5) (d0 := 2) (d1 := 1) (res := [.cell 2 26]) mixed Tryd.func10 rfl rfl rfl rfl (by kernel_rfl) (by kernel_rfl) (by simp) rfl rfl rfl rfl rfl rfl (by decide) Tryd.func28 rfl (by kernel_rfl) rfl rfl rfl rfl rfl rfl rfl rfl rfl (by kernel_rfl) (by decide) (by decide) (by decide) ?_
  obtain ⟨fsv, rfl, hfs⟩ := hm
  have f1 := hfs.one
  have hfl := hfs.len
  simp [pc10_x]
  have ecap : List.map (ev G (upd (upd (frame0 [AV.agg [fsv, AV.int IntKind.i64 m.memory, AV.int IntKind.i64 m.main]]) 1 (AV.ptr σ.no 0)) 2 (AV.ptr (σ.no + 1) 0))) #[Operand.tmp 2].toList = [.ptr (σ.no + 1) 0] := rfl
  rw [ecap]
  generalize hfr : upd (upd (upd (frame0 [AV.agg [fsv, AV.int IntKind.i64 m.memory, AV.int IntKind.i64 m.main]]) 1 (AV.ptr σ.no 0)) 2 (AV.ptr (σ.no + 1) 0)) 5 (AV.fn (Fn.func 28) [] [AV.ptr (σ.no + 1) 0]) = fr
  have fr1 : fr 1 = .ptr σ.no 0 := by rw [← hfr]; simp
  have fr2 : fr 2 = .ptr (σ.no + 1) 0 := by rw [← hfr]; simp
  have hno1 : ((σ.newO [fsv, AV.int IntKind.i64 m.memory, AV.int IntKind.i64 m.main]).newO [AV.int IntKind.i64 0]).no = σ.no + 2 := by simp
  have A1 : Adds σ ((σ.newO [fsv, AV.int IntKind.i64 m.memory, AV.int IntKind.i64 m.main]).newO [AV.int IntKind.i64 0]) := (Adds.refl σ).newO.newO
  have hm1 : ((σ.newO [fsv, AV.int IntKind.i64 m.memory, AV.int IntKind.i64 m.main]).newO [AV.int IntKind.i64 0]).objs σ.no = some [fsv, .int .i64 m.memory, .int .i64 m.main] := by simp
  have he1 : ((σ.newO [fsv, AV.int IntKind.i64 m.memory, AV.int IntKind.i64 m.main]).newO [AV.int IntKind.i64 0]).objs (σ.no + 1) = some [.int .i64 0] := by simp
  generalize (σ.newO [fsv, AV.int IntKind.i64 m.memory, AV.int IntKind.i64 m.main]).newO [AV.int IntKind.i64 0] = σ1 at *
  -- what is recovered
  have hand : ∀ (e : Int) (a : Nat → AV) (τ : AS), a 2 = .ptr (σ.no + 1) 0 → Adds σ1 τ → (∀ σ', Adds σ σ' → R (.ret (.int .i64 e)) σ') → AHandle Tryd.prog G 8 pc28_h 2 1 [.ptr (σ.no + 1) 0] [.cell 2 26] R (some (stopV e)) a τ := by
    intro e a τ a2 A hh
    have he := (A.obj (σ.no + 1) (by omega)).trans he1
    simp [AHandle, pc28_h, stopV, he, splice, a2]
    exact hh _ ((A1.trans A).setO (by omega))
  have done : ∀ (a : Nat → AV) (τ : AS), a 2 = .ptr (σ.no + 1) 0 → Adds σ1 τ → (∀ σ', Adds σ σ' → R (.ret (.int .i64 0)) σ') → AHandle Tryd.prog G 8 pc28_h 2 1 [.ptr (σ.no + 1) 0] [.cell 2 26] R none a (τ.setO (σ.no + 1) [.int .i64 0]) := by
    intro a τ a2 A hh
    simp [AHandle, pc28_h, splice, a2]
    exact hh _ ((A1.trans A).setO (by omega))
  unfold checkE at h
  by_cases k0 : 0 ≤ m.memory
  · by_cases k1 : m.memory ≤ 4096
    · rw [if_neg (by simp [k0, k1])] at h
      simp [pc10_z, fr1, hm1, k0, k1]
      refine must_calls (fun _ => ?_) (fun q => by simp at q)
      simp [fr1, hm1, f1, hfl]
      generalize hgoal : functionsE m.funcs m.funcs = goal at h
      refine aloop (MI σ1 σ.no (σ.no + 1) fsv m goal) (MU 18 (m.funcs.length + 1)) ⟨0, by omega, by simp [fr1], by simp [fr2], by simp, by simp, by simp, .refl _, by simpa using hgoal⟩ fun a τ hI => ?_
      obtain ⟨i, hi, a1, a2, a16, a17, a18, A, hg⟩ := hI
      have hm2 := (A.obj σ.no (by omega)).trans hm1
      have he2 := (A.obj (σ.no + 1) (by omega)).trans he1
      by_cases hlt : i < m.funcs.length
      · obtain ⟨b, fv, hfv, hix⟩ := hfs.at hlt
        have hmem := List.getElem_mem hlt
        rw [List.drop_eq_getElem_cons hlt, functionsE] at hg
        generalize m.funcs[i] = f at *
        obtain ⟨pv, lv, tv, rfl, hp, hl, ht⟩ := hfv
        have p1 := hp.one
        have l1 := hl.one
        have t1 := ht.one
        have hmn : σ.no ≠ τ.no := by have := A.no; omega
        simp [pc10_z_l1, a1, a16, a17, a18, hlt, hix, p1, l1, t1, f1, splice, hm2, hmn]
        have A3 : Adds τ (((τ.newO [AV.str [], AV.nilsl, AV.nilsl, AV.int IntKind.i64 0, AV.nilsl]).setO τ.no [AV.str f.name, pv, lv, AV.int IntKind.i64 f.type, tv]).newO [fsv, AV.int IntKind.i64 m.memory, AV.int IntKind.i64 m.main, AV.str f.name, pv, lv, AV.int IntKind.i64 f.type, tv, AV.nilsl]) := (((Adds.refl τ).newO).setO (Nat.le_refl _)).newO
        refine function_calls V sm hmem A3 (by omega) ⟨by simp, _, _, _, _, _, by simp, hfs, hp, hl, ht, .inl ⟨rfl, rfl⟩⟩ ?_
        have hw3 : IntKind.wrap .i64 ((i : Int) + 1) = ((i + 1 : Nat) : Int) := by have := sm.funcs; rw [wrap_i64] <;> omega
        cases hq : functionE m.funcs f with
        | error e =>
          rw [hq] at hg
          simp only at hg
          rw [← hg] at h
          intro σ4 A4
          simp
          exact hand e _ σ4 (by simp [hide, a2]) (A.trans A4) h
        | ok u =>
          rw [hq] at hg
          simp only at hg
          intro σ4 A4
          simp [a18, hw3]
          refine ⟨⟨i + 1, by omega, by simp [a1], by simp [a2], by simp [a16], by simp [a17], by simp, A.trans A4, hg⟩, ?_⟩
          simp only [MU, a18]; simp; omega
      · have he : i = m.funcs.length := by omega
        subst he
        have hnil : m.funcs.drop m.funcs.length = [] := by simp
        rw [hnil] at hg
        simp only [functionsE] at hg
        rw [← hg] at h
        simp only at h
        have good : mainB m = true → ∀ σ', Adds σ σ' → R (.ret (.int .i64 0)) σ' := fun q => by rw [if_pos q] at h; exact h
        have bad : mainB m = false → ∀ σ', Adds σ σ' → R (.ret (.int .i64 12)) σ' := fun q => by rw [if_neg (by rw [q]; simp)] at h; exact h
        by_cases q0 : 0 ≤ m.main
        · by_cases q1 : m.main < (m.funcs.length : Int)
          · have hlt2 : m.main.toNat < m.funcs.length := by omega
            obtain ⟨b, fv, hfv, hix⟩ := hfs.at hlt2
            have e1 : ((m.main.toNat : Nat) : Int) = m.main := by omega
            rw [e1] at hix
            have hfn : m.funcs[m.main.toNat]? = some m.funcs[m.main.toNat] := List.getElem?_eq_getElem hlt2
            have hmb : mainB m = (decide (m.funcs[m.main.toNat].type = 1) && decide (m.funcs[m.main.toNat].params.length = 0)) := by
              unfold mainB; rw [hfn]; simp [q0]
            generalize m.funcs[m.main.toNat] = f at *
            obtain ⟨pv, lv, tv, rfl, hp, hl, ht⟩ := hfv
            have hpl := hp.len
            have p1 := hp.one
            by_cases q2 : f.type = 1
            · by_cases q3 : f.params.length = 0
              · have q3' : f.params = [] := List.length_eq_zero_iff.1 q3
                simp [pc10_z_l1, pc10_z_r1, a1, a2, a16, a17, a18, hm2, he2, hfl, f1, q0, q1, hix, q2, hpl, p1, q3', splice]
                refine must_calls (fun _ => ?_) (fun q => by simp at q)
                simp [a2, he2, splice]
                exact done _ τ (by simp [a2]) A (good (by rw [hmb]; simp [q2, q3']))
              · have q3' : ¬ f.params = [] := fun q => q3 (by rw [q]; rfl)
                simp [pc10_z_l1, pc10_z_r1, a1, a2, a16, a17, a18, hm2, he2, hfl, f1, q0, q1, hix, q2, hpl, p1, q3', splice]
                refine must_calls (fun q => by simp at q) (fun _ => ?_)
                simp
                exact hand 12 _ τ (by simp [hide, a2]) A (bad (by rw [hmb]; simp [q3']))
            · simp [pc10_z_l1, pc10_z_r1, a1, a2, a16, a17, a18, hm2, he2, hfl, f1, q0, q1, hix, q2, splice]
              refine must_calls (fun q => by simp at q) (fun _ => ?_)
              simp
              exact hand 12 _ τ (by simp [hide, a2]) A (bad (by rw [hmb]; simp [q2]))
          · simp [pc10_z_l1, pc10_z_r1, a1, a2, a16, a17, a18, hm2, he2, hfl, f1, q0, q1, splice]
            refine must_calls (fun q => by simp at q) (fun _ => ?_)
            simp
            refine hand 12 _ τ (by simp [hide, a2]) A (bad ?_)
            unfold mainB
            rw [List.getElem?_eq_none (by omega)]
            simp
        · simp [pc10_z_l1, pc10_z_r1, a1, a2, a16, a17, a18, hm2, he2, hfl, f1, q0, splice]
          refine must_calls (fun q => by simp at q) (fun _ => ?_)
          simp
          exact hand 12 _ τ (by simp [hide, a2]) A (bad (by simp [mainB, q0]))
    · rw [if_pos (by simp [k1])] at h
      simp [pc10_z, fr1, hm1, k0, k1]
      refine must_calls (fun q => by simp at q) (fun _ => ?_)
      simp
      exact hand 11 _ σ1 (by simp [hide, fr2]) (.refl _) h
  · rw [if_pos (by simp [k0])] at h
    simp [pc10_z, fr1, hm1, k0]
    refine must_calls (fun q => by simp at q) (fun _ => ?_)
    simp
    exact hand 11 _ σ1 (by simp [hide, fr2]) (.refl _) h
end Go.Proofs.YthifgodgfhbnfaaDoor
