/- Part of the proofs of layer 22's statements: P3 (what peep's functions do, in lists of instructions, under the conditions that each theorem names). -/
import Derived.Test.YthifgodgfhbnfaaP2
set_option linter.unusedSimpArgs false
set_option linter.unusedVariables false
namespace Go.Proofs.Ythifgodgfhbnfaa
open Go Go.Abs
/-- the list under way -/
def RL (σ : AS) (x base : Nat) (lv : AV) (l : List W) : Prop :=
  (l = [] ∧ lv = .nilsl) ∨ ∃ f, lv = .sl (.fam f false) 6 (l.map W.av) ∧ base ≤ f ∧ f < σ.nf ∧ σ.F f = .alive ∧ ¬ Uses σ x f
theorem RL.mono {σ σ' x base lv l} (h : RL σ x base lv l) (k : Keep x σ σ') : RL σ' x base lv l := by
  rcases h with h | ⟨f, h1, h2, h3, h4, h5⟩
  · exact .inl h
  · exact .inr ⟨f, h1, h2, Nat.lt_of_lt_of_le h3 k.nf, by rw [k.fam f h3 h5, h4], fun u => h5 (k.use f h3 u)⟩
theorem Keep.grow {x σ0 σ' s} (h : Keep x σ0 σ') (f : Nat) (hf : σ0.nf ≤ f) : Keep x σ0 ((σ'.setF f s).newF) where
  no := h.no
  nf := Nat.le_trans h.nf (by simp)
  obj := h.obj
  fam g hg hu := by
    simp only [newF_F, setF_F, setF_nf, upd_at]
    rw [if_neg (by have := h.nf; omega), if_neg (by omega)]
    exact h.fam g hg hu
  use f a u := h.use f a (by unfold Uses at *; simpa using u)
theorem Keep.newF {x σ0 σ'} (h : Keep x σ0 σ') : Keep x σ0 σ'.newF where
  no := h.no
  nf := Nat.le_trans h.nf (by simp)
  obj := h.obj
  fam g hg hu := by
    simp only [newF_F, upd_at]
    rw [if_neg (by have := h.nf; omega)]
    exact h.fam g hg hu
  use f a u := h.use f a (by unfold Uses at *; simpa using u)
theorem Maker.uses {σ x fv to} (h : Maker σ x fv to) {f : Nat} (u : Uses σ x f) : f < σ.nf ∧ σ.F f = .alive := by
  obtain ⟨_, tv, h1, h2⟩ := h
  obtain ⟨fv', tv', h3, h4⟩ := u
  rw [h1] at h3
  simp at h3
  obtain ⟨rfl, rfl⟩ := h3
  rcases h2 with ⟨_, rfl⟩ | ⟨g, tos, rfl, h5, h6, _⟩
  · simp [famOf] at h4
  · simp [famOf] at h4; subst h4; exact ⟨h5, h6⟩
theorem Maker.newF {σ x fv to} (h : Maker σ x fv to) : Maker σ.newF x fv to := by
  obtain ⟨h1, tv, h2, h3⟩ := h
  refine ⟨h1, tv, h2, ?_⟩
  rcases h3 with h3 | ⟨g, tos, rfl, h5, h6, h7⟩
  · exact .inl h3
  · exact .inr ⟨g, tos, rfl, by simp; omega, by simp; intro _; exact h6, h7⟩
theorem Maker.grow {σ x fv to f s} (h : Maker σ x fv to) (hf : ¬ Uses σ x f) : Maker ((σ.setF f s).newF) x fv to := by
  refine Maker.newF ?_
  obtain ⟨h1, tv, h2, h3⟩ := h
  refine ⟨h1, tv, h2, ?_⟩
  rcases h3 with h3 | ⟨g, tos, rfl, h5, h6, h7⟩
  · exact .inl h3
  · have : g ≠ f := fun e => hf ⟨fv, _, h2, by simp [famOf, e]⟩
    exact .inr ⟨g, tos, rfl, h5, by simp [this, h6], h7⟩
theorem Maker.fresh {σ x fv to} (h : Maker σ x fv to) {τ : AS} (ho : τ.objs = σ.objs) : ¬ Uses τ x σ.nf := fun u => by
  have : Uses σ x σ.nf := by unfold Uses at *; rwa [ho] at u
  exact absurd (h.uses this).1 (by omega)

/-! growth -/
theorem W_sz (l : List W) : ∀ y ∈ l.map W.av, y.cells.length = 6 ∧ ∀ c ∈ y.cells, c.one = true := by
  intro y hy
  simp at hy
  obtain ⟨w, _, rfl⟩ := hy
  simp [W.av, W.cs]

theorem chosen_length {rec n w to l to'} (h : pchosen rec n w to = some (l, to')) : l.length ≤ 1 := by
  unfold pchosen at h
  simp only at h
  generalize (if n = 0 then w.other else w.body) = t at h
  split at h
  · cases h; simp
  · split at h
    · cases h
    · cases h; simp
theorem two_length {rec w u to l is to'} (h : ptogether rec w u to = some (l, is, to')) : l.length ≤ 1 := by
  unfold ptogether at h
  simp only at h
  split at h
  · cases h; simp
  split at h
  · cases h; simp
  split at h
  · split at h <;> cases h <;> simp
  split at h
  · split at h
    · split at h
      · cases h
      · rename_i l1 to1 hc
        cases h; exact chosen_length hc
    · cases h; simp
  · cases h; simp

theorem All2.length {α β : Type} {R : α → β → Prop} {xs ys} (h : All2 R xs ys) : xs.length = ys.length := by
  induction h <;> simp_all
theorem All2.get {α β : Type} {R : α → β → Prop} {xs ys} (h : All2 R xs ys) {i : Nat} {y} (hy : ys[i]? = some y) : ∃ x, xs[i]? = some x ∧ R x y := by
  induction h generalizing i with
  | nil => simp at hy
  | cons h r ih =>
    cases i with
    | zero => simp at hy; subst hy; exact ⟨_, by simp, h⟩
    | succ i => simp at hy; simpa using ih hy
theorem All2.append {α β : Type} {R : α → β → Prop} {xs ys xs' ys'} (h : All2 R xs ys) (h' : All2 R xs' ys') : All2 R (xs ++ xs') (ys ++ ys') := by
  induction h with
  | nil => exact h'
  | cons h r ih => exact .cons h ih

/-- a row that is read -/
def RowV (ws : List W) (row : AV) : Prop := RepL row ws

theorem list_fin {G : Nat → AV} {x : Nat} {fv lv : AV} {to1 : To} {a : Nat → AV} {τ : AS} {R : Out → AS → Prop} (hm : Maker τ x fv to1) (h0 : a 0 = .ptr x 0) (h5 : a 5 = lv) (h1 : lv.cells = [lv]) (hk : lv.known = true) (ho : lv.one = true) (hb : to1.length + 1 ≤ 2 ^ 30)
    (h : ∀ τ' tos, All2 RepL tos to1 → τ'.objs = upd τ.objs x (some [fv, .sl (.fam τ.nf false) 1 (tos ++ [lv])]) → τ'.no = τ.no → τ'.nf = τ.nf + 1 → τ'.F τ.nf = .alive →
      (∀ f, f < τ.nf → ¬ Uses τ x f → τ'.F f = τ.F f) → R (.ret (.int .i64 to1.length)) τ') : avc Try.prog G 78 pc14_r1 (afin Try.prog [.tmp 4] R) a τ := by
  obtain ⟨hx, tv, hob, ht⟩ := hm
  have hw : IntKind.wrap .i64 (to1.length : Int) = to1.length := by rw [wrap_i64] <;> omega
  rcases ht with ⟨rfl, rfl⟩ | ⟨g, tos, rfl, hg, hga, htos⟩
  · simp only [List.length_nil, Int.cast_ofNat_Int] at hw
    simp [pc14_r1, h0, h5, hob, hk, h1, ho, splice, hw]
    exact h _ [] .nil (by simp) rfl rfl (by simp) (fun f hf hu => by simp; omega)
  · have hl := htos.length
    simp [pc14_r1, h0, h5, hob, hk, h1, ho, splice, hga, hl, hw]
    refine ⟨by omega, h _ tos htos (by simp) rfl (by simp) (by simp) (fun f hf hu => ?_)⟩
    have : f ≠ g := fun e => hu ⟨fv, _, hob, by simp [famOf, e]⟩
    simp [this]; omega

/-- A STEP THAT NO CODE TAKES, BEHIND A CALL, IF WANTED. -/
theorem freezeOr {P : Program} {G : Nat → AV} {f : FuncId} {args : List AV} {σ : AS} {R : Out → AS → Prop}
    (h : ACalls P G f args σ fun o σ' => R o σ' ∨ ∃ v g p, o = .ret v ∧ σ'.F g = .alive ∧ R (.ret (frz g v)) (σ'.frz g p)) : ACalls P G f args σ R := by
  intro M w cargs S g c
  refine (h M w cargs S g c).mono fun e w' ⟨o, σ', M', hR, h2, h3, h4⟩ => ?_
  rcases hR with hR | ⟨v, k, p, ho, ha, hR⟩
  · exact ⟨o, σ', M', hR, h2, h3, h4⟩
  subst ho
  refine ⟨_, _, M'.frz k, hR, ?_, h3.frz ha, h4.trans (ext_frz ha)⟩
  cases e <;> simp only [OutRel] at h2 ⊢
  exact h2.frz ha

theorem frz_W (f : Nat) (w : W) : frz f w.av = w.av := by simp [W.av, W.cs]
theorem frz_Ws (f : Nat) (l : List W) : (l.map W.av).map (frz f) = l.map W.av := by simp [Function.comp_def, frz_W]
theorem RepL.frz {v l} (h : RepL v l) (f : Nat) : frz f v = v := by
  rcases h with ⟨_, rfl⟩ | ⟨b, rfl⟩
  · simp
  · rw [frz_sl_stat, frz_Ws]
theorem frz_rows {tos to} (h : All2 RepL tos to) (f : Nat) : tos.map (frz f) = tos := by
  induction h with
  | nil => rfl
  | cons h r ih => simp [h.frz f, ih]
theorem FromV.frz {v frm} (h : FromV v frm) (f : Nat) : frz f v = v := by
  obtain ⟨b, rows, rfl, h⟩ := h
  rw [frz_sl_stat, frz_rows h]

/-- what the list's end asks of a frozen or plain state -/
theorem list_end {x : Nat} {fv lv : AV} {frm : To} (hf : FromV fv frm) {to1 : To} {l : List W} {σ τ τ' : AS} {tos : List AV} {R : Out → AS → Prop} (K : Keep x σ τ) (hm : Maker τ x fv to1) (hr : RL τ x σ.nf lv l)
    (ht : All2 RepL tos to1) (e1 : τ'.objs = upd τ.objs x (some [fv, .sl (.fam τ.nf false) 1 (tos ++ [lv])])) (e2 : τ'.no = τ.no) (e3 : τ'.nf = τ.nf + 1) (e4 : τ'.F τ.nf = .alive)
    (e5 : ∀ f, f < τ.nf → ¬ Uses τ x f → τ'.F f = τ.F f)
    (h : ∀ σ', Keep x σ σ' → Maker σ' x fv (to1 ++ [l]) → R (.ret (.int .i64 to1.length)) σ') :
    R (.ret (.int .i64 to1.length)) τ' ∨ ∃ v g p, Out.ret (.int .i64 to1.length) = .ret v ∧ τ'.F g = .alive ∧ R (.ret (frz g v)) (τ'.frz g p) := by
  have base : ∀ σ' : AS, σ'.no = τ.no → σ'.nf = τ.nf + 1 → (∀ o, o ≠ x → σ'.objs o = τ.objs o) → (∃ tos', σ'.objs x = some [fv, .sl (.fam τ.nf false) 1 tos'] ∧ All2 RepL tos' (to1 ++ [l])) → σ'.F τ.nf = .alive →
      (∀ f, f < σ.nf → ¬ Uses σ x f → σ'.F f = σ.F f) → R (.ret (.int .i64 to1.length)) σ' := by
    intro σ' a1 a2 a3 ⟨tos', a4, a5⟩ a6 a7
    refine h σ' ⟨by rw [a1]; exact K.no, by rw [a2]; have := K.nf; omega, fun o h1 h2 => (a3 o h2).trans (K.obj o h1 h2), a7, fun f h1 h2 => ?_⟩ ⟨by rw [a1]; exact hm.1, _, a4, .inr ⟨_, _, rfl, by omega, a6, a5⟩⟩
    obtain ⟨fv', tv', b1, b2⟩ := h2
    rw [a4] at b1
    simp at b1
    obtain ⟨rfl, rfl⟩ := b1
    simp [famOf] at b2
    have := K.nf
    omega
  rcases hr with ⟨rfl, rfl⟩ | ⟨f, rfl, h1, h2, h3, h4⟩
  · refine .inl (base _ e2 e3 (fun o ho => by rw [e1]; simp [ho]) ⟨tos ++ [.nilsl], by rw [e1]; simp, ht.append (.cons (.inl ⟨rfl, rfl⟩) .nil)⟩ e4 (fun g hg hu => ?_))
    rw [e5 g (Nat.lt_of_lt_of_le hg K.nf) (fun u => hu (K.use g hg u)), K.fam g hg hu]
  · refine .inr ⟨_, f, fun o => o == x, rfl, by rw [e5 f h2 h4, h3], ?_⟩
    rw [frz_int]
    refine base _ e2 e3 (fun o ho => by simp [AS.frz, e1, ho]) ⟨tos ++ [.sl (.stat false) 6 (l.map W.av)], ?_, ht.append (.cons (.inr ⟨_, rfl⟩) .nil)⟩ ?_ (fun g hg hu => ?_)
    · have : τ.nf ≠ f := by omega
      simp [AS.frz, e1, hf.frz, frz_rows ht, this, Function.comp_def, frz_W]
    · have : τ.nf ≠ f := by omega
      simp [AS.frz, frzF, this, e4]
    · have : g ≠ f := by omega
      simp only [AS.frz, frzF, upd_at, this, if_false]
      rw [e5 g (Nat.lt_of_lt_of_le hg K.nf) (fun u => hu (K.use g hg u)), K.fam g hg hu]
end Go.Proofs.Ythifgodgfhbnfaa
