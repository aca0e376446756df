/- A region that draws its order: one look in a planned order serves every order; no condition. -/
import Derived.Test.YthifgodgfhbnfaaDoorAbs12
namespace Go.Abs
open Go

/-- the loads that may still be open at a call or a store -/
def againOf (ops : Array Oper) (A : Array Nat) (e : Nat) : List Nat → List AG
  | [] => []
  | j :: r =>
    match ops[j]? with
    | some o => match o.op, o.dst, guardOf ops o with
      | .load t x, some d, some g => if ahead A j e then againOf ops A e r else ⟨g, t, x, d⟩ :: againOf ops A e r
      | _, _, _ => againOf ops A e r
    | none => againOf ops A e r

def drawPlan (ops : Array Oper) (A : Array Nat) : List Nat → List Nat → Option (List PO)
  | _, [] => some []
  | done, i :: r =>
    match ops[i]? with
    | some o => (planOf ops o (if isE o then againOf ops A i done else [])).bind fun p => (drawPlan ops A (done ++ [i]) r).map fun l => p :: l
    | none => none

/-- what a quiet operation gives, at a state -/
def QEv (P : Program) (G : Env) (o : Oper) (a : Nat → AV) (σ : AS) (v : AV) : Prop :=
  (isPure o.op = true ∧ QuietOp P o (ev G a) v) ∨ ∃ t x, o.op = .load t x ∧ aload P t (ev G a x) σ fun u => u = v

/-- a quiet operation's value: of one that is not wanted: none -/
def PEnd (P : Program) (G : Env) (ops : Array Oper) (o : Oper) (a : Nat → AV) (σ : AS) (v : AV) : Prop :=
  ∃ g, guardOf ops o = some g ∧ ((acond a g True False ∧ QEv P G o a σ v) ∨ (acond a g False True ∧ v = .tuple []))

theorem acond_cases {a : Nat → AV} {g : Option (Nat × Bool)} {yes no : Prop} (h : acond a g yes no) : (acond a g True False ∧ yes) ∨ (acond a g False True ∧ no) := by
  unfold acond at *
  split at h
  · exact .inl ⟨trivial, h⟩
  · rename_i d want
    cases hd : a d <;> simp only [hd] at h ⊢ <;> try exact h.elim
    · rename_i b
      by_cases e : b = want
      · exact .inl ⟨⟨fun _ => trivial, fun h' => h' e⟩, h.1 e⟩
      · exact .inr ⟨⟨fun h' => e h', fun _ => trivial⟩, h.2 e⟩
    · rename_i vs
      cases vs with
      | nil => exact .inr ⟨trivial, h⟩
      | cons => exact h.elim

theorem acond_yes {a : Nat → AV} {g : Option (Nat × Bool)} {yes no : Prop} (h : acond a g True False) (hc : acond a g yes no) : yes := by
  unfold acond at *
  split at h
  · exact hc
  · rename_i d want
    cases hd : a d <;> simp only [hd] at h hc <;> try exact h.elim
    · rename_i b
      by_cases e : b = want
      · exact hc.1 e
      · exact (h.2 e).elim
    · rename_i vs
      cases vs with
      | nil => exact h.elim
      | cons => exact h.elim

theorem acond_congr {a b : Nat → AV} {g : Option (Nat × Bool)} {yes no : Prop} (h : ∀ d w, g = some (d, w) → a d = b d) : acond a g yes no = acond b g yes no := by
  unfold acond
  cases g with
  | none => rfl
  | some p => simp only [h p.1 p.2 rfl]

theorem ev_congr {G : Env} {a b : Nat → AV} {x : Operand} (h : ∀ t, x = .tmp t → a t = b t) : ev G a x = ev G b x := by
  cases x with
  | tmp t => exact h t rfl
  | _ => rfl

theorem aload_ex {P : Program} {t p σ} {K : AV → Prop} (h : aload P t p σ K) : ∃ v, K v ∧ aload P t p σ fun u => u = v := by
  have part : ∀ {g n off cs} {K : AV → Prop}, partOf g n off cs K → ∃ v, K v ∧ partOf g n off cs fun u => u = v := by
    intro g n off cs K h
    unfold partOf at *
    split at h
    · rename_i hg; exact ⟨_, h.2, by rw [if_pos hg]; exact ⟨h.1, rfl⟩⟩
    · rename_i hg; obtain ⟨v, h1, h2⟩ := h; exact ⟨v, h2, by rw [if_neg hg]; exact ⟨v, h1, rfl⟩⟩
  unfold aload at *
  split at h
  · obtain ⟨cs, n, h1, h2, h3⟩ := h
    obtain ⟨v, h4, h5⟩ := part h3
    exact ⟨v, h4, cs, n, h1, h2, h5⟩
  · obtain ⟨h1, n, h2, h3⟩ := h
    split at h3
    · rename_i hg
      obtain ⟨cs, rfl, h4, h5⟩ := h3
      exact ⟨_, h5, h1, n, h2, by rw [if_pos hg]; exact ⟨cs, rfl, h4, rfl⟩⟩
    · rename_i hg
      exact ⟨_, h3.2, h1, n, h2, by rw [if_neg hg]; exact ⟨h3.1, rfl⟩⟩
  · exact h.elim

/-- quiet operations: the value there is, and what goes on with it -/
theorem quiet_ex {P : Program} {G : Env} {o : Oper} {a : Nat → AV} {σ : AS} {K : (Nat → AV) → AS → Prop} {Q : AQ} (hq : isE o = false) (h : aop1 P G o.op o.dst a σ K Q) : ∃ v, QEv P G o a σ v ∧ K (put a o.dst v) σ := by
  unfold aop1 at h
  split at h
  · rename_i hp
    obtain ⟨v, h1, h2⟩ := apure_sound h
    exact ⟨v, .inl ⟨hp, h2⟩, h1⟩
  · rename_i hp
    have hp' : isPure o.op = false := by simpa using hp
    simp only [isE, hp', Bool.not_false, Bool.true_and, Bool.not_eq_false'] at hq
    unfold isLoad at hq
    split at hq
    · rename_i t x ho
      rw [ho] at h
      simp only [aeff] at h
      obtain ⟨v, h1, h2⟩ := aload_ex h
      exact ⟨v, .inr ⟨t, x, ho, h2⟩, h1⟩
    · cases hq

/-- a quiet operation in the model -/
theorem QEv.run {P : Program} {G : Env} {o : Oper} {a : Nat → AV} {σ : AS} {v : AV} (h : QEv P G o a σ v) {M w} {ρ : Operand → Value} (S : Sim M σ w) (hops : ∀ x ∈ o.op.operands, VR M σ.F w (ev G a x) (ρ x)) :
    ∃ v' M' w', (execOp ρ o).run P w = .ok (.value v') w' ∧ VR M' σ.F w' v v' ∧ Ext M σ.F w M' σ.F w' ∧ Sim M' σ w' := by
  rcases h with ⟨_, hq⟩ | ⟨t, x, ho, hl⟩
  · obtain ⟨v', M', w', h1, h2, h3, h4⟩ := hq M σ.F w ρ S.role hops
    exact ⟨v', M', w', h1, h2, h3, h4 σ rfl S⟩
  · obtain ⟨u, rfl, hh⟩ := aload_sound hl
    obtain ⟨v', h1, h2⟩ := hh M w (ρ x) S (hops x (by rw [ho]; simp [Op.operands]))
    refine ⟨v', M, w, ?_, h2, .refl .., S⟩
    unfold execOp; simp only [ho]; rw [Sem.run_bind, h1]; rfl

theorem QEv.nodefer {P : Program} {G : Env} {o : Oper} {a : Nat → AV} {σ : AS} {v : AV} (h : QEv P G o a σ v) : ∀ c, o.op ≠ .defer c := by
  intro c hc
  rcases h with ⟨h1, _⟩ | ⟨t, x, h1, _⟩
  · rw [hc] at h1; cases h1
  · rw [hc] at h1; cases h1

section
variable {P : Program} {G : Env} {n : Nat} {ops : Array Oper} {A : Array Nat} {π : List Nat} {Q : AQ} {a0 : Nat → AV}

theorem ahead_before (O : OrdOk n ops A π) : ∀ (m : Nat) (d1 : List Nat) (i : Nat) (d2 : List Nat) (k : Nat), d1.length = m → π = d1 ++ i :: d2 → ahead A k i = true → k ∈ d1 := by
  intro m
  induction m using Nat.strongRecOn with
  | _ m ih =>
    intro d1 i d2 k hm hπ hk
    have hi : i < ops.size := O.lt i (by rw [hπ]; simp)
    obtain ⟨e, he, hb, h⟩ := mask_spec O.mask (Array.getElem?_eq_getElem hi) hk
    have hon := O.edges d1 i d2 _ e hπ (Array.getElem?_eq_getElem hi) he hb
    rcases h with h | h
    · rw [← h]; exact hon
    · obtain ⟨x, y, rfl⟩ := List.append_of_mem hon
      have := ih x.length (by rw [← hm]; simp) x e.on (y ++ i :: d2) k rfl (by rw [hπ]; simp) h
      simp [this]

/-- what a closed set holds -/
theorem ahead_in (O : OrdOk n ops A π) {L : Nat → Bool} (hcl : ∀ i (o : Oper), L i = true → ops[i]? = some o → ∀ e ∈ o.after.toList, bindsAny e = true → L e.on = true) :
    ∀ (m : Nat) (d1 : List Nat) (i : Nat) (d2 : List Nat) (k : Nat) (o : Oper), d1.length = m → π = d1 ++ i :: d2 → ops[i]? = some o → (∀ e ∈ o.after.toList, bindsAny e = true → L e.on = true) → ahead A k i = true → L k = true := by
  intro m
  induction m using Nat.strongRecOn with
  | _ m ih =>
    intro d1 i d2 k o hm hπ ho hr hk
    obtain ⟨e, he, hb, h⟩ := mask_spec O.mask ho hk
    have hon := O.edges d1 i d2 o e hπ ho he hb
    rcases h with h | h
    · rw [← h]; exact hr e he hb
    · have hLe := hr e he hb
      obtain ⟨x, y, hxy⟩ := List.append_of_mem hon
      have hlt : e.on < ops.size := O.lt e.on (by rw [hπ, hxy]; simp)
      exact ih x.length (by rw [← hm, hxy]; simp) x e.on (y ++ i :: d2) k _ rfl (by rw [hπ, hxy]; simp) (Array.getElem?_eq_getElem hlt) (fun e' he' hb' => hcl e.on _ hLe (Array.getElem?_eq_getElem hlt) e' he' hb') h

theorem split_of_mem (O : OrdOk n ops A π) {i : Nat} (hi : i < ops.size) : ∃ d1 d2, π = d1 ++ i :: d2 := by
  obtain ⟨d1, d2, h⟩ := List.append_of_mem (O.all i hi); exact ⟨d1, d2, h⟩

theorem dstAt_some {i : Nat} {o : Oper} (ho : ops[i]? = some o) : dstAt ops i = o.dst := by simp [dstAt, ho]

/-- the slots that an operation names are not written by what need not stand ahead of it -/
theorem not_written (O : OrdOk n ops A π) {i k : Nat} {oi : Oper} (hi : ops[i]? = some oi) (hne : k ≠ i) (h1 : ahead A k i = false) (h2 : ahead A i k = false) {t : Nat} (ht : t ∈ slotsOf ops oi ∨ oi.dst = some t) : dstAt ops k ≠ some t := by
  intro hk
  cases hok : ops[k]? with
  | none => simp [dstAt, hok] at hk
  | some ok =>
    rw [dstAt_some hok] at hk
    rcases O.slots k i ok oi t hne hok hi hk ht with h | h
    · rw [h] at h1; cases h1
    · rw [h] at h2; cases h2

theorem guard_slot {o : Oper} {g : Option (Nat × Bool)} (hg : guardOf ops o = some g) {d w} (h : g = some (d, w)) : d ∈ slotsOf ops o := by
  subst h
  unfold guardOf at hg
  split at hg
  · cases hg
  · rename_i j want hj
    split at hg
    · rename_i d' hd
      simp at hg
      unfold slotsOf
      rw [hj]
      simp only [hd]
      simp [hg.1]
    · cases hg

theorem operand_slot {o : Oper} {x : Operand} (hx : x ∈ o.op.operands) {t : Nat} (h : x = .tmp t) : t ∈ slotsOf ops o := by
  subst h
  unfold slotsOf
  rw [List.mem_append, List.mem_filterMap]
  exact .inl ⟨_, by simpa using hx, rfl⟩

end

end Go.Abs
