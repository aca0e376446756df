/- What a piece of code asks, reckoned from its text; loops by an invariant; functions by contract; no condition. -/
import Derived.Test.YthifgodgfhbnfaaDoorAbs10
import Derived.LoopNIn
import Derived.OrdersIn
import Derived.TacticsIn
import Derived.RangeFuncCalls
namespace Go.Abs
open Go

/-- no fence; the frame may be a round's -/
def wideAt (r : Option Nat) : Fence := { Fence.wide with round := r }
theorem wideAt_none : wideAt none = Fence.wide := rfl
theorem wideAt_some (l : Nat) : wideAt (some l) = Fence.wide.inRound l := rfl
@[simp] theorem wideAt_fn (r : Option Nat) (f : FuncId) : (wideAt r).fn f := trivial
theorem wideAt_depth (r : Option Nat) : (wideAt r).depth = none := rfl
theorem callsIn_wideAt {r : Option Nat} {n : Nat} {P : Program} {f : FuncId} {args : Array Value} {w : World} {R : Ending → World → Prop} (h : Calls P f args w R) : CallsIn (wideAt r) n P f args w R := by
  have h1 : CallsIn Fence.wide n P f args w R := callsIn_wide.2 h
  cases r with
  | none => exact h1
  | some l => exact CallsIn.inRound l h1
theorem roundIn_wideAt {r : Option Nat} {n : Nat} {P : Program} {l : Nat} {f : FuncId} {tmps : Array Value} {assign body : Code} {w : World} {R : Ending → World → Prop} (h : RoundIn Fence.wide n P l f tmps assign body w R) : RoundIn (wideAt r) n P l f tmps assign body w R := h

inductive AExit where
  | normal
  | exit (id : Nat)
  | ret
  | panic (v : AV)

abbrev AQ := AExit → (Nat → AV) → AS → Prop

def anyFrame : Nat → AV := fun _ => .undef

/-- a load that is looked at again: if wanted; its type, the pointer, the slot that holds what it gave -/
structure AG where
  g : Option (Nat × Bool)
  t : TypeId
  x : Operand
  d : Nat

/-- a planned operation: where it goes; what it is; whether it is wanted (a slot, and what it must hold); the loads that are looked at again behind it -/
structure PO where
  dst : Option Nat
  op : Op
  guard : Option (Nat × Bool) := none
  again : List AG := []

/-- is it wanted? -/
def acond (a : Nat → AV) (g : Option (Nat × Bool)) (yes no : Prop) : Prop :=
  match g with
  | none => yes
  | some (d, want) =>
    match a d with
    | .bool b => (b = want → yes) ∧ (b ≠ want → no)
    | .tuple [] => no
    | _ => False

/-- one operation -/
def aop1 (P : Program) (G : Env) (op : Op) (dst : Option Nat) (a : Nat → AV) (σ : AS) (K : (Nat → AV) → AS → Prop) (Q : AQ) : Prop :=
  if isPure op then apure P (ev G a) op fun v => K (put a dst v) σ
  else aeff P G (ev G a) σ (fun v σ' => K (put a dst v) σ') (fun v σ' => Q (.panic v) anyFrame σ') op

/-- loads that have been done, and would give the same now -/
def aagain (P : Program) (G : Env) (a : Nat → AV) (σ : AS) : List AG → Prop
  | [] => True
  | g :: r => acond a g.g (aload P g.t (ev G a g.x) σ fun v => v = a g.d) True ∧ aagain P G a σ r

/-- operations, in a planned order -/
def aops (P : Program) (G : Env) (Q : AQ) : List PO → (Nat → AV) → AS → Prop
  | [], a, σ => Q .normal a σ
  | o :: rest, a, σ =>
    acond a o.guard (aop1 P G o.op o.dst a σ (fun a' σ' => aagain P G a' σ' o.again ∧ aops P G Q rest a' σ') Q) (aops P G Q rest (put a o.dst (.tuple [])) σ)

/-- the slots that a list of operations does not write -/
def hide (l : List PO) (a : Nat → AV) : Nat → AV := fun t => if l.any (fun o => o.dst == some t) then .undef else a t
/-- at a panic these slots are known -/
def withPf (pf : Nat → AV) (Q : AQ) : AQ
  | .panic v, _, σ => Q (.panic v) pf σ
  | e, a, σ => Q e a σ

def athen (K : (Nat → AV) → AS → Prop) (Q : AQ) : AQ
  | .normal, a, σ => K a σ
  | e, a, σ => Q e a σ

def ablock (id : Nat) (Q : AQ) : AQ
  | .exit i, a, σ => if i = id then Q .normal a σ else Q (.exit i) a σ
  | e, a, σ => Q e a σ

def dstIn (n : Nat) : Option Nat → Bool
  | some d => decide (d < n)
  | none => true

structure Fr (M : Mp) (F : Nat → FSt) (w : World) (a : Nat → AV) (ac : Act) (n : Nat) : Prop where
  size : ac.tmps.size = n
  val : ∀ t, VR M F w (a t) (ac.tmps.getD t undef)

def ERel (M : Mp) (F : Nat → FSt) (w : World) : AExit → Exit → Prop
  | .normal, .normal => True
  | .exit i, .exit j => i = j
  | .ret, .ret => True
  | .panic v, .panic ch => ∃ v', ch = [{ v := v', recovered := false }] ∧ VR M F w v v'
  | _, _ => False

/-- the abstract end, as the model's -/
def QC (P : Program) (G : Env) (n : Nat) (D : List Deferred) (M0 : Mp) (F0 : Nat → FSt) (w0 : World) (Q : AQ) (e : Exit) (ac : Act) (w : World) : Prop :=
  ∃ e' a σ M, Q e' a σ ∧ ERel M σ.F w e' e ∧ Sim M σ w ∧ GOk P G M σ.F w ∧ Ext M0 F0 w0 M σ.F w ∧ Fr M σ.F w a ac n ∧ ac.defers = D

/-- what holds of a piece of code -/
def AWp (P : Program) (G : Env) (n : Nat) (c : Code) (Q : AQ) (a : Nat → AV) (σ : AS) : Prop :=
  ∀ (ro : Option Nat) (D : List Deferred) (M0 : Mp) (F0 : Nat → FSt) (w0 : World) (M : Mp) (w : World) (ac : Act), Sim M σ w → GOk P G M σ.F w → Ext M0 F0 w0 M σ.F w → Fr M σ.F w a ac n → ac.defers = D →
    c.wpIn (wideAt ro) 0 P (QC P G n D M0 F0 w0 Q) ac w

theorem AWp.mono {P G n c a σ} {Q Q' : AQ} (h : AWp P G n c Q a σ) (hq : ∀ e a σ, Q e a σ → Q' e a σ) : AWp P G n c Q' a σ :=
  fun ro D M0 F0 w0 M w ac S g E f d => wpIn_mono (h ro D M0 F0 w0 M w ac S g E f d) fun _ _ _ ⟨e', a, σ, M, q, r⟩ => ⟨e', a, σ, M, hq _ _ _ q, r⟩

theorem ev_VR {P G M F w a ac n} (g : GOk P G M F w) (f : Fr M F w a ac n) (x : Operand) : VR M F w (ev G a x) (ac.eval x) := by
  cases x with
  | tmp t => exact f.val t
  | const v => exact ofVal_VR ..
  | global i => exact g.vars i
  | func i => exact .fn _ _ _ _ _ rfl rfl (fun j h => absurd h (Nat.not_lt_zero _)) (fun j h => absurd h (Nat.not_lt_zero _))

theorem Fr.mono {M F w M' F' w' a ac n} (f : Fr M F w a ac n) (E : Ext M F w M' F' w') : Fr M' F' w' a ac n := ⟨f.size, fun t => (f.val t).mono E⟩

theorem Fr.put {M F w a ac n v v'} (f : Fr M F w a ac n) {d : Option Tmp} (hd : dstIn n d = true) (hv : VR M F w v v') : Fr M F w (put a d v) (ac.put d v') n := by
  cases d with
  | none => exact f
  | some d =>
    simp [dstIn] at hd
    refine ⟨by simp [Act.put, f.size], fun t => ?_⟩
    simp only [Act.put, Abs.put, upd]
    by_cases h : t = d
    · subst h
      rw [if_pos rfl]
      rw [show (ac.tmps.setIfInBounds t v').getD t undef = v' by simp [Array.getD, f.size, hd]]
      exact hv
    · rw [if_neg h]
      rw [show (ac.tmps.setIfInBounds d v').getD t undef = ac.tmps.getD t undef by
        simp only [Array.getD_eq_getD_getElem?]; rw [Array.getElem?_setIfInBounds_ne (Ne.symm h)]]
      exact f.val t

theorem Fr.any {M F w a ac n} (f : Fr M F w a ac n) : Fr M F w anyFrame ac n := ⟨f.size, fun _ => .undef _⟩

theorem isSelect_false {P G a σ K PK} {op : Op} (h : aeff P G a σ K PK op) : ∀ cs b, op ≠ .select cs b := by
  rintro cs b rfl; exact h

theorem aop1_nodefer {P G a σ K Q} {op : Op} {d : Option Nat} (h : aop1 P G op d a σ K Q) : ∀ c, op ≠ .defer c := by
  rintro c rfl
  simp [aop1, isPure, aeff] at h

/-- one operation, in the model: only the slots that it names matter -/
theorem aop1_core {P : Program} {G : Env} {n : Nat} {o : Oper} {a : Nat → AV} {σ : AS} {K : (Nat → AV) → AS → Prop} {Q : AQ} (h : aop1 P G o.op o.dst a σ K Q)
    {ro : Option Nat} {D : List Deferred} {M0 F0 w0 M w} {ac : Act} (S : Sim M σ w) (g : GOk P G M σ.F w) (E : Ext M0 F0 w0 M σ.F w) (hops : ∀ x ∈ o.op.operands, VR M σ.F w (ev G a x) (ac.eval x)) (hn : ac.tmps.size = n) (hD : ac.defers = D) {Kc : Act → World → Prop}
    (hK : ∀ v v' σ' M' w', K (put a o.dst v) σ' → VR M' σ'.F w' v v' → Sim M' σ' w' → GOk P G M' σ'.F w' → Ext M σ.F w M' σ'.F w' → Kc (ac.put o.dst v') w') :
    o.wpIn (wideAt ro) 0 P ac w Kc (QC P G n D M0 F0 w0 Q) := by
  refine ⟨fun _ _ => trivial, ?_⟩
  have hsem : o.semAt (wideAt ro).round ac.eval = execOp ac.eval o := o.semAt_eq _ _ (aop1_nodefer h)
  rw [hsem]
  unfold aop1 at h
  split at h
  · obtain ⟨v, hv, hq⟩ := apure_sound h
    obtain ⟨v', M', w', h1, h2, h3, h4⟩ := hq M σ.F w ac.eval S.role hops
    rw [h1, Oper.uponIn_value]
    exact hK v v' σ M' w' hv h2 (h4 σ rfl S) (g.mono h3) h3
  · have hl := aeff_sound h S g (ρ := ac.eval) hops
    generalize (execOp ac.eval o).run P w = r at hl
    have done : ∀ v' w', Post M σ.F w (fun v σ' => K (Abs.put a o.dst v) σ') v' w' → Kc (ac.put o.dst v') w' := by
      rintro v' w' ⟨v, σ', M', hv, h1, h2, h3⟩
      exact hK v v' σ' M' w' hv h1 h2 (g.mono h3) h3
    have fell : ∀ v' w', Post M σ.F w (fun v σ' => Q (.panic v) anyFrame σ') v' w' → QC P G n D M0 F0 w0 Q (.panic [{ v := v', recovered := false }]) ac w' := by
      rintro v' w' ⟨v, σ', M', hv, h1, h2, h3⟩
      exact ⟨.panic v, anyFrame, σ', M', hv, ⟨v', rfl, h1⟩, h2, g.mono h3, E.trans h3, ⟨hn, fun _ => .undef _⟩, hD⟩
    cases r with
    | ok x w' =>
      cases x <;> simp only [Lands] at hl <;> try exact hl.elim
      · exact done _ _ hl
      · exact done _ _ hl
      · obtain ⟨rfl, hl⟩ := hl
        rw [Oper.uponIn_enter]
        refine ⟨fun h => by simp [wideAt_depth] at h, (callsIn_wideAt hl).mono fun e w'' he => ?_⟩
        cases e with
        | returned v' => exact done _ _ he
        | panicked ch =>
          obtain ⟨v', rfl, hp⟩ := he
          exact fell _ _ hp
        | outgrown => exact he.elim
      · obtain ⟨rfl, hl⟩ := hl
        rw [Oper.uponIn_round]
        refine ⟨fun h => by simp [wideAt_depth] at h, (roundIn_wideAt hl).mono fun e w'' he => ?_⟩
        cases e with
        | returned v' => exact done _ _ he
        | panicked ch =>
          obtain ⟨v', rfl, hp⟩ := he
          exact fell _ _ hp
        | outgrown => exact he.elim
    | halt x w' =>
      cases x <;> simp only [Lands] at hl <;> try exact hl.elim
      exact fell _ _ hl

theorem put_defers (ac : Act) (d : Option Tmp) (v : Value) : (ac.put d v).defers = ac.defers := by unfold Act.put; split <;> rfl

theorem aop1_sound {P : Program} {G : Env} {n : Nat} {o : Oper} {a : Nat → AV} {σ : AS} {K : (Nat → AV) → AS → Prop} {Q : AQ} (h : aop1 P G o.op o.dst a σ K Q) (hd : dstIn n o.dst = true)
    {ro : Option Nat} {D : List Deferred} {M0 F0 w0 M w} {ac : Act} (S : Sim M σ w) (g : GOk P G M σ.F w) (E : Ext M0 F0 w0 M σ.F w) (f : Fr M σ.F w a ac n) (hD : ac.defers = D) {Kc : Act → World → Prop}
    (hK : ∀ a' σ' M' ac' w', K a' σ' → Sim M' σ' w' → GOk P G M' σ'.F w' → Ext M0 F0 w0 M' σ'.F w' → Fr M' σ'.F w' a' ac' n → ac'.defers = D → Kc ac' w') :
    o.wpIn (wideAt ro) 0 P ac w Kc (QC P G n D M0 F0 w0 Q) :=
  aop1_core h S g E (fun x _ => ev_VR g f x) f.size hD fun _ _ σ' M' w' k hv S' g' E' => hK _ σ' M' _ w' k S' g' (E.trans E') ((f.mono E').put hd hv) (by rw [put_defers, hD])

end Go.Abs
