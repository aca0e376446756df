/- What a function's text asks, and its contract; loops; no condition. -/
import Derived.Test.YthifgodgfhbnfaaDoorAbs16
namespace Go.Abs
open Go

/-- a text in planned form -/
inductive PC where
  | skip
  | ops (l : List PO)
  | both (ls : List (List PO))
  | seq (x y : PC)
  | cond (c : Operand) (x y : PC)
  | block (id : Nat) (c : PC)
  | loop (c : PC)
  | exit (id : Nat)
  | ret

def plan (n : Nat) : Code → Option PC
  | .skip => some .skip
  | .region _ ops draw => match mkPlan n ops draw with
    | some l => some (.ops l)
    | none => (mkBoth n ops draw).map .both
  | .seq x y => (plan n x).bind fun p => (plan n y).map fun q => .seq p q
  | .cond c x y => (plan n x).bind fun p => (plan n y).map fun q => .cond c p q
  | .block id c => (plan n c).map (.block id)
  | .loop c => (plan n c).map .loop
  | .exit id => some (.exit id)
  | .ret => some .ret
  | _ => none

/-- what holds of a loop -/
def ALoop (P : Program) (G : Env) (n : Nat) (p : PC) (Q : AQ) (a : Nat → AV) (σ : AS) : Prop :=
  P.follows .mixedOrders = true → ∀ c, plan n c = some p → AWp P G n (.loop c) Q a σ

/-- WHAT A TEXT ASKS. -/
def avc (P : Program) (G : Env) (n : Nat) : PC → AQ → (Nat → AV) → AS → Prop
  | .skip, Q, a, σ => Q .normal a σ
  | .ops l, Q, a, σ => aops P G (withPf (hide l a) Q) l a σ
  | .both ls, Q, a, σ => aalts P G Q a σ ls
  | .seq x y, Q, a, σ => avc P G n x (athen (avc P G n y Q) Q) a σ
  | .cond c x y, Q, a, σ =>
    match ev G a c with
    | .bool b => (b = true → avc P G n x Q a σ) ∧ (b = false → avc P G n y Q a σ)
    | _ => False
  | .block id c, Q, a, σ => avc P G n c (ablock id Q) a σ
  | .loop c, Q, a, σ => ALoop P G n c Q a σ
  | .exit id, Q, a, σ => Q (.exit id) a σ
  | .ret, Q, a, σ => Q .ret a σ

theorem avc_sound {P : Program} {G : Env} {n : Nat} (hm : P.follows .mixedOrders = true) : ∀ (c : Code) (p : PC), plan n c = some p → ∀ (Q : AQ) a σ, avc P G n p Q a σ → AWp P G n c Q a σ := by
  intro c
  induction c with
  | skip => intro p hp Q a σ h; simp [plan] at hp; subst hp; exact fun ro D M0 F0 w0 M w ac S g E f hD => wpIn_skip ⟨.normal, a, σ, M, h, trivial, S, g, E, f, hD⟩
  | region id ops draw =>
    intro p hp Q a σ h
    simp only [plan] at hp
    split at hp
    · rename_i l hl
      cases hp
      exact region_sound hm hl h
    · obtain ⟨ls, hl, rfl⟩ := Option.map_eq_some_iff.1 hp
      exact both_sound hm hl h
  | seq x y ihx ihy =>
    intro p hp Q a σ h
    simp only [plan, Option.bind_eq_some_iff, Option.map_eq_some_iff] at hp
    obtain ⟨p1, h1, p2, h2, rfl⟩ := hp
    have hx := ihx p1 h1 _ a σ h
    intro ro D M0 F0 w0 M w ac S g E f hD
    refine wpIn_seq (wpIn_mono (hx ro D M0 F0 w0 M w ac S g E f hD) fun e ac' w' hq => ?_)
    obtain ⟨e', a', σ', M', q, r, S', g', E', f', hD'⟩ := hq
    cases e' with
    | normal => cases e <;> simp only [ERel] at r; exact ihy p2 h2 Q a' σ' q ro D M0 F0 w0 M' w' ac' S' g' E' f' hD'
    | exit i => cases e <;> simp only [ERel] at r; exact ⟨.exit i, a', σ', M', q, r, S', g', E', f', hD'⟩
    | ret => cases e <;> simp only [ERel] at r; exact ⟨.ret, a', σ', M', q, trivial, S', g', E', f', hD'⟩
    | panic v => cases e <;> simp only [ERel] at r; exact ⟨.panic v, a', σ', M', q, r, S', g', E', f', hD'⟩
  | cond c x y ihx ihy =>
    intro p hp Q a σ h
    simp only [plan, Option.bind_eq_some_iff, Option.map_eq_some_iff] at hp
    obtain ⟨p1, h1, p2, h2, rfl⟩ := hp
    simp only [avc] at h
    intro ro D M0 F0 w0 M w ac S g E f hD
    split at h
    · rename_i b hb
      have hv := ev_VR g f c
      rw [hb] at hv
      refine wpIn_cond_split hv.bool_inv (fun hb' => ?_) (fun hb' => ?_)
      · exact ihx p1 h1 Q a σ (h.1 hb') ro D M0 F0 w0 M w ac S g E f hD
      · exact ihy p2 h2 Q a σ (h.2 hb') ro D M0 F0 w0 M w ac S g E f hD
    · exact h.elim
  | block id c ih =>
    intro p hp Q a σ h
    simp only [plan, Option.map_eq_some_iff] at hp
    obtain ⟨p1, h1, rfl⟩ := hp
    have hx := ih p1 h1 _ a σ h
    intro ro D M0 F0 w0 M w ac S g E f hD
    refine wpIn_block (wpIn_mono (hx ro D M0 F0 w0 M w ac S g E f hD) fun e ac' w' hq => ?_)
    obtain ⟨e', a', σ', M', q, r, S', g', E', f', hD'⟩ := hq
    cases e' with
    | normal => cases e <;> simp only [ERel] at r; exact ⟨.normal, a', σ', M', q, trivial, S', g', E', f', hD'⟩
    | exit i =>
      cases e <;> simp only [ERel] at r
      subst r
      simp only [ablock] at q
      simp only [Exit.inBlock]
      split at q
      · rename_i hi; rw [if_pos hi]; exact ⟨.normal, a', σ', M', q, trivial, S', g', E', f', hD'⟩
      · rename_i hi; rw [if_neg hi]; exact ⟨.exit _, a', σ', M', q, rfl, S', g', E', f', hD'⟩
    | ret => cases e <;> simp only [ERel] at r; exact ⟨.ret, a', σ', M', q, trivial, S', g', E', f', hD'⟩
    | panic v => cases e <;> simp only [ERel] at r; exact ⟨.panic v, a', σ', M', q, r, S', g', E', f', hD'⟩
  | loop c ih =>
    intro p hp Q a σ h
    simp only [plan, Option.map_eq_some_iff] at hp
    obtain ⟨p1, h1, rfl⟩ := hp
    exact h hm c h1
  | exit id => intro p hp Q a σ h; simp [plan] at hp; subst hp; exact fun ro D M0 F0 w0 M w ac S g E f hD => wpIn_exit ⟨.exit id, a, σ, M, h, rfl, S, g, E, f, hD⟩
  | ret => intro p hp Q a σ h; simp [plan] at hp; subst hp; exact fun ro D M0 F0 w0 M w ac S g E f hD => wpIn_ret ⟨.ret, a, σ, M, h, trivial, S, g, E, f, hD⟩
  | rangeFunc => intro p hp; simp [plan] at hp
  | scope => intro p hp; simp [plan] at hp
  | label => intro p hp; simp [plan] at hp
  | goto => intro p hp; simp [plan] at hp
  | refuse => intro p hp; simp [plan] at hp

/-- A LOOP, BY AN INVARIANT AND A MEASURE. -/
theorem aloop {P : Program} {G : Env} {n : Nat} {p : PC} {Q : AQ} {a : Nat → AV} {σ : AS} (I : (Nat → AV) → AS → Prop) (μ : (Nat → AV) → AS → Nat) (h0 : I a σ)
    (round : ∀ a σ, I a σ → avc P G n p (athen (fun a' σ' => I a' σ' ∧ μ a' σ' < μ a σ) Q) a σ) : ALoop P G n p Q a σ := by
  intro hm c hc ro D M0 F0 w0 M w ac S g E f hD
  have key : ∀ (m : Nat) (a : Nat → AV) (σ : AS) (M : Mp) (w : World) (ac : Act), μ a σ < m → I a σ → Sim M σ w → GOk P G M σ.F w → Ext M0 F0 w0 M σ.F w → Fr M σ.F w a ac n → ac.defers = D →
      Code.roundsIn (wideAt ro) 0 P c (QC P G n D M0 F0 w0 Q) m ac w := by
    intro m
    induction m with
    | zero => intro a σ M w ac h; omega
    | succ m ih =>
      intro a σ M w ac hlt hI S g E f hD
      rw [roundsIn_succ]
      refine wpIn_mono (avc_sound hm c p hc _ a σ (round a σ hI) ro D M0 F0 w0 M w ac S g E f hD) fun e ac' w' hq => ?_
      obtain ⟨e', a', σ', M', q, r, S', g', E', f', hD'⟩ := hq
      cases e' with
      | normal => cases e <;> simp only [ERel] at r; exact ih a' σ' M' w' ac' (by have := q.2; omega) q.1 S' g' E' f' hD'
      | exit i => cases e <;> simp only [ERel] at r; exact ⟨.exit i, a', σ', M', q, r, S', g', E', f', hD'⟩
      | ret => cases e <;> simp only [ERel] at r; exact ⟨.ret, a', σ', M', q, trivial, S', g', E', f', hD'⟩
      | panic v => cases e <;> simp only [ERel] at r; exact ⟨.panic v, a', σ', M', q, r, S', g', E', f', hD'⟩
  exact wpIn_loop_rounds (μ a σ + 1) (key _ a σ M w ac (by omega) h0 S g E f hD)

/-- the frame that a call begins with -/
def frame0 (args : List AV) : Nat → AV := fun t => (args[t]?).getD (.tuple [])

/-- the results -/
def ares (P : Program) : List ResultVar → (Nat → AV) → AS → (List AV → Prop) → Prop
  | [], _, _, K => K []
  | .tmp t :: r, a, σ, K => ares P r a σ fun vs => K (a t :: vs)
  | .cell t ty :: r, a, σ, K => aload P ty (a t) σ fun v => ares P r a σ fun vs => K (v :: vs)

def tup : List AV → AV
  | [v] => v
  | vs => .tuple vs

/-- how a function ends -/
def afin (P : Program) (res : List ResultVar) (R : Out → AS → Prop) : AQ
  | .normal, a, σ | .ret, a, σ => ares P res a σ fun vs => R (.ret (tup vs)) σ
  | .panic v, _, σ => R (.panic v) σ
  | _, _, _ => False

theorem ares_sound {P : Program} {M : Mp} {σ : AS} {w : World} (S : Sim M σ w) {a : Nat → AV} {tmps : Array Value} (f : ∀ t, VR M σ.F w (a t) (tmps.getD t undef)) {g : ResultVar → Sem Value}
    (g1 : ∀ t, (g (.tmp t)).run P w = .ok (tmps.getD t undef) w) (g2 : ∀ t ty q v, tmps.getD t undef = .pointer (some q) → (loadVar ty q).run P w = .ok v w → (g (.cell t ty)).run P w = .ok v w) :
    ∀ (l : List ResultVar) (K : List AV → Prop), ares P l a σ K → ∃ (vs : List AV) (cs : List Value), K vs ∧ (l.mapM g).run P w = .ok cs w ∧ Cells M σ.F w vs cs.toArray := by
  intro l
  induction l with
  | nil => intro K h; exact ⟨[], [], h, by simp, ⟨by simp, by simp⟩⟩
  | cons r l ih =>
    intro K h
    have app : ∀ {v c vs cs}, VR M σ.F w v c → Cells M σ.F w vs (cs : List Value).toArray → Cells M σ.F w (v :: vs) (c :: cs).toArray := by
      intro v c vs cs hv hc
      refine ⟨by have := hc.1; simpa using this, fun j x hj => ?_⟩
      cases j with
      | zero => simp at hj; subst hj; exact ⟨c, by simp, hv⟩
      | succ j =>
        simp at hj
        obtain ⟨y, h1, h2⟩ := hc.2 j x hj
        exact ⟨y, by simpa using h1, h2⟩
    cases r with
    | tmp t =>
      simp only [ares] at h
      obtain ⟨vs, cs, hK, hr, hc⟩ := ih _ h
      exact ⟨_, _, hK, by rw [List.mapM_cons, Sem.run_bind, g1]; simp [hr], app (f t) hc⟩
    | cell t ty =>
      simp only [ares] at h
      obtain ⟨v, hK, hh⟩ := aload_sound h
      obtain ⟨v', h1, h2⟩ := hh M w _ S (f t)
      obtain ⟨vs, cs, hK, hr, hc⟩ := ih _ hK
      refine ⟨_, v' :: cs, hK, ?_, app h2 hc⟩
      have h3 : (g (.cell t ty)).run P w = .ok v' w := by
        generalize hq : tmps.getD t undef = p at h1
        cases p with
        | pointer q =>
          cases q with
          | none => simp [Instr.loadAt, Instr.sureAddr] at h1
          | some q => exact g2 t ty q v' hq (by simpa [Instr.loadAt, Instr.sureAddr] using h1)
        | _ => simp [Instr.loadAt, Instr.sureAddr] at h1
      rw [List.mapM_cons, Sem.run_bind, h3]
      simp [hr]

/-- A FUNCTION's CONTRACT, FROM WHAT ITS TEXT ASKS. -/
theorem acalls {P : Program} {G : Env} {f : FuncId} {fn : Func} {c : Code} {p : PC} {args : List AV} {σ : AS} {R : Out → AS → Prop} (hm : P.follows .mixedOrders = true) (hf : P.funcs[f]? = some fn) (hb : fn.body = some c)
    (hp : plan fn.ntmps c = some p) (hn : args.length ≤ fn.ntmps) (h : avc P G fn.ntmps p (afin P fn.results.toList R) (frame0 args) σ) : ACalls P G f args σ R := by
  intro M w cargs S g hc
  refine calls_of_wp hf hb (wpIn_wide.1 (wpIn_mono (avc_sound hm c p hp _ _ σ h none [] M σ.F w M w _ S g (.refl ..) ⟨?_, fun t => ?_⟩ rfl) fun e ac' w' hq => ?_))
  · have := hc.1
    simp only [Array.size_append, Array.size_replicate]; omega
  · unfold frame0
    rw [Array.getD_eq_getD_getElem?]
    by_cases ht : t < args.length
    · obtain ⟨x, h1, h2⟩ := hc.2 t _ (List.getElem?_eq_getElem ht)
      rw [Array.getElem?_append_left (by rw [hc.1]; exact ht), h1, List.getElem?_eq_getElem ht]
      exact h2
    · rw [Array.getElem?_append_right (show cargs.size ≤ t by rw [hc.1]; omega), List.getElem?_eq_none (by omega), Array.getElem?_replicate]
      split <;> exact undef_VR ..
  · obtain ⟨e', a', σ', M', q, r, S', g', E', f', hD'⟩ := hq
    have fin : ares P fn.results.toList a' σ' (fun vs => R (.ret (tup vs)) σ') →
        ∃ v, (results fn ac'.tmps).run P w' = .ok v w' ∧ ∃ out σ' M', R out σ' ∧ OutRel M' σ'.F w' out (.returned v) ∧ Sim M' σ' w' ∧ Ext M σ.F w M' σ'.F w' := by
      intro hq
      have key : ∀ g : ResultVar → Sem Value, (∀ t, (g (.tmp t)).run P w' = .ok (ac'.tmps.getD t undef) w') → (∀ t ty q v, ac'.tmps.getD t undef = .pointer (some q) → (loadVar ty q).run P w' = .ok v w' → (g (.cell t ty)).run P w' = .ok v w') →
          ∃ v, ((((List.mapM g fn.results.toList).run P w').andThen fun a w' => .ok a.toArray w').andThen fun vs w => (pure (if h : vs.size = 1 then vs[0] else .tuple vs) : Sem Value).run P w) = .ok v w' ∧
            ∃ out σ' M', R out σ' ∧ OutRel M' σ'.F w' out (.returned v) ∧ Sim M' σ' w' ∧ Ext M σ.F w M' σ'.F w' := by
        intro g g1 g2
        obtain ⟨vs, cs, hK, hr, hcc⟩ := ares_sound S' f'.val g1 g2 _ _ hq
        rw [hr]
        simp only [Result.andThen_ok, Sem.run_pure]
        refine ⟨_, rfl, .ret (tup vs), σ', M', hK, ?_, S', E'⟩
        have hl := hcc.1
        simp only [OutRel]
        have hget := hcc.get
        split
        · rename_i h1
          cases vs with
          | nil => rw [h1] at hl; simp at hl
          | cons v r =>
            cases r with
            | nil => exact hget 0 (by simp) (by rw [h1]; exact Nat.one_pos)
            | cons _ _ => rw [h1] at hl; simp at hl
        · rename_i h1
          have : tup vs = .tuple vs := by
            cases vs with
            | nil => rfl
            | cons v r =>
              cases r with
              | nil => exact absurd (by simpa using hl) h1
              | cons _ _ => rfl
          rw [this]
          exact .tuple _ _ hl hget
      unfold results
      rw [Sem.run_bind, Array.mapM_eq_mapM_toList, Sem.run_map]
      exact key _ (fun _ => rfl) (fun t ty q v h1 h2 => by
        simp only [h1, asAddr, Sem.run_bind, Sem.run_pure, Result.andThen_ok, h2])
    cases e' with
    | normal => cases e <;> simp only [ERel] at r; exact ⟨hD', fin q⟩
    | ret => cases e <;> simp only [ERel] at r; exact ⟨hD', fin q⟩
    | exit i => exact q.elim
    | panic v =>
      cases e <;> simp only [ERel] at r
      obtain ⟨v', rfl, hv⟩ := r
      exact ⟨hD', .panic v, σ', M', q, ⟨v', rfl, hv⟩, S', E'⟩

theorem acalls' {P : Program} {G : Env} {f n : Nat} {fn : Func} {p : PC} {l : List ResultVar} {args : List AV} {σ : AS} {R : Out → AS → Prop} (hm : P.follows .mixedOrders = true) (hf : P.funcs[f]? = some fn) (hn : fn.ntmps = n)
    (hl : fn.results.toList = l) (hp : fn.body.bind (plan fn.ntmps) = some p) (ha : args.length ≤ n) (h : avc P G n p (afin P l R) (frame0 args) σ) : ACalls P G f args σ R := by
  subst hn; subst hl
  obtain ⟨c, hc, hp⟩ := Option.bind_eq_some_iff.1 hp
  exact acalls hm hf hc hp ha h

end Go.Abs
