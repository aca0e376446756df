/- A function that ends in a range over a function: its contract; no condition. -/
import Derived.Test.YthifgodgfhbnfaaDoorAbs24
set_option linter.unusedSimpArgs false
set_option linter.unusedVariables false
namespace Go.Abs
open Go

theorem results_sound {P : Program} {fn : Func} {a' : Nat → AV} {σ' : AS} {M' : Mp} {w' : World} {tmps : Array Value} {R : Out → AS → Prop} (S' : Sim M' σ' w') (f' : ∀ t, VR M' σ'.F w' (a' t) (tmps.getD t undef))
    (hq : ares P fn.results.toList a' σ' fun vs => R (.ret (tup vs)) σ') : ∃ v, (results fn tmps).run P w' = .ok v w' ∧ ∃ out, R out σ' ∧ OutRel M' σ'.F w' out (.returned v) := by
  have key : ∀ g : ResultVar → Sem Value, (∀ t, (g (.tmp t)).run P w' = .ok (tmps.getD t undef) w') → (∀ t ty q v, tmps.getD t undef = .pointer (some q) → (loadVar ty q).run P w' = .ok v w' → (g (.cell t ty)).run P w' = .ok v w') →
      ∃ v, ((((List.mapM g fn.results.toList).run P w').andThen fun a w' => .ok a.toArray w').andThen fun vs w => (pure (if h : vs.size = 1 then vs[0] else .tuple vs) : Sem Value).run P w) = .ok v w' ∧
        ∃ out, R out σ' ∧ OutRel M' σ'.F w' out (.returned v) := by
    intro g g1 g2
    obtain ⟨vs, cs, hK, hr, hcc⟩ := ares_sound S' f' g1 g2 _ _ hq
    rw [hr]
    simp only [Result.andThen_ok, Sem.run_pure]
    refine ⟨_, rfl, .ret (tup vs), hK, ?_⟩
    have hl := hcc.1
    simp only [OutRel]
    have hget := hcc.get
    split
    · rename_i h1
      cases vs with
      | nil => rw [h1] at hl; simp at hl
      | cons v r =>
        cases r with
        | nil => exact hget 0 (by simp) (by rw [h1]; exact Nat.one_pos)
        | cons _ _ => rw [h1] at hl; simp at hl
    · rename_i h1
      have : tup vs = .tuple vs := by
        cases vs with
        | nil => rfl
        | cons v r =>
          cases r with
          | nil => exact absurd (by simpa using hl) h1
          | cons _ _ => rfl
      rw [this]
      exact .tuple _ _ hl hget
  unfold results
  rw [Sem.run_bind, Array.mapM_eq_mapM_toList, Sem.run_map]
  exact key _ (fun _ => rfl) (fun t ty q v h1 h2 => by
    simp only [h1, asAddr, Sem.run_bind, Sem.run_pure, Result.andThen_ok, h2])

theorem args_frame {M F w n} {args : List AV} {cargs : Array Value} (hc : Cells M F w args cargs) (hn : args.length ≤ n) :
    (cargs ++ Array.replicate (n - cargs.size) undef).size = n ∧ ∀ t, VR M F w (frame0 args t) ((cargs ++ Array.replicate (n - cargs.size) undef).getD t undef) := by
  refine ⟨?_, fun t => ?_⟩
  · have := hc.1
    simp only [Array.size_append, Array.size_replicate]; omega
  · unfold frame0
    rw [Array.getD_eq_getD_getElem?]
    by_cases ht : t < args.length
    · obtain ⟨x, h1, h2⟩ := hc.2 t _ (List.getElem?_eq_getElem ht)
      rw [Array.getElem?_append_left (by rw [hc.1]; exact ht), h1, List.getElem?_eq_getElem ht]
      exact h2
    · rw [Array.getElem?_append_right (show cargs.size ≤ t by rw [hc.1]; omega), List.getElem?_eq_none (by omega), Array.getElem?_replicate]
      split <;> exact undef_VR ..

/-! ### a frame that is known -/
def WpB (P : Program) (b : Frame) (c : Code) (Q : Exit → Act → World → Prop) (a : Act) (w : World) : Prop :=
  ∀ (k : List Item) (cs : List Frame), ∃ e a' w', Q e a' w' ∧ ArrivesIn (Machine.fenced P Fence.wide) P (lone (b.atR a (.code c :: k)) cs w) b k cs e a' w'
section
variable {P : Program} {b : Frame} {Q : Exit → Act → World → Prop} {a : Act} {w : World}
theorem WpB.of {n : Nat} {c : Code} (hb : b.roundOf = none) (h : c.wpIn Fence.wide n P Q a w) : WpB P b c Q a w := fun k cs => h b k cs hb trivial (room_wide _)
theorem WpB.seq {x y : Code} (h : WpB P b x (Exit.then (WpB P b y Q) Q) a w) : WpB P b (.seq x y) Q a w := by
  intro k cs
  have h0 : (lone (b.atR a (.code (.seq x y) :: k)) cs w).fenced P Fence.wide := fenced_wide _ _
  obtain ⟨e, a₁, w₁, hq, harr⟩ := h (.code y :: k) cs
  cases e with
  | normal =>
    obtain ⟨e₂, a₂, w₂, hq₂, harr₂⟩ := hq k cs
    exact ⟨e₂, a₂, w₂, hq₂, .of_steps (.head h0 stepR_seq harr) harr₂⟩
  | exit id => exact ⟨_, a₁, w₁, hq, .of_steps (.one h0 stepR_seq) (.pass (x := .code y) rfl (fun _ _ => .inl (by simp)) harr)⟩
  | goto l => exact ⟨_, a₁, w₁, hq, .of_steps (.one h0 stepR_seq) (.pass (x := .code y) rfl (fun _ _ => .inl (by simp)) harr)⟩
  | ret => exact ⟨_, a₁, w₁, hq, .of_steps (.one h0 stepR_seq) (.pass (x := .code y) rfl (fun _ _ => .inl (by simp)) harr)⟩
  | panic ch => exact ⟨_, a₁, w₁, hq, .of_steps (.one h0 stepR_seq) (.pass (x := .code y) rfl (fun _ _ => .inl (by simp)) harr)⟩
  | outgrown => exact ⟨_, a₁, w₁, hq, .of_steps (.one h0 stepR_seq) (.pass (x := .code y) rfl (fun _ _ => .inl (by simp)) harr)⟩
theorem WpB.block {id : Nat} {c : Code} (h : WpB P b c (fun e a w => (e = .normal ∨ ∃ ch, e = .panic ch) ∧ Q e a w) a w) : WpB P b (.block id c) Q a w := by
  intro k cs
  have h0 : (lone (b.atR a (.code (.block id c) :: k)) cs w).fenced P Fence.wide := fenced_wide _ _
  obtain ⟨e, a₁, w₁, ⟨he, hq⟩, harr⟩ := h (.inBlock id :: k) cs
  rcases he with rfl | ⟨ch, rfl⟩
  · exact ⟨.normal, a₁, w₁, hq, .head h0 stepR_block (StepsIn.trans harr (.one (fenced_wide _ _) stepR_inBlock))⟩
  · obtain ⟨todo, hs⟩ := harr
    exact ⟨.panic ch, a₁, w₁, hq, todo, .head h0 stepR_block hs⟩
theorem WpB.range {g : Operand} {ps : Array Tmp} {assign body : Code} {l : Nat} {mark : List Deferred} {w₁ : World} {d : Deferred} {w₁' : World} {f : FuncId} {args : Array Value} {w₂ : World}
    (he : (Instr.enterLoop b.fn a.tmps ps assign body b.roundOf).run P w = .ok (l, mark) w₁) (hres : (resolve a.eval (rangeCall g l) 0).run P w₁ = .ok d w₁') (hinv : (invoke d.target d.args).run P w₁' = .ok (.enter f args) w₂)
    (hcall : Calls P f args w₂ fun e w₃ => match e with
      | .returned _ => ∃ w₄, (Instr.endLoop l).run P w₃ = .ok none w₄ ∧ Q .normal { a with defers := mark ++ a.defers } w₄
      | .panicked chain => Q (.panic chain) { a with defers := mark ++ a.defers } w₃
      | .outgrown => False) : WpB P b (.rangeFunc g ps assign body) Q a w := by
  intro k cs
  have henter := stepR_rangeFunc (P := P) (b := b) (a := a) (k := k) (cs := cs) (w := w) he hres hinv
  obtain ⟨e, w₃, fr, hR, hsteps, hfn, hleave⟩ := (callsIn_wide (n := 0)).2 hcall |>.2 (b.atR { a with defers := mark ++ a.defers } (.inRangeFunc l :: k) :: cs) (room_wide _)
  cases e with
  | outgrown => exact hR.elim
  | returned v =>
    obtain ⟨w₄, hend, hj⟩ := hR
    refine ⟨.normal, _, w₄, hj, .head (fenced_wide _ _) henter (StepsIn.trans hsteps (.head (fenced_wide _ _) ?_ (.one (fenced_wide _ _) (stepR_endRangeFunc hend))))⟩
    rw [← finish_atR_inRangeFunc l v]; exact step_leave_returned hleave
  | panicked chain =>
    refine ⟨.panic chain, _, w₃, hR, .inRangeFunc l :: k, .head (fenced_wide _ _) henter (StepsIn.trans hsteps (.one (fenced_wide _ _) ?_))⟩
    rw [← Frame.raise_atR]; exact step_leave_panicked hleave
theorem calls_of_wpB {f : FuncId} {fn : Func} {c : Code} {args : Array Value} {R : Ending → World → Prop} (hf : P.funcs[f]? = some fn) (hb : fn.body = some c)
    (h : ∀ b : Frame, b.fn = f → b.roundOf = none → WpB P b c (bodyPostM Fence.wide 0 P fn R) { tmps := args ++ Array.replicate (fn.ntmps - args.size) undef, defers := [] } w) : Calls P f args w R := by
  refine (callsIn_wide (n := 0)).1 ⟨trivial, fun cs hr => ?_⟩
  let b : Frame := { (default : Frame) with fn := f, kind := .normal, roundOf := none }
  have henter : Frame.enter P f args .normal = b.atR { tmps := args ++ Array.replicate (fn.ntmps - args.size) undef, defers := [] } [.code c] := by
    simp [Frame.enter, Frame.atR, hf, hb, b]
  obtain ⟨e, a', w', hq, harr⟩ := h b rfl rfl [] cs
  rw [← henter] at harr
  cases e with
  | normal =>
    obtain ⟨e', w'', fr', hR, hs, hfn, hl⟩ := leaves_stepsInM (F := Fence.wide) (n := 0) a'.defers .returning w' { b.atR a' [] with mode := .returning } cs rfl rfl rfl hf rfl trivial hr hq
    exact ⟨e', w'', fr', hR, ComesIn.of_steps (StepsIn.trans harr (.one (fenced_wide _ _) (stepR_end rfl))) hs, hfn, hl⟩
  | ret =>
    obtain ⟨todo, hs₀⟩ := harr.1 rfl
    obtain ⟨e', w'', fr', hR, hs, hfn, hl⟩ := leaves_stepsInM (F := Fence.wide) (n := 0) a'.defers .returning w' { b.atR a' todo with mode := .returning } cs rfl rfl rfl hf rfl trivial hr hq
    exact ⟨e', w'', fr', hR, ComesIn.of_steps hs₀ hs, hfn, hl⟩
  | panic chain =>
    obtain ⟨todo, hs₀⟩ := harr
    obtain ⟨e', w'', fr', hR, hs, hfn, hl⟩ := leaves_stepsInM (F := Fence.wide) (n := 0) a'.defers (.panicking chain) w' { b.atR a' todo with mode := .panicking chain } cs rfl rfl rfl hf rfl trivial hr hq
    exact ⟨e', w'', fr', hR, ComesIn.of_steps hs₀ hs, hfn, hl⟩
  | exit id => exact hq.elim
  | goto l => exact hq.elim
  | outgrown => exact ⟨.outgrown, w', b, hq, harr.resolve_left (by simp [b]), rfl, trivial⟩
end

/-- what a range over a function asks, at a function's end -/
def ARange (P : Program) (G : Env) (n : Nat) (pa pb : PC) (ps : List Nat) (g : Operand) (res : List ResultVar) (R : Out → AS → Prop) (a : Nat → AV) (σ : AS) : Prop :=
  ∃ it cap, ev G a g = .fn (.func it) [] cap ∧ callable P it = true ∧ ∀ l, ACalls P (G.under P n pa pb ps σ.nf a l) it (.fn (.yield l) [] [] :: cap) σ.newF fun o σ' => match o with
    | .ret _ => σ'.F σ.nf = .alive ∧ ares P res a { σ' with F := upd σ'.F σ.nf .dead } fun vs => R (.ret (tup vs)) { σ' with F := upd σ'.F σ.nf .dead }
    | .panic v => R (.panic v) σ'

/-- what a call comes to -/
def Came (R : Out → AS → Prop) (M : Mp) (F : Nat → FSt) (w : World) (e : Ending) (w' : World) : Prop := ∃ out σ' M', R out σ' ∧ OutRel M' σ'.F w' out e ∧ Sim M' σ' w' ∧ Ext M F w M' σ'.F w'
theorem Came.trans {R M F w M1 F1 w1 e w'} (E : Ext M F w M1 F1 w1) (h : Came R M1 F1 w1 e w') : Came R M F w e w' :=
  let ⟨out, σ', M', a, b, c, d⟩ := h; ⟨out, σ', M', a, b, c, E.trans d⟩

theorem resolve_fn {P : Program} {ac : Act} {g : Operand} {it l : Nat} {C : Array Value} (h : ac.eval g = .func (.func it) #[] C) (w : World) :
    (resolve ac.eval (rangeCall g l) 0).run P w = .ok ⟨.fn (.func it) C, #[.func (.yield l) #[] #[]]⟩ w := by
  have e : (rangeCall g l).args.map ac.eval = #[ac.eval (.const (.func (.yield l) #[] #[]))] := by simp [rangeCall]
  have e2 : (rangeCall g l).callee = .value g := rfl
  have e3 : ac.eval (.const (.func (.yield l) #[] #[])) = .func (.yield l) #[] #[] := rfl
  unfold resolve
  simp only [e, e2, e3, h, Deferred.ofValue, Sem.run_pure]
  rfl

theorem invoke_fn {P : Program} {it : Nat} {C args : Array Value} (hcl : callable P it = true) (w : World) : (invoke (.fn (.func it) C) args).run P w = .ok (.enter it (args ++ C)) w := by
  obtain ⟨fni, hfni, hbi, hname⟩ : ∃ fni, P.funcs[it]? = some fni ∧ fni.body.isSome = true ∧ (fni.name == "runtime.NumGoroutine") = false := by
    unfold callable at hcl
    split at hcl
    · simp only [Bool.and_eq_true, Bool.not_eq_true'] at hcl
      exact ⟨_, ‹_›, hcl.1, hcl.2⟩
    · cases hcl
  have hbn : fni.body.isNone = false := by cases hq : fni.body <;> simp [hq] at hbi ⊢
  simp only [invoke, callFunc, Sem.run_bind, run_program, Result.andThen_ok, hfni, hname, hbn, Bool.false_eq_true, if_false, Sem.run_pure]

section
variable {P : Program} {G : Env} {f : FuncId} {fn : Func} {assign body : Code} {psA : Array Nat} {pa pb : PC} {a : Nat → AV} {σ : AS} {M : Mp} {w : World} {ac : Act}

/-- the record and the block for deferred calls are laid -/
theorem range_laid (S : Sim M σ w) (d : Nat) (rec : Loop) : ∃ M1, Sim M1 σ.newF ((w.alloc (.deferred (some []))).alloc (.loop rec)) ∧ Ext M σ.F w M1 σ.newF.F ((w.alloc (.deferred (some []))).alloc (.loop rec)) ∧ M1.nf = M.nf + 1 ∧
    M1.role (w.heap.size + 1) = some (.fam M.nf) ∧ M1.role w.heap.size = some .stat ∧ ((w.alloc (.deferred (some []))).alloc (.loop rec)).heap[w.heap.size + 1]? = some (.loop rec) ∧
    ((w.alloc (.deferred (some []))).alloc (.loop rec)).heap[w.heap.size]? = some (.deferred (some [])) := by
  have Sa := sim_push S (.deferred (some [])) .stat
  have Ea := ext_push (F := σ.F) S.role (.deferred (some [])) .stat
  have hF : ∀ h, h < (M.newRole w.heap.size .stat).nf → (upd σ.F σ.nf .alive) h = σ.F h ∨ (upd σ.F σ.nf .alive) h = .dead := by
    intro h hh
    have : h < σ.nf := by rw [← S.nf]; exact hh
    exact .inl (upd_ne _ _ (by omega))
  have hsz : (w.alloc (.deferred (some []))).heap.size = w.heap.size + 1 := by simp
  have Sb := sim_newFam Sa (.loop rec) (w' := (w.alloc (.deferred (some []))).alloc (.loop rec)) rfl ⟨rfl, rfl, rfl⟩ hF
  have Eb := ext_newFam (F := σ.F) Sa.role (.loop rec) (w' := (w.alloc (.deferred (some []))).alloc (.loop rec)) rfl ⟨rfl, rfl, rfl⟩ hF
  have e0 : ({ w with heap := w.heap.push (.deferred (some [])) } : World) = w.alloc (.deferred (some [])) := rfl
  rw [e0, hsz] at Sb Eb
  refine ⟨_, Sb, Ea.trans Eb, rfl, ?_, ?_, ?_, ?_⟩
  · simp only [Mp.newFam]; rw [upd_same]; rfl
  · simp only [Mp.newFam]; rw [upd_ne _ _ (by omega)]; simp only [Mp.newRole]; rw [upd_same]
  · show ((w.heap.push _).push _)[w.heap.size + 1]? = _
    rw [Array.getElem?_push, if_pos (by simp)]
  · show ((w.heap.push _).push _)[w.heap.size]? = _
    simp [Array.getElem?_push]

theorem range_frame (hm : P.follows .mixedOrders = true) (hf : P.funcs[f]? = some fn) (hpa : plan fn.ntmps assign = some pa) (hpb : plan fn.ntmps body = some pb) (hps : psA.toList.all (· < fn.ntmps) = true)
    {b : Frame} (hbf : b.fn = f) (hbr : b.roundOf = none) {M0 : Mp} {F0 : Nat → FSt} {w0 : World} (E0 : Ext M0 F0 w0 M σ.F w) (S : Sim M σ w) (g0 : GOk P G M σ.F w) (fr : Fr M σ.F w a ac fn.ntmps) (hD : ac.defers = []) {g : Operand} {R : Out → AS → Prop} {id : Nat}
    (h : ARange P G fn.ntmps pa pb psA.toList g fn.results.toList R a σ) : WpB P b (.block id (.rangeFunc g psA assign body)) (bodyPostM Fence.wide 0 P fn (Came R M0 F0 w0)) ac w := by
  subst hbf
  obtain ⟨it, cap, hit, hcl, hcall⟩ := h
  have hfv := ev_VR g0 fr g
  rw [hit] at hfv
  obtain ⟨C, hρ, hC⟩ : ∃ C, ac.eval g = .func (.func it) #[] C ∧ Cells M σ.F w cap C := by
    generalize ac.eval g = c at hfv
    cases hfv with
    | fn _ _ _ A B ha hb va vb =>
      have : A = #[] := Array.eq_empty_of_size_eq_zero ha
      subst this
      exact ⟨B, rfl, Cells.of hb vb⟩
  have henter := run_enterLoop_outer (P := P) (w := w) b.fn ac.tmps psA assign body
  rw [← hbr] at henter
  obtain ⟨M1, S1, E1, hnf1, hrole, hroled, hheap, hheapd⟩ := range_laid S 0 { state := .ready, pending := none, fn := b.fn, tmps := ac.tmps, params := psA, assign := assign, body := body, defers := w.heap.size }
  generalize hwL : (w.alloc (.deferred (some []))).alloc (.loop { state := .ready, pending := none, fn := b.fn, tmps := ac.tmps, params := psA, assign := assign, body := body, defers := w.heap.size }) = wL at henter S1 E1 hheap hheapd
  have hsnf := S.nf
  have hgu : GOk P (G.under P fn.ntmps pa pb psA.toList σ.nf a (w.heap.size + 1)) M1 σ.newF.F wL := by
    refine ⟨(g0.mono E1).vars, fun x hx => ?_, (g0.mono E1).fixed⟩
    have hx' : x = w.heap.size + 1 := hx
    subst hx'
    refine ⟨_, M.nf, M1, _, wL, .refl .., by rw [hnf1]; omega, fun _ => ⟨hrole, hheap⟩, fun args σ K PK hy => by rw [hsnf]; exact hy.2.2.1, S1.role, ?_⟩
    rw [← hsnf]
    exact yrun_under hm hf hpa hpb (fun p hp => of_decide_eq_true (List.all_eq_true.1 hps p hp)) g0 E1 (by omega) (by rw [hnf1]; omega) fr.size (fun t => (fr.val t).mono E1)
  have hyv : VR M1 σ.newF.F wL (.fn (.yield (w.heap.size + 1)) [] []) (.func (.yield (w.heap.size + 1)) #[] #[]) := .fn _ _ _ _ _ rfl rfl (fun j h => absurd h (Nat.not_lt_zero _)) (fun j h => absurd h (Nat.not_lt_zero _))
  have hcc : Cells M1 σ.newF.F wL (.fn (.yield (w.heap.size + 1)) [] [] :: cap) (#[.func (.yield (w.heap.size + 1)) #[] #[]] ++ C) := by
    refine ⟨by have := hC.1; simp; omega, fun j v hj => ?_⟩
    cases j with
    | zero => simp only [List.getElem?_cons_zero, Option.some.injEq] at hj; subst hj; exact ⟨_, by rw [Array.getElem?_append_left (by simp)]; rfl, hyv⟩
    | succ j =>
      simp only [List.getElem?_cons_succ] at hj
      obtain ⟨c, h1, h2⟩ := hC.2 j v hj
      exact ⟨c, by rw [Array.getElem?_append_right (by simp)]; exact h1, h2.mono E1⟩
  have hc3 := hcall (w.heap.size + 1) M1 wL _ S1 hgu hcc
  refine WpB.block (WpB.range henter (resolve_fn hρ wL) (invoke_fn hcl wL) (hc3.mono fun e w3 he => ?_))
  obtain ⟨out', σ3, M3, hR, hO, S3, E3⟩ := he
  have Efull := E1.trans E3
  have hd3 := (E3.stat w.heap.size hroled).2.trans hheapd
  cases out' with
  | ret v =>
    cases e with
    | panicked ch => exact hO.elim
    | outgrown => exact hO.elim
    | returned v' =>
      obtain ⟨hal3, hares⟩ := hR
      have hal3' : σ3.F M.nf = .alive := by rw [hsnf]; exact hal3
      have hheap3 := (E3.famc _ _ (by rw [hnf1]; omega) hrole hal3').trans hheap
      have hrole3 := E3.famr _ _ (by rw [hnf1]; omega) hrole (by rw [hal3']; simp)
      refine ⟨_, run_endLoop hheap3 (by simp), .inl rfl, ?_⟩
      generalize hr1 : (Obj.loop { state := .exhausted, pending := none, fn := b.fn, tmps := ac.tmps, params := psA, assign := assign, body := body, defers := w.heap.size }) = rec1
      have hc1 : rec1.isCells = false := by rw [← hr1]; rfl
      have E4 := Ext.putFam (o1 := rec1) hheap3 rfl hrole3 hal3'
      have Ed := Ext.dead_fam (M := M3) (w := w3) hal3'
      have sc4 := sameCells_put (o' := rec1) hheap3 rfl hc1
      have hd4 : (w3.putObj (w.heap.size + 1) rec1).heap[w.heap.size]? = some (.deferred (some [])) := by rw [putObj_heap, if_neg (by omega)]; exact hd3
      have sc5 := sameCells_put (o' := Obj.deferred none) hd4 rfl rfl
      have S5 := ((S3.ext_F Ed).same sc4).same sc5
      have E5 := (Efull.trans E4).putBehind (o1 := .deferred none) hd4 rfl (Nat.le_refl _) S.role
      have f5 : ∀ t, VR M3 (upd σ3.F M.nf .dead) _ (a t) (ac.tmps.getD t undef) := fun t => ((fr.val t).mono (Efull.trans E4)).same sc5
      rw [hsnf] at S5 f5 E5
      obtain ⟨v5, hr5, out5, hR5, hO5⟩ := results_sound S5 f5 hares
      simp only [bodyPostM, hD, List.append_nil, LeavesInM]
      exact ⟨by simp, .inl ⟨_, _, rfl, run_takeDeferred hd4, v5, hr5, out5, _, M3, hR5, hO5, S5, E0.trans E5⟩⟩
  | panic v =>
    cases e with
    | returned v' => exact hO.elim
    | outgrown => exact hO.elim
    | panicked ch =>
      obtain ⟨v', rfl, hv⟩ := hO
      refine ⟨.inr ⟨_, rfl⟩, ?_⟩
      have sc5 := sameCells_put (o' := Obj.deferred none) hd3 rfl rfl
      have E5 := Efull.putBehind (o1 := .deferred none) hd3 rfl (Nat.le_refl _) S.role
      simp only [bodyPostM, hD, List.append_nil, LeavesInM]
      exact ⟨by simp, .inl ⟨_, _, rfl, run_takeDeferred hd3, .panic v, σ3, M3, hR, ⟨v', rfl, hv.same sc5⟩, S3.same sc5, E0.trans E5⟩⟩
end

theorem acalls_range {P : Program} {G : Env} {f : FuncId} {fn : Func} {n : Nat} {x y assign body : Code} {id : Nat} {g : Operand} {psA : Array Nat} {px py pa pb : PC} {res : List ResultVar} {args : List AV} {σ : AS} {R : Out → AS → Prop}
    (hm : P.follows .mixedOrders = true) (hf : P.funcs[f]? = some fn) (hnt : fn.ntmps = n) (hres : fn.results.toList = res) (hb : fn.body = some (.seq x (.seq y (.block id (.rangeFunc g psA assign body)))))
    (hx : plan n x = some px) (hy : plan n y = some py) (hpa : plan n assign = some pa) (hpb : plan n body = some pb) (hps : psA.toList.all (· < n) = true) (hn : args.length ≤ n)
    (h : avc P G n px (athen (avc P G n py (athen (ARange P G n pa pb psA.toList g res R) fun _ _ _ => False)) fun _ _ _ => False) (frame0 args) σ) : ACalls P G f args σ R := by
  subst hnt; subst hres
  intro M w cargs S g0 hc
  refine calls_of_wpB hf hb fun b hbf hbr => ?_
  obtain ⟨fr1, fr2⟩ := args_frame hc hn
  refine WpB.seq (WpB.of (n := 0) hbr (wpIn_mono (avc_sound hm x px hx _ _ σ h none [] M σ.F w M w { tmps := _, defers := [] } S g0 (.refl ..) ⟨fr1, fr2⟩ rfl) fun e ac' w' hq => ?_))
  obtain ⟨e', a', σ', M', q, r, S', g', E', f', hD'⟩ := hq
  cases e' with
  | exit i => exact q.elim
  | ret => exact q.elim
  | panic v => exact q.elim
  | normal =>
    cases e <;> simp only [ERel] at r
    refine WpB.seq (WpB.of (n := 0) hbr (wpIn_mono (avc_sound hm y py hy _ _ σ' q none [] M σ.F w M' w' ac' S' g' E' f' hD') fun e ac2 w2 hq2 => ?_))
    obtain ⟨e2, a2, σ2, M2, q2, r2, S2, g2, E2, f2, hD2⟩ := hq2
    cases e2 with
    | exit i => exact q2.elim
    | ret => exact q2.elim
    | panic v => exact q2.elim
    | normal =>
      cases e <;> simp only [ERel] at r2
      exact range_frame hm hf hpa hpb hps hbf hbr E2 S2 g2 f2 hD2 q2
end Go.Abs
