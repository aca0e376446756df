/- A function that, behind two parts of its text, defers a closure that recovers: its contract; no condition. -/
import Derived.Test.YthifgodgfhbnfaaDoorAbs29
import Derived.Recover
namespace Go.Abs
open Go
theorem recover_rest {P : Program} {G : Env} (hm : P.follows .mixedOrders = true) {fn : Func} {z : Code} {qid t : Nat} {qops : Array Oper} {o0 o1 : Oper} {capsA : Array Operand} {pz : PC} {R : Out → AS → Prop}
    (hqops : qops.toList = [o0, o1]) (hz : plan fn.ntmps z = some pz)
    {k : FuncId} {fk : Func} {rid d0 d1 : Nat} {ops : Array Oper} {r0 r1 : Oper} {y : Code} {py : PC}
    (m0 : o0.op = .makeFunc (.func k) #[] capsA) (m0d : o0.dst = some t) (m0g : o0.guard = none) (m1 : o1.op = .defer ⟨.value (.tmp t), #[], #[]⟩) (m1d : o1.dst = none) (m1g : o1.guard = none) (ht : t < fn.ntmps)
    (hk : P.funcs[k]? = some fk) (hck : callable P k = true) (hbk : fk.body = some (.seq (.region rid ops false) y)) (hops : ops.toList = [r0, r1])
    (h0 : r0.op = .call ⟨.builtin .recover, #[], #[]⟩) (h0d : r0.dst = some d0) (h0g : r0.guard = none) (h1 : r1.op = .assign (.tmp d0)) (h1d : r1.dst = some d1) (h1g : r1.guard = none) (hres : fk.results = #[]) (hpy : plan fk.ntmps y = some py) (hd0 : d0 < fk.ntmps) (hd1 : d1 < fk.ntmps) (hcl : capsA.size ≤ fk.ntmps)
    {M : Mp} {F : Nat → FSt} {w : World} {M1 : Mp} {σ1 : AS} {w1 : World} {a1 : Nat → AV} {ac1 : Act} (S1 : Sim M1 σ1 w1) (g1 : GOk P G M1 σ1.F w1) (E1 : Ext M F w M1 σ1.F w1) (f1 : Fr M1 σ1.F w1 a1 ac1 fn.ntmps) (hD1 : ac1.defers = [])
    (q : avc P G fn.ntmps pz (aq (AHandle P G fk.ntmps py d0 d1 (capsA.toList.map (ev G a1)) fn.results.toList R)) (upd a1 t (.fn (.func k) [] (capsA.toList.map (ev G a1)))) σ1) :
    (Code.seq (.region qid qops false) z).wp P (bodyPostD P fn (Came R M F w)) ac1 w1 := by
  -- the closure is made and deferred
  have hC : Cells M1 σ1.F w1 (capsA.toList.map (ev G a1)) (capsA.map ac1.eval) := by
    refine Cells.of (by simp) fun j h h' => ?_
    simp only [List.getElem_map, Array.getElem_map, Array.getElem_toList]
    exact ev_VR g1 f1 _
  have hfv : VR M1 σ1.F w1 (.fn (.func k) [] (capsA.toList.map (ev G a1))) (.func (.func k) #[] (capsA.map ac1.eval)) :=
    .fn _ _ _ _ _ rfl hC.1 (fun j h => absurd h (Nat.not_lt_zero _)) hC.get
  have f2 := f1.put (d := some t) (by simpa [dstIn] using ht) hfv
  have run0 : (execOp ac1.eval o0).run P w1 = .ok (.value (.func (.func k) #[] (capsA.map ac1.eval))) w1 := by
    unfold execOp; rw [m0]
    simp [Instr.makeFunc]
  have run1 : (execOp (ac1.put (some t) (.func (.func k) #[] (capsA.map ac1.eval))).eval o1).run P w1 = .ok (.defer ⟨.fn (.func k) (capsA.map ac1.eval), #[]⟩) w1 := by
    have e : (ac1.put (some t) (.func (.func k) #[] (capsA.map ac1.eval))).eval (.tmp t) = .func (.func k) #[] (capsA.map ac1.eval) := by
      simp only [Act.eval, Act.put]
      rw [Array.getD_eq_getD_getElem?, Array.getElem?_setIfInBounds, if_pos rfl, if_pos (by have := f1.size; omega)]
      rfl
    unfold execOp; rw [m1]
    simp [resolve, e, Deferred.ofValue]
  have want0 : ∀ y, Region.wanted o0 y = true := fun y => by simp [Region.wanted, m0g]
  have want1 : ∀ y, Region.wanted o1 y = true := fun y => by simp [Region.wanted, m1g]
  have step : ∀ Q : Exit → Act → World → Prop, Q .normal { ac1.put (some t) (.func (.func k) #[] (capsA.map ac1.eval)) with defers := [⟨.fn (.func k) (capsA.map ac1.eval), #[]⟩] } w1 → (Code.region qid qops false).wp P Q ac1 w1 := by
    intro Q hQ
    refine (wpIn_wide (n := 0)).1 (wpIn_region_list ?_)
    rw [hqops]
    unfold wpListIn
    rw [if_pos (want0 _)]
    refine ⟨fun _ _ => trivial, ?_⟩
    rw [show (o0.semAt Fence.wide.round ac1.eval) = execOp ac1.eval o0 from rfl, run0, Oper.uponIn_value, m0d]
    unfold wpListIn
    rw [if_pos (want1 _)]
    refine ⟨fun _ _ => trivial, ?_⟩
    rw [show (o1.semAt Fence.wide.round (ac1.put (some t) (.func (.func k) #[] (capsA.map ac1.eval))).eval) = execOp (ac1.put (some t) (.func (.func k) #[] (capsA.map ac1.eval))).eval o1 from rfl, run1, Oper.uponIn_defer, m1d, put_defers, hD1]
    exact hQ
  refine wp_seq (step _ ?_)
  have f2' : Fr M1 σ1.F w1 (upd a1 t (.fn (.func k) [] (capsA.toList.map (ev G a1)))) { ac1.put (some t) (.func (.func k) #[] (capsA.map ac1.eval)) with defers := [⟨.fn (.func k) (capsA.map ac1.eval), #[]⟩] } fn.ntmps := ⟨f2.size, f2.val⟩
  refine wp_mono ((wpIn_wide (n := 0)).1 (avc_sound hm z pz hz _ _ σ1 q none [⟨.fn (.func k) (capsA.map ac1.eval), #[]⟩] M1 σ1.F w1 M1 w1 _ S1 g1 (.refl ..) f2' rfl)) fun e ac3 w3 hq3 => ?_
  obtain ⟨e3, a3, σ3, M3, q3, r3, S3, g3, E3, f3, hD3⟩ := hq3
  have hinv : ∀ w, (invoke (.fn (.func k) (capsA.map ac1.eval)) #[]).run P w = .ok (.enter k (#[] ++ capsA.map ac1.eval)) w := fun w => invoke_fn hck w
  have hC3 := Cells.mono' hC E3
  have hcl' : (capsA.toList.map (ev G a1)).length ≤ fk.ntmps := by simpa using hcl
  cases e3 with
  | exit i => exact q3.elim
  | normal =>
    cases e <;> simp only [ERel] at r3
    simp only [bodyPostD, hD3]
    exact leaves_cons (by simp) (hinv w3) (CallsD.mono (handle_sound hm hk hbk hops h0 h0d h0g h1 h1d h1g hres hpy hd0 hd1 (pw := none) (E1.trans E3) S3 g3 f3 hC3 hcl' .nilif q3) fun e u' w' h => by cases e <;> exact h)
  | ret =>
    cases e <;> simp only [ERel] at r3
    simp only [bodyPostD, hD3]
    exact leaves_cons (by simp) (hinv w3) (CallsD.mono (handle_sound hm hk hbk hops h0 h0d h0g h1 h1d h1g hres hpy hd0 hd1 (pw := none) (E1.trans E3) S3 g3 f3 hC3 hcl' .nilif q3) fun e u' w' h => by cases e <;> exact h)
  | panic v =>
    cases e <;> simp only [ERel] at r3
    obtain ⟨v', rfl, hv⟩ := r3
    simp only [bodyPostD, hD3]
    exact leaves_cons (by simp) (hinv w3) (CallsD.mono (handle_sound hm hk hbk hops h0 h0d h0g h1 h1d h1g hres hpy hd0 hd1 (pv := some v) (pw := some v') (E1.trans E3) S3 g3 f3 hC3 hcl' hv q3) fun e u' w' h => by cases e <;> exact h)

theorem acalls_recover2 {P : Program} {G : Env} (hm : P.follows .mixedOrders = true) {f : FuncId} {fn : Func} {n : Nat} {x x2 z : Code} {qid t : Nat} {qops : Array Oper} {o0 o1 : Oper} {capsA : Array Operand} {px px2 pz : PC} {res : List ResultVar} {args : List AV} {σ : AS} {R : Out → AS → Prop}
    (hf : P.funcs[f]? = some fn) (hnt : fn.ntmps = n) (hres' : fn.results.toList = res) (hb : fn.body = some (.seq x (.seq x2 (.seq (.region qid qops false) z)))) (hqops : qops.toList = [o0, o1]) (hx : plan n x = some px) (hx2 : plan n x2 = some px2) (hz : plan n z = some pz) (hn : args.length ≤ n)
    {k : FuncId} {fk : Func} {nk rid d0 d1 : Nat} {ops : Array Oper} {r0 r1 : Oper} {y : Code} {py : PC}
    (m0 : o0.op = .makeFunc (.func k) #[] capsA) (m0d : o0.dst = some t) (m0g : o0.guard = none) (m1 : o1.op = .defer ⟨.value (.tmp t), #[], #[]⟩) (m1d : o1.dst = none) (m1g : o1.guard = none) (ht : t < n)
    (hk : P.funcs[k]? = some fk) (hnk : fk.ntmps = nk) (hck : callable P k = true) (hbk : fk.body = some (.seq (.region rid ops false) y)) (hops : ops.toList = [r0, r1])
    (h0 : r0.op = .call ⟨.builtin .recover, #[], #[]⟩) (h0d : r0.dst = some d0) (h0g : r0.guard = none) (h1 : r1.op = .assign (.tmp d0)) (h1d : r1.dst = some d1) (h1g : r1.guard = none) (hres : fk.results = #[]) (hpy : plan nk y = some py) (hd0 : d0 < nk) (hd1 : d1 < nk) (hcl : capsA.size ≤ nk)
    (h : avc P G n px (athen (avc P G n px2 (athen (fun a σ => avc P G n pz (aq (AHandle P G nk py d0 d1 (capsA.toList.map (ev G a)) res R)) (upd a t (.fn (.func k) [] (capsA.toList.map (ev G a)))) σ) fun _ _ _ => False)) fun _ _ _ => False) (frame0 args) σ) : ACalls P G f args σ R := by
  subst hnt; subst hres'; subst hnk
  intro M w cargs S g0 hc
  obtain ⟨fr1, fr2⟩ := args_frame hc hn
  refine calls_of_wp_defers hf hb (wp_seq (wp_mono ((wpIn_wide (n := 0)).1 (avc_sound hm x px hx _ _ σ h none [] M σ.F w M w { tmps := _, defers := [] } S g0 (.refl ..) ⟨fr1, fr2⟩ rfl)) fun e ac1 w1 hq => ?_))
  obtain ⟨e', a1, σ1, M1, q, r, S1, g1, E1, f1, hD1⟩ := hq
  cases e' with
  | exit i => exact q.elim
  | ret => exact q.elim
  | panic v => exact q.elim
  | normal =>
    cases e <;> simp only [ERel] at r
    refine wp_seq (wp_mono ((wpIn_wide (n := 0)).1 (avc_sound hm x2 px2 hx2 _ _ σ1 q none [] M1 σ1.F w1 M1 w1 ac1 S1 g1 (.refl ..) f1 hD1)) fun e ac2 w2 hq2 => ?_)
    obtain ⟨e2, a2, σ2, M2, q2, r2, S2, g2, E2, f2, hD2⟩ := hq2
    cases e2 with
    | exit i => exact q2.elim
    | ret => exact q2.elim
    | panic v => exact q2.elim
    | normal =>
      cases e <;> simp only [ERel] at r2
      exact recover_rest hm hqops hz m0 m0d m0g m1 m1d m1g ht hk hck hbk hops h0 h0d h0g h1 h1d h1g hres hpy hd0 hd1 hcl S2 g2 (E1.trans E2) f2 hD2 q2
end Go.Abs
