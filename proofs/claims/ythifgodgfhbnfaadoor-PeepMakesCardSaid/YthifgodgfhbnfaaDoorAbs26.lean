/- A function whose first act is to defer a closure that recovers: its contract; no condition. -/
import Derived.Test.YthifgodgfhbnfaaDoorAbs25
import Derived.Recover
namespace Go.Abs
open Go

/-- the deferred closure at the function's end: it is handed what the body panicked with, if it did; the function then returns -/
def AHandle (P : Program) (G : Env) (n : Nat) (py : PC) (d0 d1 : Nat) (caps : List AV) (res : List ResultVar) (R : Out → AS → Prop) (pv : Option AV) (a : Nat → AV) (σ : AS) : Prop :=
  avc P G n py (fun e _ σ2 => (e = .normal ∨ e = .ret) ∧ ares P res a σ2 fun vs => R (.ret (tup vs)) σ2) (upd (upd (frame0 caps) d0 (pv.getD .nilif)) d1 (pv.getD .nilif)) σ
/-- the body's ends -/
def aq (H : Option AV → (Nat → AV) → AS → Prop) : AQ
  | .normal, a, σ | .ret, a, σ => H none a σ
  | .panic v, a, σ => H (some v) a σ
  | .exit _, _, _ => False

def modeOf (pv : Option Value) : FrameMode := match pv with
  | none => .returning
  | some v => .panicking [{ v := v, recovered := false }]

theorem handle_sound {P : Program} {G : Env} (hm : P.follows .mixedOrders = true) {fn : Func} {k : FuncId} {fk : Func} {rid d0 d1 : Nat} {ops : Array Oper} {r0 r1 : Oper} {y : Code} {py : PC} (hk : P.funcs[k]? = some fk) (hbk : fk.body = some (.seq (.region rid ops false) y)) (hops : ops.toList = [r0, r1])
    (h0 : r0.op = .call ⟨.builtin .recover, #[], #[]⟩) (h0d : r0.dst = some d0) (h0g : r0.guard = none) (h1 : r1.op = .assign (.tmp d0)) (h1d : r1.dst = some d1) (h1g : r1.guard = none) (hres : fk.results = #[]) (hpy : plan fk.ntmps y = some py) (hd0 : d0 < fk.ntmps) (hd1 : d1 < fk.ntmps)
    {caps : List AV} {C : Array Value} {R : Out → AS → Prop} {pv : Option AV} {pw : Option Value} {a : Nat → AV} {σ : AS} {M : Mp} {w : World} {ac : Act} {n : Nat} {M0 : Mp} {F0 : Nat → FSt} {w0 : World} (E0 : Ext M0 F0 w0 M σ.F w) (S : Sim M σ w) (g : GOk P G M σ.F w) (f : Fr M σ.F w a ac n)
    (hC : Cells M σ.F w caps C) (hcl : caps.length ≤ fk.ntmps) (hpv : VR M σ.F w (pv.getD .nilif) (pw.getD .nilIface)) (h : AHandle P G fk.ntmps py d0 d1 caps fn.results.toList R pv a σ) :
    CallsD P k (#[] ++ C) (modeOf pw) w fun e u' w' => match e with
      | .returned _ => Leaves P fn ac.tmps (Came R M0 F0 w0) [] (settle u') w'
      | .panicked chain => Leaves P fn ac.tmps (Came R M0 F0 w0) [] (raised u' chain) w'
      | .outgrown => Came R M0 F0 w0 .outgrown w' := by
  refine callsD_of_wpS hk hbk fun c₀ cs hu => ?_
  obtain ⟨fr1, fr2⟩ := args_frame hC hcl
  rw [Array.empty_append]
  generalize hac : ({ tmps := C ++ Array.replicate (fk.ntmps - C.size) undef, defers := [] } : Act) = ak
  have hf0 : Fr M σ.F w (frame0 caps) ak fk.ntmps := by rw [← hac]; exact ⟨fr1, fr2⟩
  have hdk : ak.defers = [] := by rw [← hac]
  have hsz : ops.size = 2 := by rw [← Array.length_toList, hops]; rfl
  have e0 : ops[0]? = some r0 := by rw [← Array.getElem?_toList, hops]; rfl
  have e1 : ops[1]? = some r1 := by rw [← Array.getElem?_toList, hops]; rfl
  -- behind the region
  have behind : ∀ (cs' : List Frame) (u' : FrameMode), cs' = { c₀ with mode := u' } :: cs → settle u' = .returning →
      y.wpS P (bodyPostS P fk c₀ cs fun e u' w' => match e with
        | .returned _ => Leaves P fn ac.tmps (Came R M0 F0 w0) [] (settle u') w'
        | .panicked chain => Leaves P fn ac.tmps (Came R M0 F0 w0) [] (raised u' chain) w'
        | .outgrown => Came R M0 F0 w0 .outgrown w') ((ak.put (some d0) (pw.getD .nilIface)).put (some d1) (pw.getD .nilIface)) cs' w := by
    intro cs' u' hcs hset
    have f1 := (hf0.put (d := some d0) (by simpa [dstIn] using hd0) hpv).put (d := some d1) (by simpa [dstIn] using hd1) hpv
    refine wpS_of_wp ((wpIn_wide (n := 0)).1 (wpIn_mono (avc_sound hm y py hpy _ _ σ h none [] M σ.F w M w _ S g (.refl ..) f1 (by rw [put_defers, put_defers, hdk])) fun e a2 w2 hq => ?_))
    obtain ⟨e', a', σ', M', q, r, S', g', E', f', hD'⟩ := hq
    obtain ⟨he, hares⟩ := q
    have fin : ∃ v, (results fk a2.tmps).run P w2 = .ok v w2 ∧ Leaves P fn ac.tmps (Came R M0 F0 w0) [] (settle u') w2 := by
      obtain ⟨v, hr, out, hR, hO⟩ := results_sound S' (fun t => (f.val t).mono E') hares
      obtain ⟨v2, hr2, _⟩ := results_sound (fn := fk) (tmps := a2.tmps) (R := fun _ _ => True) S' f'.val (by rw [hres]; exact trivial)
      rw [hset]
      exact ⟨v2, hr2, v, hr, out, σ', M', hR, hO, S', E0.trans E'⟩
    rcases he with rfl | rfl
    · cases e <;> simp only [ERel] at r
      obtain ⟨v2, hr2, hl⟩ := fin
      exact ⟨hD', u', hcs, v2, hr2, hl⟩
    · cases e <;> simp only [ERel] at r
      obtain ⟨v2, hr2, hl⟩ := fin
      exact ⟨hD', u', hcs, v2, hr2, hl⟩
  have run0 : ∀ ρ : Operand → Value, (execOp ρ r0).run P w = .ok .recover w := by
    intro ρ
    unfold execOp; rw [h0]
    simp [resolve, invoke, builtin]
  have run1 : ∀ (v : Value), (execOp (ak.put (some d0) v).eval r1).run P w = .ok (.value v) w := by
    intro v
    have e : (ak.put (some d0) v).eval (.tmp d0) = v := by
      simp only [Act.eval, Act.put]
      rw [Array.getD_eq_getD_getElem?, Array.getElem?_setIfInBounds, if_pos rfl, if_pos (by have := hf0.size; omega)]
      rfl
    unfold execOp; rw [h1]
    simp [e]
  have want0 : ∀ y, Region.wanted r0 y = true := fun y => by simp [Region.wanted, h0g]
  have want1 : ∀ y, Region.wanted r1 y = true := fun y => by simp [Region.wanted, h1g]
  refine wpS_seq (wpS_region ?_)
  rw [hsz, show List.range 2 = [0, 1] from rfl]
  simp only [wpOpsS, e0, e1, want0, want1, if_true, run0]
  cases pw with
  | none =>
    have hrec : recoverD (c₀ :: cs) = none := by simp [recoverD, hu, modeOf]
    rw [hrec]
    simp only [h0d, run1, Oper.upon_value, h1d]
    exact behind _ .returning (by rw [show ({ c₀ with mode := FrameMode.returning } : Frame) = c₀ by cases c₀; simp only [modeOf] at hu; subst hu; rfl]) rfl
  | some v =>
    have hrec : recoverD (c₀ :: cs) = some (v, { c₀ with mode := .panicking [{ v, recovered := true }] } :: cs) := by simp [recoverD, hu, modeOf]
    rw [hrec]
    simp only [h0d, run1, Oper.upon_value, h1d]
    exact behind _ (.panicking [{ v, recovered := true }]) rfl (by simp [settle])

theorem Cells.mono' {M F w M' F' w' cs A} (h : Cells M F w cs A) (E : Ext M F w M' F' w') : Cells M' F' w' cs A := ⟨h.1, fun j v hj => let ⟨c, a, b⟩ := h.2 j v hj; ⟨c, a, b.mono E⟩⟩
theorem acalls_recover {P : Program} {G : Env} (hm : P.follows .mixedOrders = true) {f : FuncId} {fn : Func} {n : Nat} {x z : Code} {qid t : Nat} {qops : Array Oper} {o0 o1 : Oper} {capsA : Array Operand} {px pz : PC} {res : List ResultVar} {args : List AV} {σ : AS} {R : Out → AS → Prop}
    (hf : P.funcs[f]? = some fn) (hnt : fn.ntmps = n) (hres' : fn.results.toList = res) (hb : fn.body = some (.seq x (.seq (.region qid qops false) z))) (hqops : qops.toList = [o0, o1]) (hx : plan n x = some px) (hz : plan n z = some pz) (hn : args.length ≤ n)
    {k : FuncId} {fk : Func} {nk rid d0 d1 : Nat} {ops : Array Oper} {r0 r1 : Oper} {y : Code} {py : PC}
    (m0 : o0.op = .makeFunc (.func k) #[] capsA) (m0d : o0.dst = some t) (m0g : o0.guard = none) (m1 : o1.op = .defer ⟨.value (.tmp t), #[], #[]⟩) (m1d : o1.dst = none) (m1g : o1.guard = none) (ht : t < n)
    (hk : P.funcs[k]? = some fk) (hnk : fk.ntmps = nk) (hck : callable P k = true) (hbk : fk.body = some (.seq (.region rid ops false) y)) (hops : ops.toList = [r0, r1])
    (h0 : r0.op = .call ⟨.builtin .recover, #[], #[]⟩) (h0d : r0.dst = some d0) (h0g : r0.guard = none) (h1 : r1.op = .assign (.tmp d0)) (h1d : r1.dst = some d1) (h1g : r1.guard = none) (hres : fk.results = #[]) (hpy : plan nk y = some py) (hd0 : d0 < nk) (hd1 : d1 < nk) (hcl : capsA.size ≤ nk)
    (h : avc P G n px (athen (fun a σ => avc P G n pz (aq (AHandle P G nk py d0 d1 (capsA.toList.map (ev G a)) res R)) (upd a t (.fn (.func k) [] (capsA.toList.map (ev G a)))) σ) fun _ _ _ => False) (frame0 args) σ) : ACalls P G f args σ R := by
  subst hnt; subst hres'; subst hnk
  intro M w cargs S g0 hc
  obtain ⟨fr1, fr2⟩ := args_frame hc hn
  refine calls_of_wp_defers hf hb (wp_seq (wp_mono ((wpIn_wide (n := 0)).1 (avc_sound hm x px hx _ _ σ h none [] M σ.F w M w { tmps := _, defers := [] } S g0 (.refl ..) ⟨fr1, fr2⟩ rfl)) fun e ac1 w1 hq => ?_))
  obtain ⟨e', a1, σ1, M1, q, r, S1, g1, E1, f1, hD1⟩ := hq
  cases e' with
  | exit i => exact q.elim
  | ret => exact q.elim
  | panic v => exact q.elim
  | normal =>
    cases e <;> simp only [ERel] at r
    -- the closure is made and deferred
    have hC : Cells M1 σ1.F w1 (capsA.toList.map (ev G a1)) (capsA.map ac1.eval) := by
      refine Cells.of (by simp) fun j h h' => ?_
      simp only [List.getElem_map, Array.getElem_map, Array.getElem_toList]
      exact ev_VR g1 f1 _
    have hfv : VR M1 σ1.F w1 (.fn (.func k) [] (capsA.toList.map (ev G a1))) (.func (.func k) #[] (capsA.map ac1.eval)) :=
      .fn _ _ _ _ _ rfl hC.1 (fun j h => absurd h (Nat.not_lt_zero _)) hC.get
    have f2 := f1.put (d := some t) (by simpa [dstIn] using ht) hfv
    have run0 : (execOp ac1.eval o0).run P w1 = .ok (.value (.func (.func k) #[] (capsA.map ac1.eval))) w1 := by
      unfold execOp; rw [m0]
      simp [Instr.makeFunc]
    have run1 : (execOp (ac1.put (some t) (.func (.func k) #[] (capsA.map ac1.eval))).eval o1).run P w1 = .ok (.defer ⟨.fn (.func k) (capsA.map ac1.eval), #[]⟩) w1 := by
      have e : (ac1.put (some t) (.func (.func k) #[] (capsA.map ac1.eval))).eval (.tmp t) = .func (.func k) #[] (capsA.map ac1.eval) := by
        simp only [Act.eval, Act.put]
        rw [Array.getD_eq_getD_getElem?, Array.getElem?_setIfInBounds, if_pos rfl, if_pos (by have := f1.size; omega)]
        rfl
      unfold execOp; rw [m1]
      simp [resolve, e, Deferred.ofValue]
    have want0 : ∀ y, Region.wanted o0 y = true := fun y => by simp [Region.wanted, m0g]
    have want1 : ∀ y, Region.wanted o1 y = true := fun y => by simp [Region.wanted, m1g]
    have step : ∀ Q : Exit → Act → World → Prop, Q .normal { ac1.put (some t) (.func (.func k) #[] (capsA.map ac1.eval)) with defers := [⟨.fn (.func k) (capsA.map ac1.eval), #[]⟩] } w1 → (Code.region qid qops false).wp P Q ac1 w1 := by
      intro Q hQ
      refine (wpIn_wide (n := 0)).1 (wpIn_region_list ?_)
      rw [hqops]
      unfold wpListIn
      rw [if_pos (want0 _)]
      refine ⟨fun _ _ => trivial, ?_⟩
      rw [show (o0.semAt Fence.wide.round ac1.eval) = execOp ac1.eval o0 from rfl, run0, Oper.uponIn_value, m0d]
      unfold wpListIn
      rw [if_pos (want1 _)]
      refine ⟨fun _ _ => trivial, ?_⟩
      rw [show (o1.semAt Fence.wide.round (ac1.put (some t) (.func (.func k) #[] (capsA.map ac1.eval))).eval) = execOp (ac1.put (some t) (.func (.func k) #[] (capsA.map ac1.eval))).eval o1 from rfl, run1, Oper.uponIn_defer, m1d, put_defers, hD1]
      exact hQ
    refine wp_seq (step _ ?_)
    have f2' : Fr M1 σ1.F w1 (upd a1 t (.fn (.func k) [] (capsA.toList.map (ev G a1)))) { ac1.put (some t) (.func (.func k) #[] (capsA.map ac1.eval)) with defers := [⟨.fn (.func k) (capsA.map ac1.eval), #[]⟩] } fn.ntmps := ⟨f2.size, f2.val⟩
    refine wp_mono ((wpIn_wide (n := 0)).1 (avc_sound hm z pz hz _ _ σ1 q none [⟨.fn (.func k) (capsA.map ac1.eval), #[]⟩] M1 σ1.F w1 M1 w1 _ S1 g1 (.refl ..) f2' rfl)) fun e ac3 w3 hq3 => ?_
    obtain ⟨e3, a3, σ3, M3, q3, r3, S3, g3, E3, f3, hD3⟩ := hq3
    have hinv : ∀ w, (invoke (.fn (.func k) (capsA.map ac1.eval)) #[]).run P w = .ok (.enter k (#[] ++ capsA.map ac1.eval)) w := fun w => invoke_fn hck w
    have hC3 := Cells.mono' hC E3
    have hcl' : (capsA.toList.map (ev G a1)).length ≤ fk.ntmps := by simpa using hcl
    cases e3 with
    | exit i => exact q3.elim
    | normal =>
      cases e <;> simp only [ERel] at r3
      simp only [bodyPostD, hD3]
      exact leaves_cons (by simp) (hinv w3) (CallsD.mono (handle_sound hm hk hbk hops h0 h0d h0g h1 h1d h1g hres hpy hd0 hd1 (pw := none) (E1.trans E3) S3 g3 f3 hC3 hcl' .nilif q3) fun e u' w' h => by cases e <;> exact h)
    | ret =>
      cases e <;> simp only [ERel] at r3
      simp only [bodyPostD, hD3]
      exact leaves_cons (by simp) (hinv w3) (CallsD.mono (handle_sound hm hk hbk hops h0 h0d h0g h1 h1d h1g hres hpy hd0 hd1 (pw := none) (E1.trans E3) S3 g3 f3 hC3 hcl' .nilif q3) fun e u' w' h => by cases e <;> exact h)
    | panic v =>
      cases e <;> simp only [ERel] at r3
      obtain ⟨v', rfl, hv⟩ := r3
      simp only [bodyPostD, hD3]
      exact leaves_cons (by simp) (hinv w3) (CallsD.mono (handle_sound hm hk hbk hops h0 h0d h0g h1 h1d h1g hres hpy hd0 hd1 (pv := some v) (pw := some v') (E1.trans E3) S3 g3 f3 hC3 hcl' hv q3) fun e u' w' h => by cases e <;> exact h)
end Go.Abs
