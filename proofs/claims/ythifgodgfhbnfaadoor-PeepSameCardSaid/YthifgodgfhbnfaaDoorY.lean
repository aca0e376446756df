/- What a call comes to, given what a list comes to; under the conditions that each theorem names. -/
import Derived.Test.YthifgodgfhbnfaaDoorX
import Derived.Test.YthifgodgfhbnfaaDoorC
import Derived.Test.YthifgodgfhbnfaaDoorAbs30
set_option linter.unusedSimpArgs false
set_option linter.unusedVariables false
namespace Go.Proofs.YthifgodgfhbnfaaDoor
open Go Go.Abs
section
variable {G : Env} {fs : List F} {mm mn : Int} {σ0 σ : AS} {xo mo fo : Nat} {L T D : List Nat} {x : Mach} {r : Fr} {R : Out → AS → Prop}
/-- a call's arguments -/
def ArgV (σ : AS) (v : AV) (l : List Int) : Prop := (l = [] ∧ v = .sl (.stat true) 1 []) ∨ OwnV σ v l
theorem ArgV.one {σ v l} (h : ArgV σ v l) : v.known = true ∧ v.one = true ∧ v.cells = [v] := by
  rcases h with ⟨_, rfl⟩ | h
  · simp
  · exact h.one
theorem cloneOwn_calls {l : List Int} {sv : AV} (h : OwnV σ sv l) (hl : l.length ≤ 2 ^ 40) (hR : ∀ av σ', ArgV σ' av l → Adds σ σ' → (∀ g ∈ famL av, σ.nf ≤ g) → R (.ret av) σ') : ACalls Tryd.prog G 38 [sv] σ R := by
  refine calls38 rfl ?_
  rcases h with ⟨rfl, rfl⟩ | ⟨g, rfl, h1, h2⟩
  · have := hR .nilsl σ (.inr (.inl ⟨rfl, rfl⟩)) (.refl _) (by simp [famL])
    simp [pc38, aeq]
    exact this
  · cases l with
    | nil =>
      have := hR (.sl (.stat true) 1 []) σ (.inl ⟨rfl, rfl⟩) (.refl _) (by simp [famL])
      simp [pc38, aeq, h2]
      exact this
    | cons n l =>
      have := hR (.sl (.fam σ.nf false) 1 ((n :: l).map (.int .i64))) σ.newF (.inr (.inr ⟨_, rfl, by simp, by simp⟩)) (Adds.refl σ).newF (by simp [famL])
      simp at hl
      simp [pc38, aeq, h2]
      exact ⟨by omega, by simpa using this⟩
theorem grown_args {av : AV} {args : List Int} {n : Nat} {K : AV → AS → Prop} (h : ArgV σ av args) (hl : args.length + n ≤ 2 ^ 40)
    (hK : ∀ cv σ', ArgV σ' cv (args ++ List.replicate n 0) → σ'.objs = σ.objs → σ'.no = σ.no → σ.nf ≤ σ'.nf → (∀ k, k < σ.nf → k ∉ famL av → σ'.F k = σ.F k) → (∀ k ∈ famL cv, k ∈ famL av ∨ σ.nf ≤ k) → K cv σ') :
    grown 8 1 av (List.replicate n (.int .i64 0)) σ K := by
  have hrep : ∀ m, (List.replicate m (AV.int .i64 0)) = (List.replicate m (0 : Int)).map (.int .i64) := fun m => by simp
  have fresh : ∀ {a : List Int}, ArgV σ.newF (.sl (.fam σ.nf false) 1 ((a ++ List.replicate n 0).map (.int .i64))) (a ++ List.replicate n 0) := fun {a} => .inr (.inr ⟨_, rfl, by simp, by simp⟩)
  rcases h with ⟨rfl, rfl⟩ | ⟨rfl, rfl⟩ | ⟨g, rfl, h1, h2⟩
  · cases n with
    | zero => simpa using hK (.sl (.stat true) 1 []) σ (.inl ⟨rfl, rfl⟩) rfl rfl (Nat.le_refl _) (fun _ _ _ => rfl) (by simp [famL])
    | succ n =>
      have := hK _ σ.newF (fresh (a := [])) (by simp) (by simp) (by simp) (fun k h1 _ => by simp; intro h; omega) (by simp [famL])
      rw [List.replicate_succ]
      simp at hl
      simp
      refine ⟨by omega, ?_⟩
      simpa [List.replicate_succ] using this
  · cases n with
    | zero => simpa using hK .nilsl σ (.inr (.inl ⟨rfl, rfl⟩)) rfl rfl (Nat.le_refl _) (fun _ _ _ => rfl) (by simp [famL])
    | succ n =>
      have := hK _ σ.newF (fresh (a := [])) (by simp) (by simp) (by simp) (fun k h1 _ => by simp; intro h; omega) (by simp [famL])
      rw [List.replicate_succ]
      simp at hl
      simp
      refine ⟨by omega, ?_⟩
      simpa [List.replicate_succ] using this
  · have := hK (.sl (.fam σ.nf false) 1 ((args ++ List.replicate n 0).map (.int .i64))) (σ.setF g .dead).newF (.inr (.inr ⟨_, rfl, by simp, by simp⟩)) (by simp) (by simp) (by simp) (fun k h1 h2 => by simp [famL] at h2; simp [h2]; intro h; omega) (by simp [famL])
    simp [h2]
    exact ⟨by omega, by simpa using this⟩
theorem XM.adds {ov : AV} {σ' : AS} (hm : XM fs mm mn σ0 xo mo D T x ov σ) (A : Adds σ σ') : XM fs mm mn σ0 xo mo D T x ov σ' := by
  have hno := hm.no
  have hxl := hm.xl
  have hml := hm.ml
  refine ⟨Nat.le_trans hm.no A.no, Nat.le_trans hm.nf A.nf, fun o h1 h2 h3 h4 => ?_, fun g h1 h2 => ?_, hm.xl, hm.ml, hm.xm, fun o h1 => ?_, ?_, ?_, hm.ownT, ?_⟩
  · rw [A.obj o (by omega)]; exact hm.obj o h1 h2 h3 h4
  · have := hm.nf; rw [A.fam g (by omega)]; exact hm.fam g h1 h2
  · have := hm.dl o h1; have := A.no; exact ⟨by omega, (hm.dl o h1).2⟩
  · obtain ⟨fv, iv, a, b, c⟩ := hm.mach
    exact ⟨fv, iv, by rw [A.obj xo (by omega)]; exact a, b, c⟩
  · exact hm.own.keep A.nf fun g hg => A.fam g (hm.own.lt g hg)
  · rw [A.obj mo (by omega)]; exact hm.mem
theorem XM.calls {fv iv ov : AV} {c : Int} (hm : XM fs mm mn σ0 xo mo D T x ov σ) (ho : σ.objs xo = some [fv, .int .i64 mm, .int .i64 mn, iv, .int .i64 x.steps, .slm mo 0 1 x.memory.length, ov, .int .i64 x.calls]) (hf : FsV fv fs) (hi : IntsV iv x.input) :
    XM fs mm mn σ0 xo mo D T { x with calls := c } ov (σ.setO xo [fv, .int .i64 mm, .int .i64 mn, iv, .int .i64 x.steps, .slm mo 0 1 x.memory.length, ov, .int .i64 c]) := by
  refine ⟨by simpa using hm.no, hm.nf, fun o h1 h2 h3 h4 => by simp [h2]; exact hm.obj o h1 h2 h3 h4, hm.fam, hm.xl, hm.ml, hm.xm, fun o h => by simpa using hm.dl o h, ⟨fv, iv, by simp, hf, hi⟩, hm.own.keep (by simp) (fun _ _ => rfl), hm.ownT, ?_⟩
  simp [Ne.symm hm.xm]; exact hm.mem
theorem XM.reanchor {ov : AV} (hm : XM fs mm mn σ0 xo mo D T x ov σ) {D' : List Nat} (hd : ∀ o ∈ D', o < σ.no ∧ o ≠ xo ∧ o ≠ mo) : XM fs mm mn σ xo mo D' (famL ov) x ov σ := by
  have := hm.no; have := hm.xl; have := hm.ml
  exact ⟨Nat.le_refl _, Nat.le_refl _, fun _ _ _ _ _ => rfl, fun _ _ _ => rfl, by omega, by omega, hm.xm, hd, hm.mach, hm.own, fun g hg => .inl hg, hm.mem⟩
theorem XM.back {ov : AV} (hm : XM fs mm mn σ0 xo mo D T x ov σ) {D' : List Nat} (hd : ∀ o ∈ D', σ0.no ≤ o) {x' : Mach} {σ' : AS} (h : XO fs mm mn σ xo mo D' (famL ov) x' σ') : XO fs mm mn σ0 xo mo D T x' σ' := by
  obtain ⟨ov', k⟩ := h
  have h1 := hm.no; have h2 := hm.nf; have h3 := k.no; have h4 := k.nf
  refine ⟨ov', by omega, by omega, fun o a b c d => ?_, fun g a b => ?_, hm.xl, hm.ml, hm.xm, fun o ho => ?_, k.mach, k.own, fun g hg => ?_, k.mem⟩
  · rw [k.obj o (by omega) b c (fun hh => by have := hd o hh; omega)]; exact hm.obj o a b c d
  · rw [k.fam g (by omega) (fun hg => by rcases hm.ownT g hg with h | h; exact b h; omega)]; exact hm.fam g a b
  · have := hm.dl o ho; exact ⟨by omega, this.2⟩
  · rcases k.ownT g hg with h | h
    · exact hm.ownT g h
    · right; omega
/-- families that the machine does not own may change -/
theorem XM.fams {ov : AV} (hm : XM fs mm mn σ0 xo mo D T x ov σ) {σ1 : AS} {av : AV} (haT : ∀ k ∈ famL av, k ∈ T ∨ σ0.nf ≤ k) (hao : ∀ k ∈ famL av, k ∉ famL ov) (q1 : σ1.objs = σ.objs) (q2 : σ1.no = σ.no) (q3 : σ.nf ≤ σ1.nf) (q4 : ∀ k, k < σ.nf → k ∉ famL av → σ1.F k = σ.F k) :
    XM fs mm mn σ0 xo mo D T x ov σ1 := by
  have h2 := hm.nf
  refine ⟨by rw [q2]; exact hm.no, by omega, fun o a b c d => by rw [q1]; exact hm.obj o a b c d, fun g a b => ?_, hm.xl, hm.ml, hm.xm, fun o ho => by rw [q2]; exact hm.dl o ho, by rw [q1]; exact hm.mach, hm.own.keep q3 fun g hg => q4 g (hm.own.lt g hg) fun h => hao g h hg, hm.ownT, by rw [q1]; exact hm.mem⟩
  rw [q4 g (by omega) (fun h => by rcases haT g h with h | h; exact b h; omega)]; exact hm.fam g a b
theorem flat_ints : ∀ (l : List Int), flat (l.map (AV.int .i64)) = l.map (AV.int .i64)
  | [] => rfl
  | a :: l => by have := flat_ints l; simp [flat, AV.cells] at this ⊢; exact this
/-- a new frame -/
theorem enter {ov cv pv lv tv : AV} {g : F} {locs : List Int} (hm : XM fs mm mn σ0 xo mo D T x ov σ) (hcv : ArgV σ cv locs) (hcT : ∀ k ∈ famL cv, k ∈ T ∨ σ0.nf ≤ k) (hco : ∀ k ∈ famL cv, k ∉ famL ov) (hp : IntsV pv g.params) (hl : IntsV lv g.locals) (ht : ListsV tv g.lists) :
    ∃ σc L', XF fs mm mn σc xo mo σ.no L' (famL ov) x ⟨g, locs, [], 0⟩ σc ∧ (∀ x' σ', XO fs mm mn σc xo mo (σ.no :: L') (famL ov) x' σ' → XO fs mm mn σ0 xo mo D T x' σ') ∧ (∀ o, o < σ.no → σc.objs o = σ.objs o ∧ o < σc.no ∧ o ≠ σ.no ∧ o ∉ L') ∧
      ∀ {us : List AV} {K : Out → AS → Prop}, ACalls Tryd.prog G 67 us σc K → ACalls Tryd.prog G 67 us (σ.newO [.str g.name, pv, lv, .int .i64 g.type, tv, cv, .nilsl, .int .i64 0]) K := by
  have hno := hm.no; have hxl := hm.xl; have hml := hm.ml
  have h2 : XM fs mm mn σ0 xo mo D T x ov (σ.newO [.str g.name, pv, lv, .int .i64 g.type, tv, cv, .nilsl, .int .i64 0]) := hm.adds (Adds.refl σ).newO
  have empty : locs = [] → (cv = .nilsl ∨ ∃ φ, cv = .sl φ 1 []) → ∃ σc L', XF fs mm mn σc xo mo σ.no L' (famL ov) x ⟨g, locs, [], 0⟩ σc ∧ (∀ x' σ', XO fs mm mn σc xo mo (σ.no :: L') (famL ov) x' σ' → XO fs mm mn σ0 xo mo D T x' σ') ∧ (∀ o, o < σ.no → σc.objs o = σ.objs o ∧ o < σc.no ∧ o ≠ σ.no ∧ o ∉ L') ∧
      ∀ {us : List AV} {K : Out → AS → Prop}, ACalls Tryd.prog G 67 us σc K → ACalls Tryd.prog G 67 us (σ.newO [.str g.name, pv, lv, .int .i64 g.type, tv, cv, .nilsl, .int .i64 0]) K := fun h0 hc => by
    refine ⟨_, [], ⟨ov, .nilsl, h2.reanchor (by simp; omega), ⟨⟨pv, lv, tv, cv, by simp, hp, hl, ht, .inl ⟨rfl, h0, hc⟩⟩, by simp, .inl ⟨rfl, rfl⟩, by simp [famL]⟩, by simp [famL]⟩, fun x' σ' h => h2.back (by simp; omega) h, fun o ho => ⟨by simp; intro h; omega, by simp; omega, by omega, by simp⟩, fun h => h⟩
  rcases hcv with ⟨h0, rfl⟩ | ⟨h0, rfl⟩ | ⟨f, rfl, hf1, hf2⟩
  · exact empty h0 (.inr ⟨_, rfl⟩)
  · exact empty h0 (.inl rfl)
  · have hfo : f ∉ famL ov := hco f (by simp [famL])
    have h3 : XM fs mm mn σ0 xo mo D T x ov ((σ.newO [.str g.name, pv, lv, .int .i64 g.type, tv, .sl (.fam f false) 1 (locs.map (.int .i64)), .nilsl, .int .i64 0]).own f σ.no [.str g.name, pv, lv, .int .i64 g.type, tv, .slm (σ.no + 1) 0 1 locs.length, .nilsl, .int .i64 0] (locs.map (.int .i64))) := by
      have k1 := hm.fams (σ1 := { σ with F := upd σ.F f .dead }) hcT hco rfl rfl (Nat.le_refl _) (fun k _ hk => by simp [famL] at hk; simp [upd, hk])
      refine k1.adds ⟨by simp [AS.own]; omega, by simp [AS.own], fun o ho => ?_, fun k hk => by simp [AS.own]⟩
      have e1 : o ≠ σ.no := by simp at ho; omega
      have e2 : o ≠ σ.no + 1 := by simp at ho; omega
      simp [AS.own, upd, e1, e2]
    refine ⟨(σ.newO [.str g.name, pv, lv, .int .i64 g.type, tv, .sl (.fam f false) 1 (locs.map (.int .i64)), .nilsl, .int .i64 0]).own f σ.no [.str g.name, pv, lv, .int .i64 g.type, tv, .slm (σ.no + 1) 0 1 locs.length, .nilsl, .int .i64 0] (locs.map (.int .i64)), [σ.no + 1], ⟨ov, .nilsl, h3.reanchor (by simp [AS.own]; omega), ⟨⟨pv, lv, tv, _, by simp [AS.own, upd], hp, hl, ht, .inr ⟨σ.no + 1, rfl, rfl, by simp [AS.own, upd]⟩⟩, by simp, .inl ⟨rfl, rfl⟩, by simp [famL]⟩, by simp [famL]⟩, fun x' σ' h => h3.back (by simp; omega) h, fun o ho => ⟨?_, ?_, by omega, by simp; omega⟩, fun {us K} h => ?_⟩
    · have e1 : o ≠ σ.no := by omega
      have e2 : o ≠ σ.no + 1 := by omega
      simp [AS.own, upd, e1, e2]
    · simp [AS.own]; omega
    · refine ACalls.own (f := f) (fo := σ.no) (j := 5) (sz := 1) (b := false) (xs := locs.map (.int .i64)) (cs := [.str g.name, pv, lv, .int .i64 g.type, tv, .sl (.fam f false) 1 (locs.map (.int .i64)), .nilsl, .int .i64 0]) (by simpa using hf2) (by simp) (by simp) ?_
      rw [flat_ints]
      simpa using h
/-- the machine's cells -/
theorem XF.xcells (h : XF fs mm mn σ0 xo mo fo L T x r σ) : ∃ fv iv ov, σ.objs xo = some [fv, .int .i64 mm, .int .i64 mn, iv, .int .i64 x.steps, .slm mo 0 1 x.memory.length, ov, .int .i64 x.calls] ∧ (fv.known = true ∧ fv.one = true ∧ fv.cells = [fv]) ∧ (iv.known = true ∧ iv.one = true ∧ iv.cells = [iv]) ∧ (ov.known = true ∧ ov.one = true ∧ ov.cells = [ov]) ∧
    FsV fv fs ∧ IntsV iv x.input ∧ OwnV σ ov x.out ∧ xo ≠ fo ∧ ∀ st c, XF fs mm mn σ0 xo mo fo L T { x with steps := st, calls := c } r (σ.setO xo [fv, .int .i64 mm, .int .i64 mn, iv, .int .i64 st, .slm mo 0 1 x.memory.length, ov, .int .i64 c]) := by
  have hx := h
  obtain ⟨ov, sv, hm, hr, hd⟩ := h
  obtain ⟨fv, iv, ho, hf, hi⟩ := hm.mach
  exact ⟨fv, iv, ov, ho, hf.one, hi.one, hm.own.one, hf, hi, hm.own, fun e => (hm.dl fo (by simp)).2.1 e.symm, fun st c => hx.setX (σ1 := σ) ho rfl rfl (Nat.le_refl _) (fun _ _ _ => rfl) hi hm.own fun k hk => .inl hk⟩
set_option maxHeartbeats 1000000 in
/-- what a call does, said of the machine alone -/
theorem call_calls {N : Nat} {Dp : Int} {rec : RunR} (hrec : ListOk G fs mm mn N Dp rec) (hbd : RBd N Dp rec) (hD0 : 0 ≤ Dp) {ov fv av : AV} {g : F} {args : List Int} {v0 : Fr} (hm : XM fs mm mn σ0 xo mo D T x ov σ) (hN : N ≤ 2 ^ 38) (hst : max x.steps 0 ≤ N) (hou : (x.out.length : Int) + max x.steps 0 ≤ N) (hcl : 0 ≤ x.calls)
    (hml : x.memory.length ≤ 2 ^ 38) (hil : x.input.length ≤ 2 ^ 38) (hg : OkF g) (hfv : FV fv g) (hav : ArgV σ av args) (hal : args.length ≤ 2 ^ 38) (haT : ∀ k ∈ famL av, k ∈ T ∨ σ0.nf ≤ k) (hao : ∀ k ∈ famL av, k ∉ famL ov)
    (hw : callW rec x g args v0 ≠ .bad)
    (hR : ∀ v x' r' σ', callW rec x g args v0 = .ok v x' r' → XO fs mm mn σ0 xo mo D T x' σ' → R (.ret (.int .i64 v)) σ')
    (hO : ∀ s c x' σ', callW rec x g args v0 = .over s c x' → XO fs mm mn σ0 xo mo D T x' σ' → R (.panic (overV s c)) σ') :
    ACalls Tryd.prog G 46 [.ptr xo 0, fv, av] σ R := by
  refine calls46 rfl ?_
  obtain ⟨pv, lv, tv, rfl, hp, hl, ht⟩ := hfv
  have p1 := hp.one
  have l1 := hl.one
  have t1 := ht.one
  have ll := hl.len
  have tl := ht.len
  obtain ⟨mfv, miv, mo1, mo2, mo3⟩ := hm.mach
  have m1 := mo2.one
  have m2 := mo3.one
  have m3 := hm.own.one
  have hxl := hm.xl
  have hno := hm.no
  have hxo : xo ≠ σ.no := by omega
  have hxo' : σ.no ≠ xo := by omega
  have hltn := hm.no
  by_cases hc : 32 ≤ x.calls
  · simp [pc46, p1, l1, t1, splice, hxo, mo1, m1, m2, m3, hc]
    refine trap_calls (fun h => by omega) fun _ => ?_
    simp
    exact hO _ _ _ _ (by simp [callW, hc]) ⟨ov, hm.adds (Adds.refl σ).newO⟩
  · have w1 : IntKind.wrap .i64 (x.calls + 1) = x.calls + 1 := by rw [wrap_i64] <;> omega
    have hgl := hg.locals
    have hgls := hg.lists
    simp [pc46, p1, l1, t1, splice, hxo, hxo', mo1, m1, m2, m3, hc, w1, ll]
    have S0 : XM fs mm mn σ0 xo mo D T { x with calls := x.calls + 1 } ov ((σ.newO [AV.str g.name, pv, lv, AV.int IntKind.i64 g.type, tv]).setO xo [mfv, AV.int IntKind.i64 mm, AV.int IntKind.i64 mn, miv, AV.int IntKind.i64 x.steps, AV.slm mo 0 1 x.memory.length, ov, AV.int IntKind.i64 (x.calls + 1)]) :=
      (hm.adds (Adds.refl σ).newO).calls (by simp [hxo, mo1]) mo2 mo3
    have S1 : ((σ.newO [AV.str g.name, pv, lv, AV.int IntKind.i64 g.type, tv]).setO xo [mfv, AV.int IntKind.i64 mm, AV.int IntKind.i64 mn, miv, AV.int IntKind.i64 x.steps, AV.slm mo 0 1 x.memory.length, ov, AV.int IntKind.i64 (x.calls + 1)]).objs σ.no = some [AV.str g.name, pv, lv, AV.int IntKind.i64 g.type, tv] := by simp [hxo']
    have S2 : ((σ.newO [AV.str g.name, pv, lv, AV.int IntKind.i64 g.type, tv]).setO xo [mfv, AV.int IntKind.i64 mm, AV.int IntKind.i64 mn, miv, AV.int IntKind.i64 x.steps, AV.slm mo 0 1 x.memory.length, ov, AV.int IntKind.i64 (x.calls + 1)]).no = σ.no + 1 := by simp
    have S3 : ArgV ((σ.newO [AV.str g.name, pv, lv, AV.int IntKind.i64 g.type, tv]).setO xo [mfv, AV.int IntKind.i64 mm, AV.int IntKind.i64 mn, miv, AV.int IntKind.i64 x.steps, AV.slm mo 0 1 x.memory.length, ov, AV.int IntKind.i64 (x.calls + 1)]) av args := hav
    generalize (σ.newO [AV.str g.name, pv, lv, AV.int IntKind.i64 g.type, tv]).setO xo [mfv, AV.int IntKind.i64 mm, AV.int IntKind.i64 mn, miv, AV.int IntKind.i64 x.steps, AV.slm mo 0 1 x.memory.length, ov, AV.int IntKind.i64 (x.calls + 1)] = S at *
    refine ⟨by omega, grown_args S3 (by omega) fun cv σ1 hcv q1 q2 q3 q4 q5 => ?_⟩
    have c1 := hcv.one
    have w2 : IntKind.wrap .i64 ((g.lists.length : Int) - 1) = (g.lists.length : Int) - 1 := by rw [wrap_i64] <;> omega
    have q6 : σ1.objs σ.no = some [AV.str g.name, pv, lv, AV.int IntKind.i64 g.type, tv] := by rw [q1]; exact S1
    have q7 : ¬ σ.no = σ1.no := by omega
    simp [q6, p1, l1, t1, c1, tl, w2, q7, splice]
    have hSl := S0.own.lt
    have hSn := S0.nf
    obtain ⟨σc, L', hX, hXO, hbo, hac⟩ := enter (S0.fams haT hao q1 q2 q3 q4) hcv (fun k hk => by rcases q5 k hk with h | h; exact haT k h; right; omega) (fun k hk h' => by rcases q5 k hk with h | h; exact hao k h h'; have := hSl k h'; omega) hp hl ht
    obtain ⟨b1, b2, b3, b4⟩ := hbo σ.no (by omega)
    have bdn : Bd N { x with calls := x.calls + 1 } ⟨g, args ++ List.replicate g.locals.length 0, [], 0⟩ := ⟨hN, by simpa using hst, hou, hg, by simp only; omega, hml, hil⟩
    simp only [callW, if_neg hc] at hw hR hO
    refine hac (hrec hX bdn (Int.le_refl _) hD0 (fun e => by rw [e] at hw; exact hw rfl) (fun o x' r' σ' e hx' => ?_) (fun s c x' σ' e ho => ?_))
    · rw [e] at hw hR hO
      obtain ⟨hA, ho2⟩ := hbd _ _ _ _ _ _ _ bdn hD0 e
      have hcs := hA.calls
      simp only at hw hR hO hcs
      have hbo' : ∀ {x1 : Mach} {r1 : Fr} {σ2 : AS}, XF fs mm mn σc xo mo σ1.no L' (famL ov) x1 r1 σ2 → σ2.objs σ.no = some [AV.str g.name, pv, lv, AV.int IntKind.i64 g.type, tv] := fun hh => by
        rw [hh.other b2 (by omega) (by have := hm.ml; omega) b3 b4, b1]; exact q6
      have hb1 := hbo' hx'
      have w3 : IntKind.wrap .i64 (x'.calls - 1) = x'.calls - 1 := by rw [wrap_i64] <;> omega
      by_cases hh : o = -1 ∧ g.type ≠ 0
      · rw [if_pos hh] at hw hR
        obtain ⟨h1, h2⟩ := hh
        have hne : r'.stack ≠ [] := by rintro e; simp [popK, e] at hw
        obtain ⟨v, hv⟩ := getLast_some hne
        have hsl : r'.stack.length ≤ 2 ^ 40 := by have := hA.bd.stack; omega
        simp [h1, h2, hb1, p1, l1, t1]
        refine pop_calls hx' hsl hv fun σ3 hx3 => ?_
        obtain ⟨fpv, flv, ftv, fcv, fsv, fo1, e1, e2, e3, e4, e5, _, _, _, hset⟩ := hx3.cells
        have hx4 := hset v
        obtain ⟨gfv, giv, gov, go1, g1, g2, g3, _, _, _, gne, hset2⟩ := hx4.xcells
        have go1' : σ3.objs xo = some [gfv, .int .i64 mm, .int .i64 mn, giv, .int .i64 x'.steps, .slm mo 0 1 x'.memory.length, gov, .int .i64 x'.calls] := by simpa [gne] using go1
        simp [fo1, e1, e2, e3, e4, e5, splice, go1', g1, g2, g3, gne, Ne.symm gne, w3]
        exact hR _ _ _ _ (by simp [popK, hv]; rfl) (hXO _ _ (hset2 x'.steps (x'.calls - 1)).stop)
      · rw [if_neg hh] at hw hR
        obtain ⟨fpv, flv, ftv, fcv, fsv, fo1, e1, e2, e3, e4, e5, _, _, _, hset⟩ := hx'.cells
        obtain ⟨gfv, giv, gov, go1, g1, g2, g3, _, _, _, gne, hset2⟩ := hx'.xcells
        by_cases h1 : o = -1
        · have h2 : g.type = 0 := by simpa [h1] using hh
          simp [h1, h2, hb1, p1, l1, t1, fo1, e1, e2, e3, e4, e5, splice, go1, g1, g2, g3, gne, Ne.symm gne, w3]
          exact hR _ _ _ _ rfl (hXO _ _ (hset2 x'.steps (x'.calls - 1)).stop)
        · simp [h1, hb1, p1, l1, t1, fo1, e1, e2, e3, e4, e5, splice, go1, g1, g2, g3, gne, Ne.symm gne, w3]
          exact hR _ _ _ _ rfl (hXO _ _ (hset2 x'.steps (x'.calls - 1)).stop)
    · rw [e] at hO
      simp
      exact hO _ _ _ _ rfl (hXO _ _ ho)
end
end Go.Proofs.YthifgodgfhbnfaaDoor
set_option linter.unusedSimpArgs false
set_option linter.unusedVariables false
namespace Go.Proofs.YthifgodgfhbnfaaDoor
open Go Go.Abs
section
variable {G : Env} {fs : List F} {mm mn : Int} {σ0 σ : AS} {xo mo fo : Nat} {L T D : List Nat} {x : Mach} {r : Fr} {R : Out → AS → Prop}
/-- a call leaves the frame -/
theorem XF.after (h : XF fs mm mn σ0 xo mo fo L T x r σ) {av : AV} (hav : ∃ σq : AS, σq.nf ≤ σ.nf ∧ (∀ g ∈ famL av, σq.nf ≤ g) ∧ σ0.nf ≤ σq.nf ∧ ∀ sv, (∃ cs, σ.objs fo = some cs ∧ cs[6]? = some sv) → ∀ g ∈ famL sv, g < σq.nf) (hax : ∀ ov, (∃ cs, σ.objs xo = some cs ∧ cs[6]? = some ov) → ∀ g ∈ famL av, g ∉ famL ov) :
    ∃ ov T2, XM fs mm mn σ xo mo [] T2 x ov σ ∧ (∀ k ∈ famL av, k ∈ T2 ∨ σ.nf ≤ k) ∧ (∀ k ∈ famL av, k ∉ famL ov) ∧ (∀ x' σ', XO fs mm mn σ xo mo [] T2 x' σ' → XF fs mm mn σ0 xo mo fo L T x' r σ') ∧ ∀ x' σ', XO fs mm mn σ xo mo [] T2 x' σ' → XO fs mm mn σ0 xo mo (fo :: L) T x' σ' := by
  have hx := h
  obtain ⟨ov, sv, hm, hr, hd⟩ := h
  obtain ⟨σq, v1, v2, v3, v4⟩ := hav
  obtain ⟨pv, lv, tv, cv, ho, hpv, hlv, htv, hcv⟩ := hr.fr
  have v5 := v4 sv ⟨_, ho, rfl⟩
  obtain ⟨fv, iv, hxo, hfv, hiv⟩ := hm.mach
  have v6 := hax ov ⟨_, hxo, rfl⟩
  have hno := hm.no; have hxl := hm.xl; have hml := hm.ml; have hnf := hm.nf
  have hT2 : ∀ g ∈ famL ov ++ famL av, g ∈ T ∨ σ0.nf ≤ g := fun g hg => by
    rcases List.mem_append.1 hg with h | h
    · exact hm.ownT g h
    · right; have := v2 g h; omega
  have back : ∀ x' ov' σ', XM fs mm mn σ xo mo [] (famL ov ++ famL av) x' ov' σ' → XM fs mm mn σ0 xo mo (fo :: L) T x' ov' σ' := fun x' ov' σ' k => by
    have h3 := k.no; have h4 := k.nf
    refine ⟨by omega, by omega, fun o a b c d => ?_, fun g a b => ?_, hxl, hml, hm.xm, fun o ho => ?_, k.mach, k.own, fun g hg => ?_, k.mem⟩
    · rw [k.obj o (by omega) b c (by simp)]; exact hm.obj o a b c d
    · rw [k.fam g (by omega) (fun hg => by rcases hT2 g hg with h | h; exact b h; omega)]; exact hm.fam g a b
    · have := hm.dl o ho; exact ⟨by omega, this.2⟩
    · rcases k.ownT g hg with h | h
      · exact hT2 g h
      · right; omega
  have rn := hm.reanchor (D' := []) (by simp)
  refine ⟨ov, famL ov ++ famL av, ⟨rn.no, rn.nf, rn.obj, fun g a b => rn.fam g a (fun h => b (by simp [h])), rn.xl, rn.ml, rn.xm, rn.dl, rn.mach, rn.own, fun g hg => .inl (by simp [hg]), rn.mem⟩, fun k hk => .inl (by simp [hk]), v6, ?_, fun x' σ' ⟨ov', k⟩ => ⟨ov', back _ _ _ k⟩⟩
  rintro x' σ' ⟨ov', k⟩
  have same : ∀ o ∈ fo :: L, σ'.objs o = σ.objs o := fun o ho => by have := hm.dl o ho; exact k.obj o this.1 this.2.1 this.2.2 (by simp)
  have hlt := hr.own.lt
  refine ⟨ov', sv, back _ _ _ k, ⟨⟨pv, lv, tv, cv, by rw [same fo (by simp)]; exact ho, hpv, hlv, htv, hcv.keep fun o ho => same o (by simp [ho])⟩, hr.fl, hr.own.keep k.nf fun g hg => k.fam g (hlt g hg) (fun h => ?_), hr.ownT⟩, fun g hg hs => ?_⟩
  · rcases List.mem_append.1 h with h | h
    · exact hd g h hg
    · have := v2 g h; have := v5 g hg; omega
  · rcases k.ownT g hg with h | h
    · rcases List.mem_append.1 h with h | h
      · exact hd g h hs
      · have := v2 g h; have := v5 g hs; omega
    · have := hlt g hs; omega
theorem calling_calls {N : Nat} {Dp : Int} {rec : RunR} (hrec : ListOk G fs mm mn N Dp rec) (hbd : RBd N Dp rec) (hD0 : 0 ≤ Dp) (hfs : OkFs fs) {n : Int} (hnn : n ≤ 2 ^ 63 - 1) (h : XF fs mm mn σ0 xo mo fo L T x r σ) (hb : B1 N x r) (hw : callingW fs rec x r n ≠ .bad)
    (hR : ∀ x' r' σ', callingW fs rec x r n = .ok () x' r' → XF fs mm mn σ0 xo mo fo L T x' r' σ' → R (.ret (.tuple [])) σ')
    (hO : ∀ s c x' σ', callingW fs rec x r n = .over s c x' → XO fs mm mn σ0 xo mo (fo :: L) T x' σ' → R (.panic (overV s c)) σ') :
    ACalls Tryd.prog G 98 [.ptr xo 0, .ptr fo 0, .int .i64 n] σ R := by
  refine calls98 rfl ?_
  have hN := hb.bd.n
  have hst : r.stack.length ≤ 2 ^ 40 := by have := hb.bd.stack; omega
  have hinl : x.input.length ≤ 2 ^ 40 := by have := hb.bd.inp; omega
  have hol : x.out.length ≤ 2 ^ 40 := by have := hb.ou; omega
  by_cases n0 : n = 0
  · subst n0
    simp only [callingW, if_true] at hw hR
    simp [pc98, splice]
    refine next_calls h hinl fun σ' hx' => ?_
    simp
    cases hin : x.input with
    | nil =>
      rw [hin] at hx' hR
      refine push_calls hx' hst fun σ2 hx2 => ?_
      simp
      exact hR _ _ _ rfl hx2
    | cons v l =>
      rw [hin] at hx' hR
      refine push_calls hx' hst fun σ2 hx2 => ?_
      simp
      exact hR _ _ _ rfl hx2
  by_cases n1 : n = 1
  · subst n1
    have hne : r.stack ≠ [] := by rintro e; simp [callingW, popK, e] at hw
    obtain ⟨v, hv⟩ := getLast_some hne
    obtain ⟨fv, iv, ov, xo1, f1, i1, o1, hfv, hiv, hov, xne, _⟩ := h.xcells
    simp [pc98, splice, xo1, f1, i1, o1]
    refine pop_calls' h hst hv fun σ' hx' hob => ?_
    have xo2 := (hob xo xne).trans xo1
    simp only [callingW, popK, hv] at hR
    simp at hR
    have fin : ∀ {σ3 : AS} {ov' : AV}, σ3.objs = σ'.objs → σ3.no = σ'.no → σ'.nf ≤ σ3.nf → (∀ g, g < σ'.nf → g ∉ famL ov → σ3.F g = σ'.F g) → OwnV σ3 ov' (x.out ++ [v]) → (∀ g ∈ famL ov', g ∈ famL ov ∨ σ'.nf ≤ g) →
        R (.ret (.tuple [])) (σ3.setO xo [fv, .int .i64 mm, .int .i64 mn, iv, .int .i64 x.steps, .slm mo 0 1 x.memory.length, ov', .int .i64 x.calls]) := fun a b c d e f => hR _ _ _ rfl rfl (hx'.setX xo2 a b c d hiv e f)
    obtain ⟨gfv, giv, gov, go1, _, _, _, _, _, gov1, _⟩ := hx'.xcells
    rw [xo2] at go1
    simp only [Option.some.injEq, List.cons.injEq] at go1
    obtain ⟨_, _, _, _, _, _, rfl, _, _⟩ := go1
    simp [xo2, f1, i1, o1]
    rcases gov1 with ⟨hs, rfl⟩ | ⟨g, rfl, hg1, hg2⟩
    · simp [xo2, f1, i1, splice]
      exact fin (σ3 := σ'.newF) (by simp) (by simp) (by simp) (fun g h1 _ => by simp; intro h; omega) (.inr ⟨σ'.nf, by simp [hs], by simp, by simp⟩) (by simp [famL])
    · simp [xo2, f1, i1, splice, hg2]
      exact ⟨by omega, fin (σ3 := (σ'.setF g .dead).newF) (by simp) (by simp) (by simp) (fun k h1 h2 => by simp [famL] at h2; simp [h2]; intro h; omega) (.inr ⟨σ'.nf, by simp, by simp, by simp⟩) (by simp [famL])⟩
  by_cases n2 : n = 2
  · subst n2
    have hne : r.stack ≠ [] := by rintro e; simp [callingW, popK, e] at hw
    obtain ⟨v, hv⟩ := getLast_some hne
    simp only [callingW, popK, hv] at hO
    simp at hO
    simp [pc98, splice]
    refine pop_calls h hst hv fun σ' hx' => ?_
    simp [splice]
    exact hO _ _ _ _ rfl rfl rfl hx'.stop
  have n3 : ¬ n < 3 := by
    intro hh; simp [callingW, n0, n1, n2, hh] at hw
  simp only [callingW, n0, n1, n2, n3, if_false] at hw hR hO
  cases hgg : fs[(n - 3).toNat]? with
  | none => rw [hgg] at hw; exact absurd rfl hw
  | some g =>
  rw [hgg] at hw hR hO
  simp only at hw hR hO
  by_cases hps : r.stack.length < g.params.length
  · rw [if_pos hps] at hw; exact absurd rfl hw
  rw [if_neg hps] at hw hR hO
  obtain ⟨hgi, hge⟩ := List.getElem?_eq_some_iff.1 hgg
  have hgm : g ∈ fs := List.mem_of_getElem? hgg
  have hgf := hfs g hgm
  have hgp := hgf.params
  obtain ⟨mfv, miv, mov, xo1, f1, i1, o1, hfv, hiv, hov, xne, _⟩ := h.xcells
  obtain ⟨bq, gv, hgv, hix⟩ := hfv.at hgi
  rw [hge] at hgv
  have e3 : (((n - 3).toNat : Nat) : Int) = n - 3 := by omega
  rw [e3] at hix
  have w1 : IntKind.wrap .i64 (n - 3) = n - 3 := by rw [wrap_i64] <;> omega
  have hgv0 := hgv
  obtain ⟨gp, gl, gt, rfl, hgp', hgl', hgt'⟩ := hgv0
  have p1 := hgp'.one
  have l1 := hgl'.one
  have t1 := hgt'.one
  have pl := hgp'.len
  have hlts := h.lts
  have A : Adds σ ((σ.newO [.str [], .nilsl, .nilsl, .int .i64 0, .nilsl]).setO σ.no [.str g.name, gp, gl, .int .i64 g.type, gt]) := (Adds.refl σ).newO.setO (Nat.le_refl _)
  have h1 := h.adds A
  have hS : ((σ.newO [.str [], .nilsl, .nilsl, .int .i64 0, .nilsl]).setO σ.no [.str g.name, gp, gl, .int .i64 g.type, gt]).objs σ.no = some [.str g.name, gp, gl, .int .i64 g.type, gt] := by simp
  have hSn : ((σ.newO [.str [], .nilsl, .nilsl, .int .i64 0, .nilsl]).setO σ.no [.str g.name, gp, gl, .int .i64 g.type, gt]).no = σ.no + 1 := by simp
  obtain ⟨pv, lv, tv, cv, sv, fo1, e1, e2, e3', e4, e5, hsv, htv, hcv, _⟩ := h.cells
  have sl := hsv.len
  have hfo : fo ≠ σ.no := by have := hlts.2.2.1; omega
  have hfo' : σ.no ≠ fo := by have := hlts.2.2.1; omega
  have hfl : fo < σ.no := hlts.2.2.1
  have w2 : IntKind.wrap .i64 ((r.stack.length : Int) - (g.params.length : Int)) = ((r.stack.length - g.params.length : Nat) : Int) := by rw [wrap_i64] <;> omega
  have hst' := hb.bd.stack
  have hmv := hov.lt
  -- from the clone on
  have tail : ∀ {sv' av : AV} {σ2 : AS} {K : Out → AS → Prop}, Adds ((σ.newO [.str [], .nilsl, .nilsl, .int .i64 0, .nilsl]).setO σ.no [.str g.name, gp, gl, .int .i64 g.type, gt]) σ2 → ArgV σ2 av (r.stack.drop (r.stack.length - g.params.length)) → (∀ k ∈ famL av, σ.nf ≤ k) → OwnV σ2 sv' (r.stack.take (r.stack.length - g.params.length)) →
      (∀ k ∈ famL sv', k < σ.nf ∧ k ∈ famL sv) →
      (∀ v x' σ', callW rec x g (r.stack.drop (r.stack.length - g.params.length)) { r with stack := r.stack.take (r.stack.length - g.params.length) } = .ok v x' { r with stack := r.stack.take (r.stack.length - g.params.length) } → XF fs mm mn σ0 xo mo fo L T x' { r with stack := r.stack.take (r.stack.length - g.params.length) } σ' → σ'.objs σ.no = some [.str g.name, gp, gl, .int .i64 g.type, gt] → x'.steps ≤ x.steps → K (.ret (.int .i64 v)) σ') →
      (∀ s c x' σ', callW rec x g (r.stack.drop (r.stack.length - g.params.length)) { r with stack := r.stack.take (r.stack.length - g.params.length) } = .over s c x' → XO fs mm mn σ0 xo mo (fo :: L) T x' σ' → K (.panic (overV s c)) σ') →
      ACalls Tryd.prog G 46 [.ptr xo 0, .agg [.str g.name, gp, gl, .int .i64 g.type, gt], av] (σ2.setO fo [.str r.fn.name, pv, lv, .int .i64 r.fn.type, tv, cv, sv', .int .i64 r.result]) K := by
    intro sv' av σ2 K A2 hav hfr hsv' hsf hK hKO
    have fo2 : σ2.objs fo = some [.str r.fn.name, pv, lv, .int .i64 r.fn.type, tv, cv, sv, .int .i64 r.result] := by
      rw [A2.obj fo (by simp; omega)]; simp [hfo]; exact fo1
    have hA2 := A2.nf
    have hA3 := A2.no
    simp at hA2 hA3
    have h3 : XF fs mm mn σ0 xo mo fo L T x { r with stack := r.stack.take (r.stack.length - g.params.length) } (σ2.setO fo [.str r.fn.name, pv, lv, .int .i64 r.fn.type, tv, cv, sv', .int .i64 r.result]) :=
      (h1.adds A2).setFr (σ1 := σ2) (res' := r.result) fo2 rfl rfl (Nat.le_refl _) (fun _ _ _ => rfl) hsv' fun k hk => .inl (hsf k hk).2
    have hxo3 : (σ2.setO fo [.str r.fn.name, pv, lv, .int .i64 r.fn.type, tv, cv, sv', .int .i64 r.result]).objs xo = some [mfv, .int .i64 mm, .int .i64 mn, miv, .int .i64 x.steps, .slm mo 0 1 x.memory.length, mov, .int .i64 x.calls] := by
      have e : xo ≠ σ.no := by omega
      simp [xne]; rw [A2.obj xo (by simp; omega)]; simp [e]; exact xo1
    obtain ⟨ov, T2, k1, k2, k3, k4, k5⟩ := h3.after (av := av) ⟨σ, by simpa using hA2, hfr, by obtain ⟨_, _, hm, _⟩ := h; exact hm.nf, fun sv1 ⟨cs, hc1, hc2⟩ => by
      simp at hc1; subst hc1; simp at hc2; subst hc2; exact fun k hk => (hsf k hk).1⟩ (fun ov ⟨cs, hc1, hc2⟩ k hk hk' => by
      rw [hxo3] at hc1; cases hc1; simp at hc2; subst hc2; have := hmv k hk'; have := hfr k hk; omega)
    refine call_calls hrec hbd hD0 (N := N) (v0 := { r with stack := r.stack.take (r.stack.length - g.params.length) }) k1 hN (by omega) hb.bd.out hb.bd.calls.1 hb.bd.mem hb.bd.inp hgf ⟨gp, gl, gt, rfl, hgp', hgl', hgt'⟩ ?_ (by simp; omega) k2 k3 (fun e => by rw [e] at hw; exact hw rfl) (fun v x' r' σ' e ho => ?_) fun s c x' σ' e ho => hKO s c x' σ' e (k5 _ _ ho)
    · rcases hav with h | h
      · exact .inl h
      · exact .inr (h.keep (by simp) fun _ _ => rfl)
    · have hb2 : B1 N x { r with stack := r.stack.take (r.stack.length - g.params.length) } := hb.stack (by simp)
      obtain ⟨rfl, ha⟩ := call_bd hbd hfs hD0 hb2.bd hgm e
      refine hK v x' σ' e (k4 _ _ ho) ?_ ha.steps
      obtain ⟨ov', k⟩ := ho
      have e1 : σ.no ≠ xo := by omega
      have e2 : σ.no ≠ mo := by omega
      rw [k.obj σ.no (by simp; omega) e1 e2 (by simp)]
      simp [hfo']
      rw [A2.obj σ.no (by simp)]; simp
  have hsv0 := hsv
  rcases hsv with ⟨hs, rfl⟩ | ⟨q, rfl, hq1, hq2⟩
  · have hs0 : r.stack.length = 0 := by rw [hs]; rfl
    have hp0 : g.params.length = 0 := by omega
    have w0 : IntKind.wrap .i64 0 = 0 := by decide
    simp [pc98, splice, n0, n1, n2, xo1, f1, i1, o1, w1, hix, p1, l1, t1, hfo, hfo', fo1, e1, e2, e3', e4, pl, hs, hp0, w0]
    refine cloneOwn_calls (l := []) (.inl ⟨rfl, rfl⟩) (by simp) fun av σ2 hav A2 hfr => ?_
    have fo2 : σ2.objs fo = some [.str r.fn.name, pv, lv, .int .i64 r.fn.type, tv, cv, .nilsl, .int .i64 r.result] := by
      rw [A2.obj fo (by simp; omega)]; simp [hfo]; exact fo1
    have bo2 : σ2.objs σ.no = some [.str g.name, gp, gl, .int .i64 g.type, gt] := by rw [A2.obj σ.no (by simp)]; simp
    simp [fo2, e1, e2, e3', e4, splice, w0, bo2, p1, l1, t1, hfo']
    refine tail A2 (by simpa [hs] using hav) (by simpa using hfr) (.inl ⟨by simp [hs], rfl⟩) (by simp [famL]) (fun v x' σ' e hx' hbx hss => ?_) (fun s c x' σ' e ho => ?_)
    · rw [e] at hR
      have hb2 : B1 N x { r with stack := r.stack.take (r.stack.length - g.params.length) } := hb.stack (by simp)
      by_cases ht : g.type = 0
      · simp [ht] at hR
        simp [hbx, p1, l1, t1, ht]
        exact hR _ _ _ rfl rfl hx'
      · simp [ht] at hR
        simp [hbx, p1, l1, t1, ht]
        refine push_calls hx' (by simp; omega) fun σ4 hx4 => ?_
        simp
        exact hR _ _ _ rfl rfl hx4
    · rw [e] at hO
      simp
      exact hO _ _ _ _ rfl ho
  · have el : List.drop (r.stack.length - g.params.length) (List.take r.stack.length (r.stack.map (AV.int .i64))) = (r.stack.drop (r.stack.length - g.params.length)).map (AV.int .i64) := by rw [List.take_of_length_le (by simp), List.map_drop]
    have el2 : List.take (r.stack.length - g.params.length) (r.stack.map (AV.int .i64)) = (r.stack.take (r.stack.length - g.params.length)).map (AV.int .i64) := by rw [List.map_take]
    simp [pc98, splice, n0, n1, n2, xo1, f1, i1, o1, w1, hix, p1, l1, t1, hfo, hfo', fo1, e1, e2, e3', e4, pl, w2, el]
    refine cloneOwn_calls (l := r.stack.drop (r.stack.length - g.params.length)) (.inr ⟨q, by simp, by simpa using hq1, by simpa using hq2⟩) (by simp; omega) fun av σ2 hav A2 hfr => ?_
    have fo2 : σ2.objs fo = some [.str r.fn.name, pv, lv, .int .i64 r.fn.type, tv, cv, .sl (.fam q false) 1 (r.stack.map (.int .i64)), .int .i64 r.result] := by
      rw [A2.obj fo (by simp; omega)]; simp [hfo]; exact fo1
    have bo2 : σ2.objs σ.no = some [.str g.name, gp, gl, .int .i64 g.type, gt] := by rw [A2.obj σ.no (by simp)]; simp
    simp [fo2, e1, e2, e3', e4, splice, bo2, p1, l1, t1, hfo']
    refine tail A2 hav (by simpa using hfr) (.inr ⟨q, by rw [← el2], by have := A2.nf; simp at this; omega, by rw [A2.fam q (by simpa using hq1)]; simpa using hq2⟩) (by simp [famL]; exact hq1) (fun v x' σ' e hx' hbx hss => ?_) (fun s c x' σ' e ho => ?_)
    · rw [e] at hR
      have hb2 : B1 N x { r with stack := r.stack.take (r.stack.length - g.params.length) } := hb.stack (by simp)
      by_cases ht : g.type = 0
      · simp [ht] at hR
        simp [hbx, p1, l1, t1, ht]
        exact hR _ _ _ rfl rfl hx'
      · simp [ht] at hR
        simp [hbx, p1, l1, t1, ht]
        refine push_calls hx' (by simp; omega) fun σ4 hx4 => ?_
        simp
        exact hR _ _ _ rfl rfl hx4
    · rw [e] at hO
      simp
      exact hO _ _ _ _ rfl ho
end
end Go.Proofs.YthifgodgfhbnfaaDoor
set_option linter.unusedSimpArgs false
set_option linter.unusedVariables false
namespace Go.Proofs.YthifgodgfhbnfaaDoor
open Go Go.Abs
section
variable {G : Env} {fs : List F} {mm mn : Int} {σ0 σ : AS} {xo mo fo : Nat} {L T D : List Nat} {x : Mach} {r : Fr} {R : Out → AS → Prop}
theorem splice_one {l : List AV} {n : Nat} {v : AV} (h : n < l.length) : splice l n [v] = l.set n v := by
  rw [List.set_eq_take_append_cons_drop, if_pos h]; simp [splice]
theorem XF.setLoc {lo n : Nat} {v : Int} (h : XF fs mm mn σ0 xo mo fo [lo] T x r σ) (hn : n < r.locals.length) : XF fs mm mn σ0 xo mo fo [lo] T x { r with locals := r.locals.set n v } (σ.setO lo (splice (r.locals.map (.int .i64)) n [.int .i64 v])) := by
  obtain ⟨ov, sv, hm, hr, hd⟩ := h
  obtain ⟨pv, lv, tv, cv, ho, hpv, hlv, htv, hcv⟩ := hr.fr
  have hfl : fo ≠ lo := by have := hr.fl; simpa using this
  have hll := hm.dl lo (by simp)
  have e : splice (r.locals.map (.int .i64)) n [.int .i64 v] = (r.locals.set n v).map (.int .i64) := by rw [splice_one (by simpa using hn), List.map_set]
  rw [e]
  rcases hcv with ⟨hL, _⟩ | ⟨lo', hL, rfl, hlo⟩
  · cases hL
  cases hL
  obtain ⟨fv, iv, a, b, c⟩ := hm.mach
  refine ⟨ov, sv, ⟨by simpa using hm.no, hm.nf, fun o h1 h2 h3 h4 => ?_, hm.fam, hm.xl, hm.ml, hm.xm, fun o ho => by simpa using hm.dl o ho, ⟨fv, iv, by simp [Ne.symm hll.2.1]; exact a, b, c⟩, hm.own.keep (by simp) fun _ _ => rfl, hm.ownT, by simp [Ne.symm hll.2.2]; exact hm.mem⟩, ⟨⟨pv, lv, tv, .slm lo 0 1 (r.locals.set n v).length, by simp [hfl]; exact ho, hpv, hlv, htv, .inr ⟨lo, rfl, rfl, by simp⟩⟩, hr.fl, hr.own.keep (by simp) fun _ _ => rfl, hr.ownT⟩, hd⟩
  have : o ≠ lo := fun e => h4 (by simp [e])
  simp [this]; exact hm.obj o h1 h2 h3 h4
theorem XF.setMem {m' : List UInt8} (h : XF fs mm mn σ0 xo mo fo L T x r σ) (hl : m'.length = x.memory.length) : XF fs mm mn σ0 xo mo fo L T { x with memory := m' } r (σ.setO mo (m'.map fun b => .int .u8 b.toNat)) := by
  obtain ⟨ov, sv, hm, hr, hd⟩ := h
  obtain ⟨pv, lv, tv, cv, ho, hpv, hlv, htv, hcv⟩ := hr.fr
  have hf := hm.dl fo (by simp)
  obtain ⟨fv, iv, a, b, c⟩ := hm.mach
  refine ⟨ov, sv, ⟨by simpa using hm.no, hm.nf, fun o h1 h2 h3 h4 => by simp [h3]; exact hm.obj o h1 h2 h3 h4, hm.fam, hm.xl, hm.ml, hm.xm, fun o ho => by simpa using hm.dl o ho, ⟨fv, iv, by simp [hm.xm, hl]; exact a, b, c⟩, hm.own.keep (by simp) fun _ _ => rfl, hm.ownT, by simp⟩, ⟨⟨pv, lv, tv, cv, by simp [hf.2.2]; exact ho, hpv, hlv, htv, hcv.keep fun o ho => by simp [(hm.dl o (by simp [ho])).2.2]⟩, hr.fl, hr.own.keep (by simp) fun _ _ => rfl, hr.ownT⟩, hd⟩
theorem writeW_zero (mem : List UInt8) (at_ : Nat) (v : Int) : writeW mem at_ v 0 = mem := by simp [writeW]
theorem writeW_succ {mem : List UInt8} {at_ i : Nat} {v : Int} (h : at_ + i < mem.length) : writeW mem at_ v (i + 1) = (writeW mem at_ v i).set (at_ + i) (byteW v i) := by
  have hl : (mem.take at_ ++ (List.range i).map (byteW v)).length = at_ + i := by simp; omega
  unfold writeW
  rw [List.set_append_right _ _ (by rw [hl]; omega), hl, Nat.sub_self, List.range_succ, List.map_append, List.drop_eq_getElem_cons h]
  simp [Nat.add_assoc]
theorem byteW_toNat (v : Int) (i : Nat) : ((byteW v i).toNat : Int) = IntKind.u8.wrap (v.fdiv (2 ^ (8 * i))) := by
  unfold byteW
  simp only [IntKind.wrap, IntKind.bits, IntKind.signed]
  simp
  omega
def STI (fs : List F) (mm mn : Int) (S : AS) (xo mo fo : Nat) (L T : List Nat) (x : Mach) (r : Fr) (at_ n : Nat) (v : Int) (a : Nat → AV) (τ : AS) : Prop := ∃ i : Nat, i ≤ n ∧ a 0 = .ptr xo 0 ∧ a 11 = .int .i64 v ∧ a 12 = .int .i64 (at_ : Int) ∧ a 104 = .int .i64 (n : Int) ∧ a 105 = .int .i64 (i : Int) ∧ XF fs mm mn S xo mo fo L T { x with memory := writeW x.memory at_ v i } r τ
theorem XF.memo (h : XF fs mm mn σ0 xo mo fo L T x r σ) : σ.objs mo = some (x.memory.map fun b => .int .u8 b.toNat) := by obtain ⟨_, _, hm, _⟩ := h; exact hm.mem
set_option maxHeartbeats 2000000 in
theorem plainX_calls (V : Vars G) {N : Nat} {Dp : Int} {rec : RunR} (hrec : ListOk G fs mm mn N Dp rec) (hbd : RBd N Dp rec) (hD0 : 0 ≤ Dp) (hfs : OkFs fs) {w : W} (hnn : w.n ≤ 2 ^ 63 - 1) (h : XF fs mm mn σ0 xo mo fo L T x r σ) (hb : B1 N x r) (hw : plainW fs rec w x r ≠ .bad)
    (hR : ∀ x' r' σ', plainW fs rec w x r = .ok () x' r' → XF fs mm mn σ0 xo mo fo L T x' r' σ' → R (.ret (.tuple [])) σ')
    (hO : ∀ s c x' σ', plainW fs rec w x r = .over s c x' → XO fs mm mn σ0 xo mo (fo :: L) T x' σ' → R (.panic (overV s c)) σ') :
    ACalls Tryd.prog G 84 [.ptr xo 0, .ptr fo 0, w.av] σ R := by
  refine calls84 rfl ?_
  obtain ⟨wop, wty, wn, wbody, wother, wname⟩ := w
  simp only at hnn
  have hN := hb.bd.n
  have hst : r.stack.length ≤ 2 ^ 40 := by have := hb.bd.stack; omega
  have hlts := h.lts
  have h1 : XF fs mm mn σ0 xo mo fo L T x r (σ.newO [.int .i64 wop, .int .i64 wty, .int .i64 wn, .int .i64 wbody, .int .i64 wother, .str wname]) := h.adds (Adds.refl σ).newO
  obtain ⟨T', k1, k2, k3⟩ := h1.anchor
  have hfo : fo ≠ σ.no := by have := hlts.2.2.1; omega
  have hbo : ∀ {x1 : Mach} {r1 : Fr} {σ' : AS}, XF fs mm mn (σ.newO [.int .i64 wop, .int .i64 wty, .int .i64 wn, .int .i64 wbody, .int .i64 wother, .str wname]) xo mo fo L T' x1 r1 σ' → σ'.objs σ.no = some [.int .i64 wop, .int .i64 wty, .int .i64 wn, .int .i64 wbody, .int .i64 wother, .str wname] := fun {x1 r1 σ'} hx => by
    rw [hx.other (o := σ.no) (by simp) (by omega) (by omega) (by omega) (fun hh => by have := hlts.2.2.2 _ hh; omega)]; simp
  -- what is popped
  have popped : ∀ {r1 : Fr} {f : Int → Fr → Ev Unit}, popK r1 f ≠ .bad → ∃ v, r1.stack.getLast? = some v ∧ popK r1 f = f v { r1 with stack := r1.stack.dropLast } := fun {r1 f} hh => by
    have hne : r1.stack ≠ [] := by rintro e; simp [popK, e] at hh
    obtain ⟨v, hv⟩ := getLast_some hne
    exact ⟨v, hv, by simp [popK, hv]⟩
  by_cases o1 : wop = 1
  · subst o1
    simp [plainW] at hR
    simp [pc84, W.av, W.cs, splice]
    refine push_calls k1 hst fun σ' hx' => ?_
    simp
    exact hR _ _ _ rfl rfl (k2 _ _ _ hx')
  by_cases o2 : wop = 2
  · subst o2
    simp only [plainW] at hR hw
    by_cases hn0 : wn < 0
    · simp [hn0] at hw
    cases hloc : r.locals[wn.toNat]? with
    | none => simp [hn0, hloc] at hw
    | some v =>
    simp [hn0, hloc] at hR
    obtain ⟨hli, hle⟩ := List.getElem?_eq_some_iff.1 hloc
    obtain ⟨pv, lv, tv, cv, sv, fo1, e1, e2, e3, e4, e5, _, _, hcv, _⟩ := k1.cells
    rcases hcv with ⟨_, hl, _⟩ | ⟨lo, rfl, rfl, hlo⟩
    · rw [hl] at hli; simp at hli
    · have fo2 : σ.objs fo = some [.str r.fn.name, pv, lv, .int .i64 r.fn.type, tv, .slm lo 0 1 r.locals.length, sv, .int .i64 r.result] := by simpa [hfo] using fo1
      have hlo0 : lo < σ.no := hlts.2.2.2 lo (by simp)
      have hlo1 : lo ≠ σ.no := by omega
      have lo2 : σ.objs lo = some (r.locals.map (.int .i64)) := by simpa [hlo1] using hlo
      simp [pc84, W.av, W.cs, splice, hfo, fo2, e1, e2, e3, e4, e5, hlo1, lo2, hloc]
      refine ⟨by omega, by omega, push_calls k1 hst fun σ' hx' => ?_⟩
      simp
      exact hR _ _ _ rfl rfl (k2 _ _ _ hx')
  by_cases o3 : wop = 3
  · subst o3
    simp only [plainW] at hR hw
    by_cases hn0 : wn < 0 ∨ (r.locals.length : Int) ≤ wn
    · simp [hn0] at hw
    simp [hn0] at hR hw
    obtain ⟨v, hv1, e1⟩ := popped hw
    rw [e1] at hR
    obtain ⟨pv, lv, tv, cv, sv, fo1, e1, e2, e3, e4, e5, _, _, hcv, _⟩ := k1.cells
    rcases hcv with ⟨_, hl, _⟩ | ⟨lo, rfl, rfl, hlo⟩
    · rw [hl] at hn0; simp at hn0; omega
    · have fo2 : σ.objs fo = some [.str r.fn.name, pv, lv, .int .i64 r.fn.type, tv, .slm lo 0 1 r.locals.length, sv, .int .i64 r.result] := by simpa [hfo] using fo1
      simp [pc84, W.av, W.cs, splice, hfo, fo2, e1, e2, e3, e4, e5]
      refine pop_calls k1 hst hv1 fun σ1 hx1 => ?_
      have hb2 := hbo hx1
      obtain ⟨pv', lv', tv', cv', sv', fo1', e1', e2', e3', e4', e5', _, _, hcv', _⟩ := hx1.cells
      rcases hcv' with ⟨hL, _⟩ | ⟨lo', hL, rfl, hlo'⟩
      · cases hL
      · cases hL
        have hni : wn.toNat < r.locals.length := by omega
        simp [hb2, fo1', e1', e2', e3', e4', e5', hlo']
        refine ⟨by omega, by omega, by omega, hR _ _ _ rfl (k2 _ _ _ (hx1.setLoc hni))⟩
  by_cases o4 : wop = 4
  · subst o4
    simp only [plainW] at hR hw hO
    simp at hR hw hO
    obtain ⟨b, hv1, e1⟩ := popped hw
    rw [e1] at hR hw hO
    obtain ⟨a, hv2, e2⟩ := popped hw
    rw [e2] at hR hw hO
    have d1 := drop_len hv1
    have d2 := drop_len hv2
    simp only at hR hw hO d2
    simp [pc84, W.av, W.cs, splice]
    refine pop_calls k1 hst hv1 fun σ1 hx1 => ?_
    simp
    refine pop_calls hx1 (by simp; omega) hv2 fun σ2 hx2 => ?_
    have hb2 := hbo hx2
    simp [hb2]
    refine sign_calls V fun σ3 A3 => ?_
    have hx3 := hx2.adds A3
    have hb3 := hbo hx3
    simp [hb3]
    refine bin_calls ?_
    simp
    refine trap_calls (fun h0 => ?_) (fun h0 => ?_)
    · rw [if_pos h0] at hR
      simp
      refine push_calls hx3 (by simp; omega) fun σ4 hx4 => ?_
      simp
      exact hR _ _ _ rfl (k2 _ _ _ hx4)
    · rw [if_neg h0] at hO
      simp
      exact hO _ _ _ _ rfl (k3 _ _ hx3.stop)
  by_cases o5 : wop = 5
  · subst o5
    simp only [plainW] at hR hw
    simp at hR hw
    obtain ⟨b, hv1, e1⟩ := popped hw
    rw [e1] at hR hw
    have d1 := drop_len hv1
    simp [pc84, W.av, W.cs, splice]
    refine pop_calls k1 hst hv1 fun σ1 hx1 => ?_
    by_cases hb0 : b = 0
    · simp [hb0] at hR
      simp [hb0, splice]
      refine push_calls hx1 (by simp; omega) fun σ2 hx2 => ?_
      simp
      exact hR _ _ _ rfl rfl (k2 _ _ _ hx2)
    · simp [hb0] at hR
      simp [hb0, splice]
      refine push_calls hx1 (by simp; omega) fun σ2 hx2 => ?_
      simp
      exact hR _ _ _ rfl rfl (k2 _ _ _ hx2)
  by_cases o6 : wop = 6
  · subst o6
    simp only [plainW] at hR hw
    simp at hR hw
    obtain ⟨b, hv1, e1⟩ := popped hw
    rw [e1] at hR hw
    have d1 := drop_len hv1
    simp [pc84, W.av, W.cs, splice]
    refine pop_calls k1 hst hv1 fun σ1 hx1 => ?_
    simp
    refine wrap_calls ?_
    simp
    refine push_calls hx1 (by simp; omega) fun σ2 hx2 => ?_
    simp
    refine hR _ _ _ rfl (k2 _ _ _ ?_)
    simpa [Fr.push, wrapT] using hx2
  by_cases o8 : wop = 8
  · subst o8
    simp only [plainW] at hR hw hO
    simp at hR hw hO
    obtain ⟨a, hv1, e1⟩ := popped hw
    rw [e1] at hR hw hO
    have d1 := drop_len hv1
    unfold cellK at hR hw hO
    by_cases hn8 : wn < 1 ∨ 8 < wn
    · rw [if_pos hn8] at hw; exact absurd rfl hw
    rw [if_neg hn8] at hR hw hO
    simp [pc84, W.av, W.cs, splice]
    refine pop_calls k1 hst hv1 fun σ1 hx1 => ?_
    have hb2 := hbo hx1
    simp [hb2]
    have hml := hb.bd.mem
    refine cell_calls hx1 (by omega) (by omega) (fun hh => ?_) (fun hh => ?_)
    · rw [if_pos hh] at hO
      simp
      exact hO _ _ _ _ rfl (k3 _ _ hx1.stop)
    · rw [if_neg hh] at hR
      simp
      refine load_calls hx1.memo (by omega) (by omega) (by omega) ?_
      simp
      refine push_calls hx1 (by simp; omega) fun σ2 hx2 => ?_
      simp
      exact hR _ _ _ rfl (k2 _ _ _ hx2)
  by_cases o9 : wop = 9
  · subst o9
    simp only [plainW] at hR hw hO
    simp at hR hw hO
    obtain ⟨v, hv1, e1⟩ := popped hw
    rw [e1] at hR hw hO
    obtain ⟨a, hv2, e2⟩ := popped hw
    rw [e2] at hR hw hO
    have d1 := drop_len hv1
    have d2 := drop_len hv2
    simp only at d2
    unfold cellK at hR hw hO
    by_cases hn8 : wn < 1 ∨ 8 < wn
    · rw [if_pos hn8] at hw; exact absurd rfl hw
    rw [if_neg hn8] at hR hw hO
    simp [pc84, W.av, W.cs, splice]
    refine pop_calls k1 hst hv1 fun σ1 hx1 => ?_
    simp
    refine pop_calls hx1 (by simp; omega) hv2 fun σ2 hx2 => ?_
    have hb2 := hbo hx2
    simp [hb2]
    have hml := hb.bd.mem
    refine cell_calls hx2 (by omega) (by omega) (fun hh => ?_) (fun hh => ?_)
    · rw [if_pos hh] at hO
      simp
      exact hO _ _ _ _ rfl (k3 _ _ hx2.stop)
    · rw [if_neg hh] at hR
      obtain ⟨n, hn⟩ := Int.eq_ofNat_of_zero_le (show 0 ≤ wn by omega)
      obtain ⟨p, hp⟩ := Int.eq_ofNat_of_zero_le (show 0 ≤ a by omega)
      subst hn hp
      have hll : ((x.memory.drop p).take n).length = n := by simp; omega
      simp only [Int.toNat_natCast] at hR
      rw [hll] at hR
      simp
      refine aloop (STI fs mm mn (σ.newO [.int .i64 9, .int .i64 wty, .int .i64 (n : Int), .int .i64 wbody, .int .i64 wother, .str wname]) xo mo fo L T' x { r with stack := r.stack.dropLast.dropLast } p n v) (MU 105 (n + 1)) ⟨0, by omega, by simp, by simp, by simp, by simp, by simp, by rw [writeW_zero]; exact hx2⟩ fun b τ hI => ?_
      obtain ⟨i, hi, b0, b11, b12, b104, b105, hx⟩ := hI
      by_cases hlt : i < n
      · have hwl : (writeW x.memory p v i).length = x.memory.length := writeW_length (by omega)
        obtain ⟨gfv, giv, gov, go1, g1, g2, g3, _, _, _, gne, _⟩ := hx.xcells
        have hmm := hx.memo
        simp only at go1 hmm
        have u1 : IntKind.wrap .i64 ((p : Int) + (i : Int)) = ((p + i : Nat) : Int) := by rw [wrap_i64] <;> omega
        have u2 : IntKind.wrap .i64 (8 * (i : Int)) = 8 * (i : Int) := by rw [wrap_i64] <;> omega
        have u3 : IntKind.wrap .i64 ((i : Int) + 1) = ((i + 1 : Nat) : Int) := by rw [wrap_i64] <;> omega
        have u4 : min (8 * (i : Int)).toNat IntKind.i64.bits = 8 * i := by simp [IntKind.bits]; omega
        simp [pc84_l1, b0, b11, b12, b104, b105, hlt, go1, g1, g2, g3, u1, u2, u3, u4, hmm, hwl]
        have hpi : ((p : Int) + (i : Int)).toNat = p + i := by omega
        have hm2 := hx.setMem (m' := writeW x.memory p v (i + 1)) (by rw [writeW_length (by omega)]; exact hwl.symm)
        have es : splice ((writeW x.memory p v i).map fun b => AV.int .u8 b.toNat) (p + i) [.int .u8 (IntKind.u8.wrap (v.fdiv (2 ^ (8 * i))))] = (writeW x.memory p v (i + 1)).map fun b => .int .u8 b.toNat := by
          rw [splice_one (by simp [hwl]; omega), writeW_succ (by omega), List.map_set, byteW_toNat]
        refine ⟨by omega, by omega, by omega, by omega, ⟨i + 1, by omega, by simp [b0], by simp [b11], by simp [b12], by simp [b104], by simp, ?_⟩, ?_⟩
        · rw [hpi, es]; exact hm2
        · simp only [MU, b105]; simp; omega
      · have e : i = n := by omega
        subst e
        simp [pc84_l1, b0, b11, b12, b104, b105]
        exact hR _ _ _ rfl (k2 _ _ _ hx)
  by_cases o10 : wop = 10
  · subst o10
    simp only [plainW] at hR hw hO
    simp at hR hw hO
    simp [pc84, W.av, W.cs, splice]
    refine calling_calls hrec hbd hD0 hfs hnn k1 hb hw (fun x' r' σ' e hx' => ?_) (fun s c x' σ' e ho => ?_)
    · simp
      exact hR _ _ _ e (k2 _ _ _ hx')
    · simp
      exact hO _ _ _ _ e (k3 _ _ ho)
  by_cases o17 : wop = 17
  · subst o17
    simp only [plainW] at hO
    simp at hO
    simp [pc84, W.av, W.cs, splice]
    refine trap_calls (fun h0 => by omega) (fun h0 => ?_)
    simp
    exact hO _ _ _ _ rfl rfl rfl h1.stop
  by_cases o18 : wop = 18
  · subst o18
    simp only [plainW] at hR hw
    simp at hR hw
    obtain ⟨b, hv1, e1⟩ := popped hw
    rw [e1] at hR hw
    simp [pc84, W.av, W.cs, splice]
    refine pop_calls k1 hst hv1 fun σ1 hx1 => ?_
    simp
    exact hR _ _ _ rfl (k2 _ _ _ hx1)
  simp [plainW, o1, o2, o3, o4, o5, o6, o8, o9, o10, o17, o18] at hR
  simp [pc84, W.av, W.cs, splice, o1, o2, o3, o4, o5, o6, o8, o9, o10, o17, o18]
  exact hR _ _ _ rfl rfl h1
end
end Go.Proofs.YthifgodgfhbnfaaDoor
set_option linter.unusedSimpArgs false
set_option linter.unusedVariables false
namespace Go.Proofs.YthifgodgfhbnfaaDoor
open Go Go.Abs
section
variable {G : Env} {fs : List F} {mm mn : Int} {σ0 σ : AS} {xo mo fo : Nat} {L T D : List Nat} {x : Mach} {r : Fr} {R : Out → AS → Prop}
set_option maxRecDepth 100000 in
set_option maxHeartbeats 2000000 in
theorem list_rounds (V : Vars G) {N : Nat} {Dp : Int} {rec : RunR} (hrec : ListOk G fs mm mn N Dp rec) (hbd : RBd N Dp rec) (hD0 : 0 ≤ Dp) (hD2 : Dp ≤ 2 ^ 62) (hfs : OkFs fs) {k : Nat} {deep : Int} (h0 : 0 ≤ deep) (hd : deep + 1 ≤ Dp) {height : Nat} {rv : AV} {all : List W} (hrv : RepL rv all) (hall : all.length ≤ 2 ^ 38) (hnum : ∀ w ∈ all, w.n ≤ 2 ^ 63 - 1) :
    ∀ (ws : List W) (pre : List W), all = pre ++ ws → ∀ {x1 : Mach} {r1 : Fr} {τ : AS} {a : Nat → AV}, XF fs mm mn σ0 xo mo fo L T x1 r1 τ → Bd N x1 r1 → instrsW fs rec k deep height ws x1 r1 ≠ .bad →
      a 0 = .ptr xo 0 → a 1 = .ptr fo 0 → a 3 = .int .i64 deep → a 9 = .int .i64 (height : Int) → a 25 = rv → a 26 = .int .i64 (all.length : Int) → a 27 = .int .i64 (pre.length : Int) →
      (∀ o x' r' σ', instrsW fs rec k deep height ws x1 r1 = .ok o x' r' → XF fs mm mn σ0 xo mo fo L T x' r' σ' → R (.ret (.int .i64 o)) σ') →
      (∀ s c x' σ', instrsW fs rec k deep height ws x1 r1 = .over s c x' → XO fs mm mn σ0 xo mo (fo :: L) T x' σ' → R (.panic (overV s c)) σ') →
      ARounds Tryd.prog G 82 pc67_l1 (ablock 0 (athen (avc Tryd.prog G 82 pc67_r1 (afin Tryd.prog [ResultVar.tmp 8] R)) (afin Tryd.prog [ResultVar.tmp 8] R))) (ws.length + 1) a τ
  | [], pre, hall2, x1, r1, τ, a, hx, hb, hw, a0, a1, a3, a9, a25, a26, a27, hR, hO => by
    have hl : all.length = pre.length := by rw [hall2]; simp
    simp [pc67_l1, pc67_r1, a0, a1, a3, a9, a25, a26, a27, hl]
    exact hR _ _ _ _ rfl hx
  | w :: ws, pre, hall2, x1, r1, τ, a, hx, hb, hw, a0, a1, a3, a9, a25, a26, a27, hR, hO => by
    obtain ⟨wop, wty, wn, wbody, wother, wname⟩ := w
    have hl : pre.length < all.length := by rw [hall2]; simp
    have hget : all[pre.length] = (⟨wop, wty, wn, wbody, wother, wname⟩ : W) := by simp [hall2]
    obtain ⟨b, hix⟩ := hrv.at hl
    rw [hget] at hix
    have hwn := hnum (⟨wop, wty, wn, wbody, wother, wname⟩ : W) (by rw [hall2]; simp)
    obtain ⟨gfv, giv, gov, go1, g1, g2, g3, hgf, hgi, hgo, gne, _⟩ := hx.xcells
    have hlts := hx.lts
    have hxo : xo ≠ τ.no := by omega
    simp only [instrsW] at hw hR hO
    have hxo' : τ.no ≠ xo := by omega
    have A : Adds τ ((τ.newO [.int .i64 0, .int .i64 0, .int .i64 0, .int .i64 0, .int .i64 0, .str []]).setO τ.no [.int .i64 wop, .int .i64 wty, .int .i64 wn, .int .i64 wbody, .int .i64 wother, .str wname]) := (Adds.refl τ).newO.setO (Nat.le_refl _)
    have wst : IntKind.wrap .i64 (x1.steps - 1) = x1.steps - 1 ∨ x1.steps < 1 := by
      by_cases h : x1.steps < 1
      · exact .inr h
      · left; have := hb.stack; have := hb.n; rw [wrap_i64] <;> omega
    by_cases hs : x1.steps < 1
    · simp [hs] at hO
      simp [pc67_l1, a0, a1, a3, a9, a25, a26, a27, hl, hix, W.av, W.cs, splice, hxo, go1, g1, g2, g3, hs]
      exact hO _ _ _ _ rfl rfl rfl (hx.adds A).stop
    · have w1 : IntKind.wrap .i64 (x1.steps - 1) = x1.steps - 1 := by rcases wst with h | h; exact h; exact absurd h hs
      rw [if_neg hs] at hw hR hO
      have hb1 := hb.one (by omega)
      have hx2 : XF fs mm mn σ0 xo mo fo L T { x1 with steps := x1.steps - 1 } r1 (((τ.newO [.int .i64 0, .int .i64 0, .int .i64 0, .int .i64 0, .int .i64 0, .str []]).setO τ.no [.int .i64 wop, .int .i64 wty, .int .i64 wn, .int .i64 wbody, .int .i64 wother, .str wname]).setO xo [gfv, .int .i64 mm, .int .i64 mn, giv, .int .i64 (x1.steps - 1), .slm mo 0 1 x1.memory.length, gov, .int .i64 x1.calls]) :=
        (hx.adds A).setX (σ1 := (τ.newO [.int .i64 0, .int .i64 0, .int .i64 0, .int .i64 0, .int .i64 0, .str []]).setO τ.no [.int .i64 wop, .int .i64 wty, .int .i64 wn, .int .i64 wbody, .int .i64 wother, .str wname]) (by simp [hxo]; exact go1) rfl rfl (Nat.le_refl _) (fun _ _ _ => rfl) hgi (hgo.keep A.nf fun g hg => rfl) fun k hk => .inl hk
      -- behind the instruction
      have w3 : IntKind.wrap .i64 ((pre.length : Int) + 1) = ((pre.length + 1 : Nat) : Int) := by rw [wrap_i64] <;> omega
      have w4 : IntKind.wrap .i64 (deep + 1) = deep + 1 := by rw [wrap_i64] <;> omega
      have fin : ∀ {o : Int} {x2 : Mach} {r2 : Fr} {σ2 : AS} {b : Nat → AV}, execW fs rec k deep (⟨wop, wty, wn, wbody, wother, wname⟩ : W) { x1 with steps := x1.steps - 1 } r1 = .ok o x2 r2 → XF fs mm mn σ0 xo mo fo L T x2 r2 σ2 → o = -1 → b 0 = .ptr xo 0 → b 1 = .ptr fo 0 → b 3 = .int .i64 deep → b 9 = .int .i64 (height : Int) → b 25 = rv → b 26 = .int .i64 (all.length : Int) → b 27 = .int .i64 ((pre.length + 1 : Nat) : Int) →
          ARounds Tryd.prog G 82 pc67_l1 (ablock 0 (athen (avc Tryd.prog G 82 pc67_r1 (afin Tryd.prog [ResultVar.tmp 8] R)) (afin Tryd.prog [ResultVar.tmp 8] R))) (ws.length + 1) b σ2 := by
        intro o x2 r2 σ2 b e hx3 ho b0 b1 b3 b9 b25 b26 b27
        rw [e] at hw hR hO
        simp only [ho, if_true] at hw hR hO
        have hbd2 := (exec_bd hbd hfs hD0 hD2 hwn hd hb1 e).1.bd
        exact list_rounds V hrec hbd hD0 hD2 hfs h0 hd hrv hall hnum ws (pre ++ [(⟨wop, wty, wn, wbody, wother, wname⟩ : W)]) (by rw [hall2]; simp) hx3 hbd2 hw b0 b1 b3 b9 b25 b26 (by rw [b27]; simp) hR hO
      by_cases hA : wop = 11 ∨ wop = 12 ∨ wop = 13
      · have hex : execW fs rec k deep (⟨wop, wty, wn, wbody, wother, wname⟩ : W) { x1 with steps := x1.steps - 1 } r1 = aroundW rec k (⟨wop, wty, wn, wbody, wother, wname⟩ : W) (deep + 1) { x1 with steps := x1.steps - 1 } r1 := by unfold execW; rw [if_pos hA]
        have hne : aroundW rec k (⟨wop, wty, wn, wbody, wother, wname⟩ : W) (deep + 1) { x1 with steps := x1.steps - 1 } r1 ≠ .bad := fun e => by rw [hex, e] at hw; exact hw rfl
        rcases hA with hop | hop | hop
        · subst hop
          simp [pc67_l1, a0, a1, a3, a9, a25, a26, a27, hl, hix, W.av, W.cs, splice, hxo, hxo', go1, g1, g2, g3, hs, w1, w4]
          refine around_calls (w := ⟨11, wty, wn, wbody, wother, wname⟩) hrec hbd hx2 hb1.bd (by omega) hd hne (fun o x2 r2 σ2 e hx3 => ?_) (fun s c x2 σ2 e ho => ?_)
          · by_cases ho : o = -1
            · simp [-ARounds_succ, ho, a0, a1, a3, a9, a25, a26, a27, w3]
              refine fin (hex.trans e) hx3 ho ?_ ?_ ?_ ?_ ?_ ?_ ?_ <;> simp [a0, a1, a3, a9, a25, a26]
            · rw [hex, e] at hw hR
              simp only [if_neg ho] at hw hR
              by_cases hh : r2.stack.length < height
              · rw [if_pos hh] at hw; exact absurd rfl hw
              rw [if_neg hh] at hR
              obtain ⟨pv, lv, tv, cv, sv, fo1, e1, e2, e3, e4, e5, hsv, _, _, _⟩ := hx3.cells
              rcases hsv with ⟨hs0, rfl⟩ | ⟨q, rfl, q1, q2⟩
              · have hh0 : height = 0 := by rw [hs0] at hh; simp at hh; exact hh
                subst hh0
                simp [-ARounds_succ, ho, a0, a1, a3, a9, a25, a26, a27, fo1, e1, e2, e3, e4, splice]
                exact hR _ _ _ _ rfl (hx3.setFr (σ1 := σ2) (st' := r2.stack.take 0) (res' := r2.result) fo1 rfl rfl (Nat.le_refl _) (fun _ _ _ => rfl) (.inl ⟨by simp, rfl⟩) fun k hk => .inl hk)
              · simp [-ARounds_succ, ho, a0, a1, a3, a9, a25, a26, a27, fo1, e1, e2, e3, e4, splice]
                refine ⟨by omega, hR _ _ _ _ rfl (hx3.setFr (σ1 := σ2) (st' := r2.stack.take height) (res' := r2.result) fo1 rfl rfl (Nat.le_refl _) (fun _ _ _ => rfl) (.inr ⟨q, by rw [List.map_take], q1, q2⟩) fun k hk => .inl hk)⟩
          · rw [hex, e] at hO
            simp
            exact hO _ _ _ _ rfl ho
        · subst hop
          simp [pc67_l1, a0, a1, a3, a9, a25, a26, a27, hl, hix, W.av, W.cs, splice, hxo, hxo', go1, g1, g2, g3, hs, w1, w4]
          refine around_calls (w := ⟨12, wty, wn, wbody, wother, wname⟩) hrec hbd hx2 hb1.bd (by omega) hd hne (fun o x2 r2 σ2 e hx3 => ?_) (fun s c x2 σ2 e ho => ?_)
          · by_cases ho : o = -1
            · simp [-ARounds_succ, ho, a0, a1, a3, a9, a25, a26, a27, w3]
              refine fin (hex.trans e) hx3 ho ?_ ?_ ?_ ?_ ?_ ?_ ?_ <;> simp [a0, a1, a3, a9, a25, a26]
            · rw [hex, e] at hw hR
              simp only [if_neg ho] at hw hR
              by_cases hh : r2.stack.length < height
              · rw [if_pos hh] at hw; exact absurd rfl hw
              rw [if_neg hh] at hR
              obtain ⟨pv, lv, tv, cv, sv, fo1, e1, e2, e3, e4, e5, hsv, _, _, _⟩ := hx3.cells
              rcases hsv with ⟨hs0, rfl⟩ | ⟨q, rfl, q1, q2⟩
              · have hh0 : height = 0 := by rw [hs0] at hh; simp at hh; exact hh
                subst hh0
                simp [-ARounds_succ, ho, a0, a1, a3, a9, a25, a26, a27, fo1, e1, e2, e3, e4, splice]
                exact hR _ _ _ _ rfl (hx3.setFr (σ1 := σ2) (st' := r2.stack.take 0) (res' := r2.result) fo1 rfl rfl (Nat.le_refl _) (fun _ _ _ => rfl) (.inl ⟨by simp, rfl⟩) fun k hk => .inl hk)
              · simp [-ARounds_succ, ho, a0, a1, a3, a9, a25, a26, a27, fo1, e1, e2, e3, e4, splice]
                refine ⟨by omega, hR _ _ _ _ rfl (hx3.setFr (σ1 := σ2) (st' := r2.stack.take height) (res' := r2.result) fo1 rfl rfl (Nat.le_refl _) (fun _ _ _ => rfl) (.inr ⟨q, by rw [List.map_take], q1, q2⟩) fun k hk => .inl hk)⟩
          · rw [hex, e] at hO
            simp
            exact hO _ _ _ _ rfl ho
        · subst hop
          simp [pc67_l1, a0, a1, a3, a9, a25, a26, a27, hl, hix, W.av, W.cs, splice, hxo, hxo', go1, g1, g2, g3, hs, w1, w4]
          refine around_calls (w := ⟨13, wty, wn, wbody, wother, wname⟩) hrec hbd hx2 hb1.bd (by omega) hd hne (fun o x2 r2 σ2 e hx3 => ?_) (fun s c x2 σ2 e ho => ?_)
          · by_cases ho : o = -1
            · simp [-ARounds_succ, ho, a0, a1, a3, a9, a25, a26, a27, w3]
              refine fin (hex.trans e) hx3 ho ?_ ?_ ?_ ?_ ?_ ?_ ?_ <;> simp [a0, a1, a3, a9, a25, a26]
            · rw [hex, e] at hw hR
              simp only [if_neg ho] at hw hR
              by_cases hh : r2.stack.length < height
              · rw [if_pos hh] at hw; exact absurd rfl hw
              rw [if_neg hh] at hR
              obtain ⟨pv, lv, tv, cv, sv, fo1, e1, e2, e3, e4, e5, hsv, _, _, _⟩ := hx3.cells
              rcases hsv with ⟨hs0, rfl⟩ | ⟨q, rfl, q1, q2⟩
              · have hh0 : height = 0 := by rw [hs0] at hh; simp at hh; exact hh
                subst hh0
                simp [-ARounds_succ, ho, a0, a1, a3, a9, a25, a26, a27, fo1, e1, e2, e3, e4, splice]
                exact hR _ _ _ _ rfl (hx3.setFr (σ1 := σ2) (st' := r2.stack.take 0) (res' := r2.result) fo1 rfl rfl (Nat.le_refl _) (fun _ _ _ => rfl) (.inl ⟨by simp, rfl⟩) fun k hk => .inl hk)
              · simp [-ARounds_succ, ho, a0, a1, a3, a9, a25, a26, a27, fo1, e1, e2, e3, e4, splice]
                refine ⟨by omega, hR _ _ _ _ rfl (hx3.setFr (σ1 := σ2) (st' := r2.stack.take height) (res' := r2.result) fo1 rfl rfl (Nat.le_refl _) (fun _ _ _ => rfl) (.inr ⟨q, by rw [List.map_take], q1, q2⟩) fun k hk => .inl hk)⟩
          · rw [hex, e] at hO
            simp
            exact hO _ _ _ _ rfl ho
      · by_cases hB : wop = 14 ∨ wop = 15 ∨ wop = 16
        · have hex : execW fs rec k deep (⟨wop, wty, wn, wbody, wother, wname⟩ : W) { x1 with steps := x1.steps - 1 } r1 = outW (⟨wop, wty, wn, wbody, wother, wname⟩ : W) deep { x1 with steps := x1.steps - 1 } r1 := by unfold execW; rw [if_neg hA, if_pos hB]
          have hne : outW (⟨wop, wty, wn, wbody, wother, wname⟩ : W) deep { x1 with steps := x1.steps - 1 } r1 ≠ .bad := fun e => by rw [hex, e] at hw; exact hw rfl
          rcases hB with hop | hop | hop
          · subst hop
            simp [pc67_l1, a0, a1, a3, a9, a25, a26, a27, hl, hix, W.av, W.cs, splice, hxo, hxo', go1, g1, g2, g3, hs, w1, w4]
            refine out_calls (w := ⟨14, wty, wn, wbody, wother, wname⟩) hx2 hb1.bd hne (fun o x2 r2 σ2 e hx3 => ?_)
            by_cases ho : o = -1
            · simp [-ARounds_succ, ho, a0, a1, a3, a9, a25, a26, a27, w3]
              refine fin (hex.trans e) hx3 ho ?_ ?_ ?_ ?_ ?_ ?_ ?_ <;> simp [a0, a1, a3, a9, a25, a26]
            · rw [hex, e] at hw hR
              simp only [if_neg ho] at hw hR
              by_cases hh : r2.stack.length < height
              · rw [if_pos hh] at hw; exact absurd rfl hw
              rw [if_neg hh] at hR
              obtain ⟨pv, lv, tv, cv, sv, fo1, e1, e2, e3, e4, e5, hsv, _, _, _⟩ := hx3.cells
              rcases hsv with ⟨hs0, rfl⟩ | ⟨q, rfl, q1, q2⟩
              · have hh0 : height = 0 := by rw [hs0] at hh; simp at hh; exact hh
                subst hh0
                simp [-ARounds_succ, ho, a0, a1, a3, a9, a25, a26, a27, fo1, e1, e2, e3, e4, splice]
                exact hR _ _ _ _ rfl (hx3.setFr (σ1 := σ2) (st' := r2.stack.take 0) (res' := r2.result) fo1 rfl rfl (Nat.le_refl _) (fun _ _ _ => rfl) (.inl ⟨by simp, rfl⟩) fun k hk => .inl hk)
              · simp [-ARounds_succ, ho, a0, a1, a3, a9, a25, a26, a27, fo1, e1, e2, e3, e4, splice]
                refine ⟨by omega, hR _ _ _ _ rfl (hx3.setFr (σ1 := σ2) (st' := r2.stack.take height) (res' := r2.result) fo1 rfl rfl (Nat.le_refl _) (fun _ _ _ => rfl) (.inr ⟨q, by rw [List.map_take], q1, q2⟩) fun k hk => .inl hk)⟩
          · subst hop
            simp [pc67_l1, a0, a1, a3, a9, a25, a26, a27, hl, hix, W.av, W.cs, splice, hxo, hxo', go1, g1, g2, g3, hs, w1, w4]
            refine out_calls (w := ⟨15, wty, wn, wbody, wother, wname⟩) hx2 hb1.bd hne (fun o x2 r2 σ2 e hx3 => ?_)
            by_cases ho : o = -1
            · simp [-ARounds_succ, ho, a0, a1, a3, a9, a25, a26, a27, w3]
              refine fin (hex.trans e) hx3 ho ?_ ?_ ?_ ?_ ?_ ?_ ?_ <;> simp [a0, a1, a3, a9, a25, a26]
            · rw [hex, e] at hw hR
              simp only [if_neg ho] at hw hR
              by_cases hh : r2.stack.length < height
              · rw [if_pos hh] at hw; exact absurd rfl hw
              rw [if_neg hh] at hR
              obtain ⟨pv, lv, tv, cv, sv, fo1, e1, e2, e3, e4, e5, hsv, _, _, _⟩ := hx3.cells
              rcases hsv with ⟨hs0, rfl⟩ | ⟨q, rfl, q1, q2⟩
              · have hh0 : height = 0 := by rw [hs0] at hh; simp at hh; exact hh
                subst hh0
                simp [-ARounds_succ, ho, a0, a1, a3, a9, a25, a26, a27, fo1, e1, e2, e3, e4, splice]
                exact hR _ _ _ _ rfl (hx3.setFr (σ1 := σ2) (st' := r2.stack.take 0) (res' := r2.result) fo1 rfl rfl (Nat.le_refl _) (fun _ _ _ => rfl) (.inl ⟨by simp, rfl⟩) fun k hk => .inl hk)
              · simp [-ARounds_succ, ho, a0, a1, a3, a9, a25, a26, a27, fo1, e1, e2, e3, e4, splice]
                refine ⟨by omega, hR _ _ _ _ rfl (hx3.setFr (σ1 := σ2) (st' := r2.stack.take height) (res' := r2.result) fo1 rfl rfl (Nat.le_refl _) (fun _ _ _ => rfl) (.inr ⟨q, by rw [List.map_take], q1, q2⟩) fun k hk => .inl hk)⟩
          · subst hop
            simp [pc67_l1, a0, a1, a3, a9, a25, a26, a27, hl, hix, W.av, W.cs, splice, hxo, hxo', go1, g1, g2, g3, hs, w1, w4]
            refine out_calls (w := ⟨16, wty, wn, wbody, wother, wname⟩) hx2 hb1.bd hne (fun o x2 r2 σ2 e hx3 => ?_)
            by_cases ho : o = -1
            · simp [-ARounds_succ, ho, a0, a1, a3, a9, a25, a26, a27, w3]
              refine fin (hex.trans e) hx3 ho ?_ ?_ ?_ ?_ ?_ ?_ ?_ <;> simp [a0, a1, a3, a9, a25, a26]
            · rw [hex, e] at hw hR
              simp only [if_neg ho] at hw hR
              by_cases hh : r2.stack.length < height
              · rw [if_pos hh] at hw; exact absurd rfl hw
              rw [if_neg hh] at hR
              obtain ⟨pv, lv, tv, cv, sv, fo1, e1, e2, e3, e4, e5, hsv, _, _, _⟩ := hx3.cells
              rcases hsv with ⟨hs0, rfl⟩ | ⟨q, rfl, q1, q2⟩
              · have hh0 : height = 0 := by rw [hs0] at hh; simp at hh; exact hh
                subst hh0
                simp [-ARounds_succ, ho, a0, a1, a3, a9, a25, a26, a27, fo1, e1, e2, e3, e4, splice]
                exact hR _ _ _ _ rfl (hx3.setFr (σ1 := σ2) (st' := r2.stack.take 0) (res' := r2.result) fo1 rfl rfl (Nat.le_refl _) (fun _ _ _ => rfl) (.inl ⟨by simp, rfl⟩) fun k hk => .inl hk)
              · simp [-ARounds_succ, ho, a0, a1, a3, a9, a25, a26, a27, fo1, e1, e2, e3, e4, splice]
                refine ⟨by omega, hR _ _ _ _ rfl (hx3.setFr (σ1 := σ2) (st' := r2.stack.take height) (res' := r2.result) fo1 rfl rfl (Nat.le_refl _) (fun _ _ _ => rfl) (.inr ⟨q, by rw [List.map_take], q1, q2⟩) fun k hk => .inl hk)⟩
        · have n1 : wop ≠ 11 ∧ wop ≠ 12 ∧ wop ≠ 13 := by simpa using hA
          have n2 : wop ≠ 14 ∧ wop ≠ 15 ∧ wop ≠ 16 := by simpa using hB
          have hne : plainW fs rec (⟨wop, wty, wn, wbody, wother, wname⟩ : W) { x1 with steps := x1.steps - 1 } r1 ≠ .bad := fun e => by
            unfold execW at hw; rw [if_neg hA, if_neg hB, e] at hw; exact hw rfl
          simp [pc67_l1, a0, a1, a3, a9, a25, a26, a27, hl, hix, W.av, W.cs, splice, hxo, hxo', go1, g1, g2, g3, hs, w1, w4, n1, n2]
          refine plainX_calls (w := ⟨wop, wty, wn, wbody, wother, wname⟩) V hrec hbd hD0 hfs hwn hx2 hb1 hne (fun x2 r2 σ2 e hx3 => ?_) (fun s c x2 σ2 e ho => ?_)
          · simp [-ARounds_succ, a0, a1, a3, a9, a25, a26, a27, w3]
            refine fin (o := -1) (by unfold execW; rw [if_neg hA, if_neg hB, e]) hx3 rfl ?_ ?_ ?_ ?_ ?_ ?_ ?_ <;> simp [a0, a1, a3, a9, a25, a26]
          · have e2 : execW fs rec k deep (⟨wop, wty, wn, wbody, wother, wname⟩ : W) { x1 with steps := x1.steps - 1 } r1 = .over s c x2 := by unfold execW; rw [if_neg hA, if_neg hB, e]
            rw [e2] at hO
            simp
            exact hO _ _ _ _ rfl ho
end
end Go.Proofs.YthifgodgfhbnfaaDoor
set_option linter.unusedSimpArgs false
set_option linter.unusedVariables false
namespace Go.Proofs.YthifgodgfhbnfaaDoor
open Go Go.Abs
theorem list_ok {G : Env} (V : Vars G) {fs : List F} (hfs : OkFs fs) {mm mn : Int} {N : Nat} : ∀ (k : Nat) (D : Int), 0 ≤ D → D + k ≤ 2 ^ 62 → ListOk G fs mm mn N D (runL fs k)
  | 0, D, _, _ => by
    intro h hb h0 hd hw
    exact absurd rfl hw
  | k + 1, D, hD, hDk => by
    rename_i σ0 σ xo mo fo L T x r at_ deep R
    intro h hb h0 hd hw hR hO
    refine calls67 rfl ?_
    simp only [runL] at hw hR hO
    by_cases ha : at_ < 0
    · rw [if_pos ha] at hw; exact absurd rfl hw
    rw [if_neg ha] at hw hR hO
    cases hws : r.fn.lists[at_.toNat]? with
    | none => rw [hws] at hw; exact absurd rfl hw
    | some ws =>
    rw [hws] at hw hR hO
    simp only at hw hR hO
    obtain ⟨hi, hie⟩ := List.getElem?_eq_some_iff.1 hws
    obtain ⟨pv, lv, tv, cv, sv, fo1, e1, e2, e3, e4, e5, hsv, htv, _, _⟩ := h.cells
    obtain ⟨b, rv, hrv, hix⟩ := htv.at hi
    rw [hie] at hrv
    have ea : ((at_.toNat : Nat) : Int) = at_ := by omega
    rw [ea] at hix
    have sl := hsv.len
    have rl := hrv.len
    have r1 := hrv.one
    have hmem := List.mem_of_getElem? hws
    simp [pc67, fo1, e1, e2, e3, e4, e5, sl, hix, rl, r1]
    refine aloop_rounds (ws.length + 1) ?_
    refine list_rounds V (list_ok V hfs k (D + 1) (by omega) (by push_cast at hDk; omega)) (runL_bd hfs k (D + 1) (by omega) (by push_cast at hDk; omega)) (by omega) (by push_cast at hDk; omega) hfs h0 (by omega) hrv (hb.fn.rows _ hmem) (hb.fn.nums _ hmem) ws [] rfl h hb hw ?_ ?_ ?_ ?_ ?_ ?_ ?_ hR hO <;> simp
end Go.Proofs.YthifgodgfhbnfaaDoor
set_option linter.unusedSimpArgs false
set_option linter.unusedVariables false
namespace Go.Proofs.YthifgodgfhbnfaaDoor
open Go Go.Abs
theorem check_memory {m : M} (h : checkE m = .ok ()) : 0 ≤ m.memory ∧ m.memory ≤ 4096 := by
  unfold checkE at h
  split at h
  · cases h
  · rename_i q
    simpa using q
theorem check_main {m : M} (h : checkE m = .ok ()) : 0 ≤ m.main ∧ ∃ g, m.funcs[m.main.toNat]? = some g ∧ g.type = 1 ∧ g.params.length = 0 := by
  have hm : mainB m = true := by
    unfold checkE at h
    split at h
    · cases h
    · split at h
      · cases h
      · split at h
        · assumption
        · cases h
  unfold mainB at hm
  simp only [Bool.and_eq_true, decide_eq_true_eq] at hm
  obtain ⟨h0, h1⟩ := hm
  refine ⟨h0, ?_⟩
  cases hg : m.funcs[m.main.toNat]? with
  | none => rw [hg] at h1; cases h1
  | some g =>
    rw [hg] at h1
    simp only [Bool.and_eq_true, decide_eq_true_eq] at h1
    exact ⟨g, rfl, h1.1, h1.2⟩
theorem flat_rep (n : Nat) (k : IntKind) (v : Int) : flat (List.replicate n (AV.int k v)) = List.replicate n (AV.int k v) := by
  induction n with
  | zero => rfl
  | succ n ih => simp only [List.replicate_succ, flat, List.flatMap_cons] at ih ⊢; rw [ih]; rfl
theorem amake_bytes {G : Env} {n : Int} (h0 : 0 ≤ n) (h1 : n ≤ 4096) {σ : AS} {K : AV → AS → Prop} : amake Tryd.prog 84 (.int .i64 n) (.int .i64 n) σ K = K (.slm σ.no 0 1 n.toNat) (σ.newO (List.replicate n.toNat (.int .u8 0))) := by
  refine propext ⟨fun h => ?_, fun h => ?_⟩
  · obtain ⟨sz, bs, z, e1, e2, e3, e4, e5, _, _, _, _, h⟩ := h
    rw [t_el84] at e1
    rw [t_ez84] at e3
    cases e1; cases e3
    rw [flat_rep] at h
    exact h
  · refine ⟨1, 1, _, t_el84, t_eb84, t_ez84, rfl, rfl, rfl, h0, by omega, by omega, ?_⟩
    rw [flat_rep]
    exact h
set_option maxHeartbeats 1000000 in
theorem run_calls {G : Env} (V : Vars G) {m : M} {mv iv : AV} {input : List Int} {steps : Int} {σ : AS} {R : Out → AS → Prop} (hm : MV mv m) (hc : checkE m = .ok ()) (hfs : OkFs m.funcs) (hi : IntsV iv input) (hil : input.length ≤ 2 ^ 38) (hs : steps ≤ 2 ^ 38)
    (hR : ∀ ov out st code σ', runM m input steps (steps.toNat + 1) = some (out, st, code) → IntsV ov out → Adds σ σ' → R (.ret (.agg [ov, .int .i64 st, .int .i64 code])) σ') : ACalls Tryd.prog G 21 [mv, iv, .int .i64 steps] σ R := by
  refine freezing ?_
  refine acalls_recover2 (px := pc21_x) (px2 := pc21_yx) (pz := pc21_yz) (k := 45) (py := pc45_h) (n := 32) (nk := 18) (t := 17) (d0 := 4) (d1 := 2) (res := [.cell 6 46]) mixed Tryd.func21 rfl rfl rfl rfl (by kernel_rfl) (by kernel_rfl) (by kernel_rfl) (by simp) rfl rfl rfl rfl rfl rfl (by decide) Tryd.func45 rfl (by kernel_rfl) rfl rfl rfl rfl rfl rfl rfl rfl rfl (by kernel_rfl) (by decide) (by decide) (by decide) ?_
  obtain ⟨fsv, rfl, hfsv⟩ := hm
  have f1 := hfsv.one
  have i1 := hi.one
  obtain ⟨m0, m1⟩ := check_memory hc
  obtain ⟨mn0, g, hg, hgt, hgp⟩ := check_main hc
  obtain ⟨out, st, code, he, _, hout⟩ := runM_sound hc input steps (steps.toNat + 1) (by omega)
  have hgm : m.funcs[m.main.toNat]? = some g := hg
  have hlt : m.main.toNat < m.funcs.length := (List.getElem?_eq_some_iff.1 hg).1
  obtain ⟨bb, gv, hgv, hix⟩ := hfsv.at hlt
  have hge : m.funcs[m.main.toNat] = g := (List.getElem?_eq_some_iff.1 hg).2
  rw [hge] at hgv
  rw [Int.toNat_of_nonneg mn0] at hix
  obtain ⟨gpv, glv, gtv, rfl, hgpv, hglv, hgtv⟩ := hgv
  have g1 := hgpv.one
  have g2 := hglv.one
  have g3 := hgtv.one
  have hgv : FV (.agg [.str g.name, gpv, glv, .int .i64 g.type, gtv]) g := ⟨gpv, glv, gtv, rfl, hgpv, hglv, hgtv⟩
  have hgo : OkF g := hfs g (List.mem_of_getElem? hg)
  have hcallw : callW (runL m.funcs (steps.toNat + 1)) ⟨input, steps, List.replicate m.memory.toNat 0, [], 0⟩ g [] ⟨g, [], [], 0⟩ ≠ .bad := by
    intro e
    unfold runM at he
    rw [if_neg (by omega), hg] at he
    simp only at he
    rw [e] at he
    cases he
  have hov : ∀ s c x', callW (runL m.funcs (steps.toNat + 1)) ⟨input, steps, List.replicate m.memory.toNat 0, [], 0⟩ g [] ⟨g, [], [], 0⟩ = .over s c x' → runM m input steps (steps.toNat + 1) = some (x'.out, s, c) := fun s c x' e => by
    unfold runM
    rw [if_neg (by omega), hg]
    simp only
    rw [e]
  have hok : ∀ v x' r', callW (runL m.funcs (steps.toNat + 1)) ⟨input, steps, List.replicate m.memory.toNat 0, [], 0⟩ g [] ⟨g, [], [], 0⟩ = .ok v x' r' → runM m input steps (steps.toNat + 1) = some (x'.out, 1, v) := fun v x' r' e => by
    unfold runM
    rw [if_neg (by omega), hg]
    simp only
    rw [e]
  have fin : ∀ (τ σ' : AS) (xo mo ro : Nat) (x' : Mach) (ov : AV) (s c : Int), Adds σ τ → σ.no ≤ xo → σ.no ≤ mo → σ.no ≤ ro → XM m.funcs m.memory m.main τ xo mo [] [] x' ov σ' → runM m input steps (steps.toNat + 1) = some (x'.out, s, c) → FrzOr R (.ret (.agg [ov, .int .i64 s, .int .i64 c])) (σ'.setO ro [ov, .int .i64 s, .int .i64 c]) := by
    intro τ σ' xo mo ro x' ov s c A hx hmo hr hm e
    have A2 : Adds σ (σ'.setO ro [ov, .int .i64 s, .int .i64 c]) := by
      have h1 := hm.no; have h2 := hm.nf; have h3 := A.no; have h4 := A.nf
      refine ⟨by simp; omega, by simp; omega, fun o ho => ?_, fun f hf => ?_⟩
      · have : o ≠ ro := by omega
        simp [this]
        rw [hm.obj o (by omega) (by omega) (by omega) (by simp)]; exact A.obj o ho
      · simp
        rw [hm.fam f (by omega) (by simp)]; exact A.fam f hf
    rcases hm.own with ⟨h1, rfl⟩ | ⟨q, rfl, h1, h2⟩
    · exact .inl (hR _ _ _ _ _ e (.inl ⟨h1, rfl⟩) A2)
    · have hq : τ.nf ≤ q := by
        rcases hm.ownT q (by simp [famL]) with h | h
        · simp at h
        · exact h
      refine .inr ⟨_, q, fun _ => false, rfl, by simpa using h2, ?_⟩
      have hI : IntsV (.sl (.stat false) 1 (x'.out.map (.int .i64))) x'.out := .inr ⟨_, rfl⟩
      have := hR _ _ _ _ ((σ'.setO ro [.sl (.fam q false) 1 (x'.out.map (.int .i64)), .int .i64 s, .int .i64 c]).frz q fun _ => false) e hI (A2.frz (by have := A.nf; omega) fun _ _ => rfl)
      simpa [Function.comp_def] using this
  have key : ∀ (a : Nat → AV) (τ : AS) (caps : List AV) (xo mo vo po ro : Nat), caps = [.ptr vo 0, .ptr ro 0] → a 3 = .ptr po 0 → a 6 = .ptr ro 0 → a 7 = .ptr vo 0 → τ.objs po = some [fsv, .int .i64 m.memory, .int .i64 m.main] → τ.objs ro = some [.nilsl, .int .i64 0, .int .i64 0] → τ.objs vo = some [.ptr xo 0] →
      τ.objs xo = some [fsv, .int .i64 m.memory, .int .i64 m.main, iv, .int .i64 steps, .slm mo 0 1 m.memory.toNat, .nilsl, .int .i64 0] → τ.objs mo = some (List.replicate m.memory.toNat (.int .u8 0)) → Adds σ τ → (po < τ.no ∧ ro < τ.no ∧ vo < τ.no ∧ xo < τ.no ∧ mo < τ.no) → (σ.no ≤ xo ∧ σ.no ≤ mo ∧ σ.no ≤ ro) →
      (xo ≠ mo ∧ vo ≠ xo ∧ vo ≠ mo ∧ ro ≠ xo ∧ ro ≠ mo ∧ ro ≠ vo) → avc Tryd.prog G 32 pc21_yz (aq (AHandle Tryd.prog G 18 pc45_h 4 2 caps [.cell 6 46] (FrzOr R))) a τ := by
    intro a τ caps xo mo vo po ro hcaps a3 a6 a7 op orr ov ox om A lts ges nes
    obtain ⟨l1, l2, l3, l4, l5⟩ := lts
    obtain ⟨q1, q2, q3⟩ := ges
    obtain ⟨n1, n2, n3, n4, n5, n6⟩ := nes
    subst hcaps
    have hM : XM m.funcs m.memory m.main τ xo mo [] [] ⟨input, steps, List.replicate m.memory.toNat 0, [], 0⟩ .nilsl τ :=
      ⟨Nat.le_refl _, Nat.le_refl _, fun _ _ _ _ _ => rfl, fun _ _ _ => rfl, l4, l5, n1, by simp, ⟨fsv, iv, by simpa using ox, hfsv, hi⟩, .inl ⟨rfl, rfl⟩, by simp [famL], by simpa using om⟩
    simp [pc21_yz, a3, a7, op, ov, f1, hix, splice, g1, g2, g3]
    refine call_calls (N := 2 ^ 38) (list_ok V hfs (steps.toNat + 1) 0 (Int.le_refl _) (by omega)) (runL_bd hfs (steps.toNat + 1) 0 (Int.le_refl _) (by omega)) (Int.le_refl _) hM (Nat.le_refl _) (by simp only; omega) (by simp; omega) (Int.le_refl _) (by simp; omega) hil hgo hgv (.inr (.inl ⟨rfl, rfl⟩)) (by simp) (by simp [famL]) (by simp [famL]) hcallw (fun v x' r' σ' e hx => ?_) (fun s c x' σ' e hx => ?_)
    · obtain ⟨xov, hm⟩ := hx
      have o1 := hm.own.one
      obtain ⟨fv, iv', ho, _, _⟩ := hm.mach
      have hv := (hm.obj vo l3 n2 n3 (by simp)).trans ov
      have hr := (hm.obj ro l2 n4 n5 (by simp)).trans orr
      have hfin := fin τ σ' xo mo ro x' xov 1 v A q1 q2 q3 hm (hok _ _ _ e)
      simp [a6, a7, hv, ho, hr, o1, splice]
      simp [AHandle, pc45_h, splice, a6]
      exact hfin
    · obtain ⟨xov, hm⟩ := hx
      have o1 := hm.own.one
      obtain ⟨fv, iv', ho, _, _⟩ := hm.mach
      have hv := (hm.obj vo l3 n2 n3 (by simp)).trans ov
      have hr := (hm.obj ro l2 n4 n5 (by simp)).trans orr
      have hl := hm.no
      have A3 : Adds σ' ((σ'.newO [.int .i64 0, .int .i64 0]).setO σ'.no [.int .i64 s, .int .i64 c]) := (Adds.refl σ').newO.setO (Nat.le_refl _)
      have hfin := fin τ _ xo mo ro x' xov s c A q1 q2 q3 (hm.adds A3) (hov _ _ _ e)
      have y1 : vo ≠ σ'.no := by omega
      have y2 : ro ≠ σ'.no := by omega
      have y3 : xo ≠ σ'.no := by omega
      simp
      simp [AHandle, pc45_h, overV, splice, hide, a6, hv, ho, hr, o1, y1, y2, y3]
      exact hfin
  simp [pc21_x]
  have z2 : ¬ σ.no = σ.no + 1 + 1 := by omega
  have z3 : ¬ σ.no = σ.no + 1 + 1 + 1 := by omega
  have z4 : ¬ σ.no = σ.no + 1 + 1 + 1 + 1 := by omega
  have z5 : ¬ σ.no + 1 = σ.no + 1 + 1 + 1 := by omega
  have z6 : ¬ σ.no + 1 = σ.no + 1 + 1 + 1 + 1 := by omega
  have z7 : ¬ σ.no + 1 + 1 = σ.no + 1 + 1 + 1 + 1 := by omega
  simp [pc21_yx, f1, i1, splice, amake_bytes (G := G) m0 m1, z2, z3, z4]
  refine ⟨key _ _ _ (σ.no + 1 + 1 + 1) (σ.no + 1 + 1) (σ.no + 1 + 1 + 1 + 1) σ.no (σ.no + 1) rfl ?_ ?_ ?_ ?_ ?_ ?_ ?_ ?_ ?_ ?_ ?_ ?_, key _ _ _ (σ.no + 1 + 1 + 1 + 1) (σ.no + 1 + 1) (σ.no + 1 + 1 + 1) σ.no (σ.no + 1) rfl ?_ ?_ ?_ ?_ ?_ ?_ ?_ ?_ ?_ ?_ ?_ ?_, key _ _ _ (σ.no + 1 + 1 + 1 + 1) (σ.no + 1 + 1 + 1) (σ.no + 1 + 1) σ.no (σ.no + 1) rfl ?_ ?_ ?_ ?_ ?_ ?_ ?_ ?_ ?_ ?_ ?_ ?_⟩
  all_goals first | (simp; done) | (simp; omega) | (simp [z2, z3, z4, z5, z6, z7]; done) | exact ((Adds.refl σ).newO.newO.newO.newO.newO).setO (by omega) | omega
end Go.Proofs.YthifgodgfhbnfaaDoor
set_option linter.unusedSimpArgs false
set_option linter.unusedVariables false
namespace Go.Proofs.YthifgodgfhbnfaaDoor
open Go Go.Abs
def numW (t n : Int) : W := ⟨1, t, n, 0, 0, []⟩
def F12 (to : To) : F := ⟨[109, 97, 105, 110], [], [1, 1, 2, 2], 1, to⟩
def M12 (to : To) : M := ⟨[F12 to], 16, 0⟩
theorem small12 {to : To} (h1 : to.length ≤ 100000) (h2 : ∀ l ∈ to, l.length ≤ 100000) (h3 : ∀ l ∈ to, ∀ w ∈ l, w.n ≤ 2 ^ 63 - 1) : Small (M12 to) ∧ OkFs (M12 to).funcs := by
  have e : ∀ f ∈ (M12 to).funcs, f = F12 to := fun f hf => by simpa [M12] using hf
  refine ⟨⟨by simp [M12], fun f hf => ?_, fun f hf => ?_, fun f hf => ?_, fun f hf => ?_, fun f hf => ?_⟩, fun f hf => ?_⟩
  all_goals rw [e f hf]
  · simp [F12]
  · simp [F12]
  · simp only [F12]; omega
  · intro l hl; have := h2 l hl; omega
  · exact h3
  · exact ⟨by simp [F12], by simp [F12], by simp only [F12]; omega, fun l hl => by have := h2 l hl; omega, h3⟩
theorem numberW_calls {G : Env} {t n : Int} {σ : AS} {R : Out → AS → Prop} (h : ∀ σ', Adds σ σ' → R (.ret (numW t n).av) σ') : ACalls Tryd.prog G 24 [.int .i64 t, .int .i64 n] σ R := by
  refine calls24 rfl ?_
  simp [pc24, splice]
  exact h _ .mk1
theorem mainOf_calls {G : Env} {v : AV} {to : To} {σ : AS} {R : Out → AS → Prop} (hv : ListsV v to) (h : ∀ v' σ', MV v' (M12 to) → Adds σ σ' → R (.ret v') σ') : ACalls Tryd.prog G 26 [v] σ R := by
  refine calls26 rfl ?_
  have v1 := hv.one
  have := h (.agg [.sl (.stat true) 5 [.agg [.str [109, 97, 105, 110], .nilsl, .sl (.stat true) 1 [.int .i64 1, .int .i64 1, .int .i64 2, .int .i64 2], .int .i64 1, v]], .int .i64 16, .int .i64 0]) ((σ.newO [.nilsl, .int .i64 0, .int .i64 0]).setO σ.no [.sl (.stat true) 5 [.agg [.str [109, 97, 105, 110], .nilsl, .sl (.stat true) 1 [.int .i64 1, .int .i64 1, .int .i64 2, .int .i64 2], .int .i64 1, v]], .int .i64 16, .int .i64 0]) ⟨_, rfl, .inr ⟨_, _, rfl, .cons ⟨_, _, _, rfl, .inl ⟨rfl, rfl⟩, .inr ⟨_, rfl⟩, hv⟩ .nil⟩⟩ .mk1
  simpa [pc26, splice, v1] using this
theorem body_calls {G : Env} {v : AV} {l : List W} {σ : AS} {R : Out → AS → Prop} (hv : RepL v l) (h : ∀ v' σ', MV v' (M12 [l]) → Adds σ σ' → R (.ret v') σ') : ACalls Tryd.prog G 25 [v] σ R := by
  refine calls25 rfl ?_
  have v1 := hv.one
  simp [pc25, splice, v1]
  refine mainOf_calls (to := [l]) (.inr ⟨_, _, rfl, .cons hv .nil⟩) fun v' σ' hm A => ?_
  obtain ⟨fv, rfl, hfs⟩ := hm
  have f1 := hfs.one
  have h1 : (σ.newO [AV.nilsl, AV.int IntKind.i64 0, AV.int IntKind.i64 0]).no = σ.no + 1 := by simp
  have hno := A.no
  have ho := A.obj σ.no (by simp)
  simp at ho
  simp [f1, ho, splice]
  exact h _ _ ⟨_, rfl, hfs⟩ (((Adds.refl σ).newO.trans A).setO (Nat.le_refl _))
theorem cut_calls {G : Env} {n a b : Int} {σ : AS} {R : Out → AS → Prop} (h : R (.ret (.int .i64 (max a (min n b)))) σ) : ACalls Tryd.prog G 20 [.int .i64 n, .int .i64 a, .int .i64 b] σ R := by
  refine calls20 rfl ?_
  simp [pc20]
  exact h
theorem sameRun_calls {G : Env} {va vb : AV} {p q : List Int} {s c t d : Int} {σ : AS} {R : Out → AS → Prop} (ha : IntsV va p) (hb : IntsV vb q) (hl : p.length ≤ 2 ^ 40) (h : ∀ σ', Adds σ σ' → R (.ret (.bool (decide (s = t ∧ c = d ∧ p = q)))) σ') :
    ACalls Tryd.prog G 22 [.agg [va, .int .i64 s, .int .i64 c], .agg [vb, .int .i64 t, .int .i64 d]] σ R := by
  refine calls22 rfl ?_
  have a1 := ha.one
  have b1 := hb.one
  have A : Adds σ ((σ.newO [va, .int .i64 s, .int .i64 c]).newO [vb, .int .i64 t, .int .i64 d]) := (Adds.refl σ).newO.newO
  have k := h _ A
  by_cases h1 : s = t
  · by_cases h2 : c = d
    · simp [h1, h2] at k
      simp [pc22, a1, b1, h1, h2]
      refine sameInts_calls ha hb hl ?_
      simp
      exact k
    · simp [h1, h2] at k
      simp [pc22, a1, b1, h1, h2]
      exact k
  · simp [h1] at k
    simp [pc22, a1, b1, h1]
    exact k
def w17 : W := numW 1 7
theorem known12_check : checkE (M12 [[w17]]) = .ok () := by rfl
theorem known12_empty : errOf (checkE (M12 [[]])) = 14 := by rfl
theorem known12_one : runM (M12 [[w17]]) [] 1 2 = some ([], 1, 7) := by rfl
theorem known12_none : runM (M12 [[w17]]) [] 0 1 = some ([], 3, 0) := by rfl
theorem known12_calls {G : Env} (V : Vars G) {σ : AS} {R : Out → AS → Prop} (h : ∀ σ', Adds σ σ' → R (.ret (.bool true)) σ') : ACalls Tryd.prog G 19 [] σ R := by
  refine calls19 rfl ?_
  obtain ⟨sm, of⟩ := small12 (to := [[w17]]) (by simp) (by simp) (by simp [w17, numW])
  obtain ⟨sm0, _⟩ := small12 (to := [[]]) (by simp) (by simp) (by simp)
  simp [pc19]
  refine numberW_calls fun σ1 A1 => ?_
  simp [W.av, W.cs, numW]
  refine body_calls (l := [w17]) (.inr ⟨true, rfl⟩) fun v σ2 hv A2 => ?_
  obtain ⟨fv, rfl, hfs⟩ := hv
  have f1 := hfs.one
  have hv : MV (.agg [fv, .int .i64 (M12 [[w17]]).memory, .int .i64 (M12 [[w17]]).main]) (M12 [[w17]]) := ⟨fv, rfl, hfs⟩
  simp [splice, f1]
  have hm1 : ((σ2.newO [AV.nilsl, AV.int IntKind.i64 0, AV.int IntKind.i64 0]).setO σ2.no [fv, AV.int IntKind.i64 (M12 [[w17]]).memory, AV.int IntKind.i64 (M12 [[w17]]).main]).objs σ2.no = some [fv, .int .i64 (M12 [[w17]]).memory, .int .i64 (M12 [[w17]]).main] := by simp
  have hno1 : ((σ2.newO [AV.nilsl, AV.int IntKind.i64 0, AV.int IntKind.i64 0]).setO σ2.no [fv, AV.int IntKind.i64 (M12 [[w17]]).memory, AV.int IntKind.i64 (M12 [[w17]]).main]).no = σ2.no + 1 := by simp
  have A3 : Adds σ2 ((σ2.newO [AV.nilsl, AV.int IntKind.i64 0, AV.int IntKind.i64 0]).setO σ2.no [fv, AV.int IntKind.i64 (M12 [[w17]]).memory, AV.int IntKind.i64 (M12 [[w17]]).main]) := (Adds.refl σ2).newO.setO (Nat.le_refl _)
  generalize (σ2.newO [AV.nilsl, AV.int IntKind.i64 0, AV.int IntKind.i64 0]).setO σ2.no [fv, AV.int IntKind.i64 (M12 [[w17]]).memory, AV.int IntKind.i64 (M12 [[w17]]).main] = σ3 at *
  refine run_calls V hv known12_check of (input := []) (steps := 1) (.inl ⟨rfl, rfl⟩) (by simp) (by omega) fun ov out st code σ4 he ho A4 => ?_
  rw [show runM (M12 [[w17]]) [] 1 ((1 : Int).toNat + 1) = some ([], 1, 7) from known12_one] at he
  obtain ⟨rfl, rfl, rfl⟩ : [] = out ∧ 1 = st ∧ 7 = code := by simpa using he
  have o1 := ho.one
  have hm2 := (A4.obj _ (by omega)).trans hm1
  have hn2 := A4.no
  have hne : σ2.no ≠ σ4.no := by omega
  simp [splice, o1, hm2, f1, hne]
  have hm3 : ((σ4.newO [AV.nilsl, AV.int IntKind.i64 0, AV.int IntKind.i64 0]).setO σ4.no [ov, AV.int IntKind.i64 1, AV.int IntKind.i64 7]).objs σ2.no = some [fv, .int .i64 (M12 [[w17]]).memory, .int .i64 (M12 [[w17]]).main] := by simp [hne, hm2]
  have hr3 : ((σ4.newO [AV.nilsl, AV.int IntKind.i64 0, AV.int IntKind.i64 0]).setO σ4.no [ov, AV.int IntKind.i64 1, AV.int IntKind.i64 7]).objs σ4.no = some [ov, .int .i64 1, .int .i64 7] := by simp
  have hno3 : ((σ4.newO [AV.nilsl, AV.int IntKind.i64 0, AV.int IntKind.i64 0]).setO σ4.no [ov, AV.int IntKind.i64 1, AV.int IntKind.i64 7]).no = σ4.no + 1 := by simp
  have A5 : Adds σ4 ((σ4.newO [AV.nilsl, AV.int IntKind.i64 0, AV.int IntKind.i64 0]).setO σ4.no [ov, AV.int IntKind.i64 1, AV.int IntKind.i64 7]) := (Adds.refl σ4).newO.setO (Nat.le_refl _)
  generalize (σ4.newO [AV.nilsl, AV.int IntKind.i64 0, AV.int IntKind.i64 0]).setO σ4.no [ov, AV.int IntKind.i64 1, AV.int IntKind.i64 7] = σ5 at *
  refine run_calls V hv known12_check of (input := []) (steps := 0) (.inl ⟨rfl, rfl⟩) (by simp) (by omega) fun ov' out st code σ6 he ho' A6 => ?_
  rw [show runM (M12 [[w17]]) [] 0 ((0 : Int).toNat + 1) = some ([], 3, 0) from known12_none] at he
  obtain ⟨rfl, rfl, rfl⟩ : [] = out ∧ 3 = st ∧ 0 = code := by simpa using he
  have o2 := ho'.one
  have hm4 := (A6.obj _ (by omega)).trans hm3
  have hr4 := (A6.obj _ (by omega)).trans hr3
  have hn6 := A6.no
  have hne2 : σ2.no ≠ σ6.no := by omega
  have hne4 : σ4.no ≠ σ6.no := by omega
  simp [splice, o2, hm4, f1, hne2, hne4, hr4]
  have hr6 : ((σ6.newO [AV.nilsl, AV.int IntKind.i64 0, AV.int IntKind.i64 0]).setO σ6.no [ov', AV.int IntKind.i64 3, AV.int IntKind.i64 0]).objs σ6.no = some [ov', .int .i64 3, .int .i64 0] := by simp
  have hr5 : ((σ6.newO [AV.nilsl, AV.int IntKind.i64 0, AV.int IntKind.i64 0]).setO σ6.no [ov', AV.int IntKind.i64 3, AV.int IntKind.i64 0]).objs σ4.no = some [ov, .int .i64 1, .int .i64 7] := by simp [hne4, hr4]
  have hno5 : ((σ6.newO [AV.nilsl, AV.int IntKind.i64 0, AV.int IntKind.i64 0]).setO σ6.no [ov', AV.int IntKind.i64 3, AV.int IntKind.i64 0]).no = σ6.no + 1 := by simp
  have A7 : Adds σ6 ((σ6.newO [AV.nilsl, AV.int IntKind.i64 0, AV.int IntKind.i64 0]).setO σ6.no [ov', AV.int IntKind.i64 3, AV.int IntKind.i64 0]) := (Adds.refl σ6).newO.setO (Nat.le_refl _)
  generalize (σ6.newO [AV.nilsl, AV.int IntKind.i64 0, AV.int IntKind.i64 0]).setO σ6.no [ov', AV.int IntKind.i64 3, AV.int IntKind.i64 0] = σ7 at *
  refine check_calls V sm hv fun σ8 A8 => ?_
  have hr8 := (A8.obj _ (by omega)).trans hr6
  have hr9 := (A8.obj _ (by omega)).trans hr5
  rw [known12_check]
  simp [errOf, hr8, hr9, splice]
  refine body_calls (l := []) (.inl ⟨rfl, rfl⟩) fun v σ9 hv0 A9 => ?_
  simp
  refine check_calls V sm0 hv0 fun σ10 A10 => ?_
  rw [known12_empty]
  simp
  exact h _ (((((((((A1.trans A2).trans A3).trans A4).trans A5).trans A6).trans A7).trans A8).trans A9).trans A10)
end Go.Proofs.YthifgodgfhbnfaaDoor
