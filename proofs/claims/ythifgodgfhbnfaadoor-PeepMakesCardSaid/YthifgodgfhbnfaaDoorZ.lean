/- The document's peep (1): what its small parts come to, under the conditions that each theorem names. -/
import Derived.Test.YthifgodgfhbnfaaDoorP
import Derived.Test.YthifgodgfhbnfaaDoorAbs32
set_option linter.unusedSimpArgs false
set_option linter.unusedVariables false
namespace Go.Proofs.YthifgodgfhbnfaaDoor.Rf
open Go Go.Abs Go.Proofs.YthifgodgfhbnfaaDoor
theorem leaves_calls {G : Env} {σ : AS} {w : W} {R : Out → AS → Prop} (h : R (.ret (.bool (leavesW w))) (σ.newO w.cs)) : ACalls Tryd.prog G 60 [w.av] σ R := by
  refine calls60 rfl ?_
  by_cases h1 : w.op = 14
  · rw [show leavesW w = true by simp [leavesW, h1]] at h
    simpa [pc60, W.av, W.cs, h1, splice] using h
  by_cases h2 : w.op = 16
  · rw [show leavesW w = true by simp [leavesW, h2]] at h
    simpa [pc60, W.av, W.cs, h2, splice] using h
  by_cases h3 : w.op = 17
  · rw [show leavesW w = true by simp [leavesW, h3]] at h
    simpa [pc60, W.av, W.cs, h3, splice] using h
  rw [show leavesW w = false by simp [leavesW, h1, h2, h3]] at h
  simpa [pc60, W.av, W.cs, h1, h2, h3, splice] using h
def dropsW (p w : W) : Bool := (p.op == 1 || p.op == 2) && w.op == 18
def knownW (p : W) : Bool := p.op == 1 && p.ty == 1
theorem drops_calls {G : Env} {σ : AS} {p w : W} {R : Out → AS → Prop} (h : R (.ret (.bool (dropsW p w))) ((σ.newO p.cs).newO w.cs)) : ACalls Tryd.prog G 79 [p.av, w.av] σ R := by
  refine calls79 rfl ?_
  by_cases h1 : p.op = 1
  · by_cases h3 : w.op = 18
    · rw [show dropsW p w = true by simp [dropsW, h1, h3]] at h
      simpa [pc79, W.av, W.cs, h1, h3, splice] using h
    · rw [show dropsW p w = false by simp [dropsW, h1, h3]] at h
      simpa [pc79, W.av, W.cs, h1, h3, splice] using h
  by_cases h2 : p.op = 2
  · by_cases h3 : w.op = 18
    · rw [show dropsW p w = true by simp [dropsW, h2, h3]] at h
      simpa [pc79, W.av, W.cs, h2, h3, splice] using h
    · rw [show dropsW p w = false by simp [dropsW, h2, h3]] at h
      simpa [pc79, W.av, W.cs, h2, h3, splice] using h
  rw [show dropsW p w = false by simp [dropsW, h1, h2]] at h
  simpa [pc79, W.av, W.cs, h1, h2, splice] using h
theorem known_calls {G : Env} {σ : AS} {p : W} {R : Out → AS → Prop} (h : R (.ret (.bool (knownW p))) (σ.newO p.cs)) : ACalls Tryd.prog G 81 [p.av] σ R := by
  refine calls81 rfl ?_
  by_cases h1 : p.op = 1
  · by_cases h3 : p.ty = 1
    · rw [show knownW p = true by simp [knownW, h1, h3]] at h
      simpa [pc81, W.av, W.cs, h1, h3, splice] using h
    · rw [show knownW p = false by simp [knownW, h1, h3]] at h
      simpa [pc81, W.av, W.cs, h1, h3, splice] using h
  rw [show knownW p = false by simp [knownW, h1]] at h
  simpa [pc81, W.av, W.cs, h1, splice] using h
/-- a copy that may be grown -/
theorem copyWs_calls {G : Env} {v : AV} {l : List W} {σ : AS} {R : Out → AS → Prop} (hv : RepL v l) (hl : l.length ≤ 2 ^ 40) (h : ∀ v' σ', OutG σ' σ.nf 6 v' (l.map W.av) → Adds σ σ' → R (.ret v') σ') : ACalls Tryd.prog G 80 [v] σ R := by
  refine calls80 rfl ?_
  have v1 := hv.one
  have v2 := hv.len
  simp [pc80]
  refine aloop (CpI 6 v (l.map W.av) σ) (MU 4 (l.length + 1)) ⟨0, by omega, by simp, by simp, .inl ⟨by simp, by simp⟩, .refl _⟩ fun a τ hI => ?_
  obtain ⟨i, hi, a0, a4, hO, hA⟩ := hI
  have hi : i ≤ l.length := by simpa using hi
  by_cases hlt : i < l.length
  · obtain ⟨b, hix⟩ := hv.at hlt
    have hget : (l.map W.av)[i]? = some l[i].av := by simp [hlt]
    have w1 : IntKind.wrap .i64 ((i : Int) + 1) = ((i + 1 : Nat) : Int) := by rw [wrap_i64] <;> omega
    have ts := take_snoc hget
    generalize l[i] = x at *
    rcases hO with ⟨he, h3⟩ | ⟨g, h3, h4, h5, h6⟩
    · simp [pc80_l1, a0, a4, v1, v2, hlt, hix, h3, w1, W.av, W.cs]
      refine ⟨⟨i + 1, by simp; omega, by simp [a0], by simp, .inr ⟨τ.nf, ?_, hA.nf, by simp, by simp⟩, hA.newF⟩, ?_⟩
      · rw [ts, he]; simp [W.av, W.cs]
      · simp only [MU, a4]; simp; omega
    · have htl : ((l.map W.av).take i).length = i := by simp; omega
      generalize (l.map W.av).take i = done at *
      simp [pc80_l1, a0, a4, v1, v2, hlt, hix, h3, w1, h6, W.av, W.cs]
      have hgn := hA.nf
      refine ⟨by omega, ⟨i + 1, by simp; omega, by simp [a0], by simp, .inr ⟨τ.nf, ?_, hgn, by simp, by simp⟩, ?_⟩, ?_⟩
      · rw [ts]; simp [W.av, W.cs]
      · exact ⟨by simpa using hA.no, by simp; omega, fun o ho => by simpa using hA.obj o ho, fun f hf => by
          have : f ≠ g := by omega
          simp [this]
          rw [if_neg (by omega)]
          exact hA.fam f hf⟩
      · simp only [MU, a4]; simp; omega
  · have he : i = l.length := by omega
    have hlt' : ¬ (i : Int) < (l.length : Int) := by omega
    have htk : (l.map W.av).take i = l.map W.av := List.take_of_length_le (by simp; omega)
    rw [htk] at hO
    have o3 : (a 3).known = true ∧ (a 3).one = true ∧ (a 3).cells = [a 3] := by
      rcases hO with ⟨hn, h3⟩ | ⟨g, h3, h4, h5, h6⟩ <;> rw [h3] <;> simp
    simp [pc80_l1, pc80_r1, a0, a4, v1, v2, hlt, o3]
    exact h _ _ hO hA
/-- the list-maker's contract, for what it may give -/
def RecOk (G : Env) (x : Nat) (fv : AV) (rec : Rec) : Prop := ∀ (σ : AS) (at_ : Int) (to : To) (n : Int) (to' : To) (R : Out → AS → Prop),
  Maker σ x fv to → rec at_ to = some (n, to') → to'.length ≤ 2 ^ 30 → (∀ σ', Keep x σ σ' → Maker σ' x fv to' → R (.ret (.int .i64 n)) σ') → ACalls Tryd.prog G 40 [.ptr x 0, .int .i64 at_] σ R
theorem RepL.cutE {v : AV} {l : List W} (h : RepL v l) (hl : l = []) : v = .nilsl ∨ ∃ b, v = .sl (.stat b) 6 [] := by
  subst hl
  rcases h with ⟨_, h⟩ | ⟨b, h⟩
  · exact .inl h
  · exact .inr ⟨b, h⟩
end Go.Proofs.YthifgodgfhbnfaaDoor.Rf
set_option linter.unusedSimpArgs false
set_option linter.unusedVariables false
namespace Go.Proofs.YthifgodgfhbnfaaDoor.Rf
open Go Go.Abs Go.Proofs.YthifgodgfhbnfaaDoor
end Go.Proofs.YthifgodgfhbnfaaDoor.Rf
namespace Go.Proofs.YthifgodgfhbnfaaDoor
open Go Go.Abs Go.Proofs.YthifgodgfhbnfaaDoor
open Go.Proofs.YthifgodgfhbnfaaDoor.Rf
theorem Maker.adds {x : Nat} {fv : AV} {to : To} {σ σ2 : AS} (M : Maker σ x fv to) (A : Adds σ σ2) : Maker σ2 x fv to := by
  obtain ⟨h1, tv, h2, h3⟩ := M
  refine ⟨Nat.lt_of_lt_of_le h1 A.no, tv, (A.obj x h1).trans h2, ?_⟩
  rcases h3 with h3 | ⟨g, tos, rfl, h5, h6, h7⟩
  · exact .inl h3
  · exact .inr ⟨g, tos, rfl, Nat.lt_of_lt_of_le h5 A.nf, (A.fam g h5).trans h6, h7⟩
end Go.Proofs.YthifgodgfhbnfaaDoor
namespace Go.Proofs.YthifgodgfhbnfaaDoor.Rf
open Go Go.Abs Go.Proofs.YthifgodgfhbnfaaDoor
end Go.Proofs.YthifgodgfhbnfaaDoor.Rf
namespace Go.Proofs.YthifgodgfhbnfaaDoor
open Go Go.Abs Go.Proofs.YthifgodgfhbnfaaDoor
open Go.Proofs.YthifgodgfhbnfaaDoor.Rf
theorem Keep.adds {x : Nat} {fv : AV} {to : To} {σ σ1 σ2 : AS} (K : Keep x σ σ1) (A : Adds σ1 σ2) (M : Maker σ1 x fv to) : Keep x σ σ2 := by
  refine K.trans ⟨A.no, A.nf, fun o h1 _ => A.obj o h1, fun f h1 _ => A.fam f h1, fun f h1 h2 => ?_⟩
  unfold Uses at *
  rwa [A.obj x M.1] at h2
end Go.Proofs.YthifgodgfhbnfaaDoor
namespace Go.Proofs.YthifgodgfhbnfaaDoor.Rf
open Go Go.Abs Go.Proofs.YthifgodgfhbnfaaDoor
end Go.Proofs.YthifgodgfhbnfaaDoor.Rf
namespace Go.Proofs.YthifgodgfhbnfaaDoor
open Go Go.Abs Go.Proofs.YthifgodgfhbnfaaDoor
open Go.Proofs.YthifgodgfhbnfaaDoor.Rf
theorem Keep.frzF {x : Nat} {σ σ2 : AS} {f : Nat} (K : Keep x σ σ2) (hf : σ.nf ≤ f) : Keep x σ (σ2.frz f fun _ => false) := by
  refine ⟨K.no, K.nf, fun o h1 h2 => by simpa [AS.frz] using K.obj o h1 h2, fun g h1 h2 => ?_, fun g h1 h2 => K.use g h1 ?_⟩
  · simp [AS.frz, Go.Abs.frzF, show g ≠ f by omega]
    exact K.fam g h1 h2
  · unfold Uses at *
    simpa [AS.frz] using h2
end Go.Proofs.YthifgodgfhbnfaaDoor
namespace Go.Proofs.YthifgodgfhbnfaaDoor.Rf
open Go Go.Abs Go.Proofs.YthifgodgfhbnfaaDoor
end Go.Proofs.YthifgodgfhbnfaaDoor.Rf
namespace Go.Proofs.YthifgodgfhbnfaaDoor
open Go Go.Abs Go.Proofs.YthifgodgfhbnfaaDoor
open Go.Proofs.YthifgodgfhbnfaaDoor.Rf
theorem Maker.frzF {x : Nat} {fv : AV} {to : To} {σ2 : AS} {f : Nat} (M : Maker σ2 x fv to) (hu : ¬ Uses σ2 x f) : Maker (σ2.frz f fun _ => false) x fv to := by
  obtain ⟨h1, tv, h2, h3⟩ := M
  refine ⟨h1, tv, by simpa [AS.frz] using h2, ?_⟩
  rcases h3 with h3 | ⟨g, tos, rfl, h5, h6, h7⟩
  · exact .inl h3
  · have : g ≠ f := fun e => hu ⟨fv, _, h2, by simp [famOf, e]⟩
    exact .inr ⟨g, tos, rfl, h5, by simp [AS.frz, Go.Abs.frzF, this, h6], h7⟩
end Go.Proofs.YthifgodgfhbnfaaDoor
namespace Go.Proofs.YthifgodgfhbnfaaDoor.Rf
open Go Go.Abs Go.Proofs.YthifgodgfhbnfaaDoor
theorem RL.one {τ x base v ys} (h : RL τ x base v ys) : v.known = true ∧ v.one = true ∧ v.cells = [v] := by
  rcases h with ⟨_, rfl⟩ | ⟨g, rfl, _⟩ <;> simp
theorem copyR_calls {G : Env} {x : Nat} {fv v : AV} {to : To} {l : List W} {σ : AS} {R : Out → AS → Prop} (hm : Maker σ x fv to) (hv : RepL v l) (hl : l.length ≤ 2 ^ 40) (h : ∀ v' σ', RL σ' x σ.nf v' l → Adds σ σ' → R (.ret v') σ') : ACalls Tryd.prog G 80 [v] σ R := by
  refine copyWs_calls hv hl fun v' σ' hO A => h v' σ' ?_ A
  rcases hO with ⟨h1, h2⟩ | ⟨g, h1, h2, h3, h4⟩
  · exact .inl ⟨by simpa using h1, h2⟩
  · refine .inr ⟨g, h1, h2, h3, h4, fun u => ?_⟩
    have : Uses σ x g := by
      unfold Uses at *
      rwa [A.obj x hm.1] at u
    have := (hm.uses this).1
    omega
/-- what is given back is nobody's any more -/
theorem fin1 {x : Nat} {fv : AV} {to' : To} {l' : List W} {σ σ2 : AS} {R : Out → AS → Prop} (h : ∀ σ' v, Keep x σ σ' → Maker σ' x fv to' → RepL v l' → R (.ret v) σ') (K : Keep x σ σ2) (M : Maker σ2 x fv to') {rows : List AV} (e : rows = l'.map W.av) :
    FrzOr R (.ret (.sl (.fam σ2.nf false) 6 rows)) σ2.newF := by
  subst e
  refine .froze σ2.nf (fun _ => false) (by simp) ?_
  have := h (σ2.newF.frz σ2.nf fun _ => false) (.sl (.stat false) 6 (l'.map W.av)) (K.newF.frzF K.nf) (M.newF.frzF (M.fresh rfl)) (.inr ⟨_, rfl⟩)
  rw [frz_sl_fam, if_pos rfl, frz_Ws]
  exact this
theorem fin2 {x : Nat} {fv : AV} {to' : To} {l' : List W} {σ σ2 : AS} {g : Nat} {s : FSt} {R : Out → AS → Prop} (h : ∀ σ' v, Keep x σ σ' → Maker σ' x fv to' → RepL v l' → R (.ret v) σ') (K : Keep x σ σ2) (M : Maker σ2 x fv to') (hg : σ.nf ≤ g) (hu : ¬ Uses σ2 x g) {rows : List AV} (e : rows = l'.map W.av) :
    FrzOr R (.ret (.sl (.fam σ2.nf false) 6 rows)) (σ2.setF g s).newF := by
  subst e
  refine .froze σ2.nf (fun _ => false) (by simp) ?_
  have := h ((σ2.setF g s).newF.frz σ2.nf fun _ => false) (.sl (.stat false) 6 (l'.map W.av)) ((K.grow g hg).frzF K.nf) ((M.grow hu).frzF (M.fresh rfl)) (.inr ⟨_, rfl⟩)
  rw [frz_sl_fam, if_pos rfl, frz_Ws]
  exact this
end Go.Proofs.YthifgodgfhbnfaaDoor.Rf
set_option linter.unusedSimpArgs false
set_option linter.unusedVariables false
namespace Go.Proofs.YthifgodgfhbnfaaDoor.Rf
open Go Go.Abs Go.Proofs.YthifgodgfhbnfaaDoor
/-- what it ends with -/
def pc61_t : PC :=
  (.seq (.seq (.ops [⟨some 149, .fieldAddr 40 (.tmp 5) 0, none, []⟩,
    ⟨some 150, .load 3 (.tmp 149), none, []⟩,
    ⟨some 151, .binOp .geq 3 (.tmp 150) (.const (.int .i64 11)) 3, none, []⟩,
    ⟨some 152, .move (.tmp 151), none, []⟩,
    ⟨some 153, .fieldAddr 40 (.tmp 5) 0, (some (152, true)), []⟩,
    ⟨some 154, .load 3 (.tmp 153), (some (152, true)), []⟩,
    ⟨some 155, .binOp .leq 3 (.tmp 154) (.const (.int .i64 13)) 3, (some (152, true)), []⟩,
    ⟨some 156, .pick (.tmp 152) (.tmp 155) (.const (.bool false)), none, []⟩])
  (.cond (.tmp 156)
    (.ops [⟨some 157, .move (.tmp 0), none, []⟩,
      ⟨some 158, .fieldAddr 40 (.tmp 5) 3, none, []⟩,
      ⟨some 159, .load 3 (.tmp 158), none, []⟩,
      ⟨some 160, .call ⟨.value (.func 40), #[(.tmp 157), (.tmp 159)], #[76, 3]⟩, none, []⟩,
      ⟨some 161, .fieldAddr 40 (.tmp 5) 3, none, []⟩,
      ⟨none, .store 3 (.tmp 161) (.tmp 160), none, []⟩])
    .skip))
  (.seq (.seq (.ops [⟨some 162, .fieldAddr 40 (.tmp 5) 0, none, []⟩,
    ⟨some 163, .load 3 (.tmp 162), none, []⟩,
    ⟨some 164, .binOp .eql 3 (.tmp 163) (.const (.int .i64 13)) 3, none, []⟩,
    ⟨some 165, .move (.tmp 164), none, []⟩,
    ⟨some 166, .fieldAddr 40 (.tmp 5) 4, (some (165, true)), []⟩,
    ⟨some 167, .load 3 (.tmp 166), (some (165, true)), []⟩,
    ⟨some 168, .binOp .geq 3 (.tmp 167) (.const (.int .i64 0)) 3, (some (165, true)), []⟩,
    ⟨some 169, .pick (.tmp 165) (.tmp 168) (.const (.bool false)), none, []⟩])
  (.cond (.tmp 169)
    (.ops [⟨some 170, .move (.tmp 0), none, []⟩,
      ⟨some 171, .fieldAddr 40 (.tmp 5) 4, none, []⟩,
      ⟨some 172, .load 3 (.tmp 171), none, []⟩,
      ⟨some 173, .call ⟨.value (.func 40), #[(.tmp 170), (.tmp 172)], #[76, 3]⟩, none, []⟩,
      ⟨some 174, .fieldAddr 40 (.tmp 5) 4, none, []⟩,
      ⟨none, .store 3 (.tmp 174) (.tmp 173), none, []⟩])
    .skip))
  (.seq (.ops [⟨some 175, .move (.tmp 1), none, []⟩,
    ⟨some 177, .load 40 (.tmp 5), none, []⟩,
    ⟨some 178, .buildSlice 38 1 #[(0, (.tmp 177))], none, []⟩,
    ⟨some 176, .call ⟨.value (.func 80), #[(.tmp 175)], #[38]⟩, none, [⟨none, 40, (.tmp 5), 177⟩]⟩,
    ⟨some 179, .call ⟨.builtin .append, #[(.tmp 176), (.tmp 178)], #[38, 38]⟩, none, []⟩,
    ⟨some 6, .assign (.tmp 179), none, []⟩])
  .ret)))
def pc61_f : PC :=
  (.seq (.ops [⟨some 5, .box 40 (.tmp 2), none, []⟩,
    ⟨some 6, .assign (.const (.slice none 0 0)), none, []⟩])
  (.seq (.ops [⟨some 10, .move (.tmp 1), none, []⟩,
    ⟨some 11, .call ⟨.builtin .len, #[(.tmp 10)], #[38]⟩, none, []⟩,
    ⟨some 7, .assign (.tmp 11), none, []⟩])
  (.seq (.seq (.ops [⟨some 12, .move (.tmp 7), none, []⟩,
    ⟨some 13, .binOp .gtr 3 (.tmp 12) (.const (.int .i64 0)) 3, none, []⟩,
    ⟨some 14, .move (.tmp 13), none, []⟩,
    ⟨some 15, .move (.tmp 1), (some (14, true)), []⟩,
    ⟨some 16, .move (.tmp 7), (some (14, true)), []⟩,
    ⟨some 17, .binOp .sub 3 (.tmp 16) (.const (.int .i64 1)) 3, (some (14, true)), []⟩,
    ⟨some 18, .indexAddr 38 (.tmp 15) (.tmp 17), (some (14, true)), []⟩,
    ⟨some 19, .load 40 (.tmp 18), (some (14, true)), []⟩,
    ⟨some 20, .load 40 (.tmp 5), (some (14, true)), []⟩,
    ⟨some 21, .call ⟨.value (.func 79), #[(.tmp 19), (.tmp 20)], #[40, 40]⟩, (some (14, true)), []⟩,
    ⟨some 22, .pick (.tmp 14) (.tmp 21) (.const (.bool false)), none, []⟩])
  (.cond (.tmp 22)
    (.seq (.ops [⟨some 23, .move (.tmp 1), none, []⟩,
      ⟨some 24, .move (.tmp 7), none, []⟩,
      ⟨some 25, .binOp .sub 3 (.tmp 24) (.const (.int .i64 1)) 3, none, []⟩,
      ⟨some 26, .slice 38 (.tmp 23) none (some (.tmp 25)) none, none, []⟩,
      ⟨some 6, .assign (.tmp 26), none, []⟩])
    .ret)
    .skip))
  (.seq (.seq (.ops [⟨some 27, .move (.tmp 7), none, []⟩,
    ⟨some 28, .binOp .gtr 3 (.tmp 27) (.const (.int .i64 0)) 3, none, []⟩,
    ⟨some 29, .move (.tmp 28), none, []⟩,
    ⟨some 30, .move (.tmp 1), (some (29, true)), []⟩,
    ⟨some 31, .move (.tmp 7), (some (29, true)), []⟩,
    ⟨some 32, .binOp .sub 3 (.tmp 31) (.const (.int .i64 1)) 3, (some (29, true)), []⟩,
    ⟨some 33, .indexAddr 38 (.tmp 30) (.tmp 32), (some (29, true)), []⟩,
    ⟨some 34, .fieldAddr 40 (.tmp 33) 0, (some (29, true)), []⟩,
    ⟨some 35, .load 3 (.tmp 34), (some (29, true)), []⟩,
    ⟨some 36, .binOp .eql 3 (.tmp 35) (.const (.int .i64 1)) 3, (some (29, true)), []⟩,
    ⟨some 37, .pick (.tmp 29) (.tmp 36) (.const (.bool false)), none, []⟩,
    ⟨some 38, .move (.tmp 37), none, []⟩,
    ⟨some 39, .fieldAddr 40 (.tmp 5) 0, (some (38, true)), []⟩,
    ⟨some 40, .load 3 (.tmp 39), (some (38, true)), []⟩,
    ⟨some 41, .binOp .eql 3 (.tmp 40) (.const (.int .i64 5)) 3, (some (38, true)), []⟩,
    ⟨some 42, .pick (.tmp 38) (.tmp 41) (.const (.bool false)), none, []⟩,
    ⟨some 43, .move (.tmp 42), none, []⟩,
    ⟨some 44, .move (.tmp 1), (some (43, true)), []⟩,
    ⟨some 45, .move (.tmp 7), (some (43, true)), []⟩,
    ⟨some 46, .binOp .sub 3 (.tmp 45) (.const (.int .i64 1)) 3, (some (43, true)), []⟩,
    ⟨some 47, .indexAddr 38 (.tmp 44) (.tmp 46), (some (43, true)), []⟩,
    ⟨some 48, .fieldAddr 40 (.tmp 47) 1, (some (43, true)), []⟩,
    ⟨some 49, .load 3 (.tmp 48), (some (43, true)), []⟩,
    ⟨some 50, .fieldAddr 40 (.tmp 5) 1, (some (43, true)), []⟩,
    ⟨some 51, .load 3 (.tmp 50), (some (43, true)), []⟩,
    ⟨some 52, .binOp .eql 3 (.tmp 49) (.tmp 51) 3, (some (43, true)), []⟩,
    ⟨some 53, .pick (.tmp 43) (.tmp 52) (.const (.bool false)), none, []⟩])
  (.cond (.tmp 53)
    (.seq (.ops [⟨some 8, .assign (.const (.int .i64 0)), none, []⟩])
    (.seq (.seq (.ops [⟨some 54, .move (.tmp 1), none, []⟩,
      ⟨some 55, .move (.tmp 7), none, []⟩,
      ⟨some 56, .binOp .sub 3 (.tmp 55) (.const (.int .i64 1)) 3, none, []⟩,
      ⟨some 57, .indexAddr 38 (.tmp 54) (.tmp 56), none, []⟩,
      ⟨some 58, .fieldAddr 40 (.tmp 57) 2, none, []⟩,
      ⟨some 59, .load 3 (.tmp 58), none, []⟩,
      ⟨some 60, .binOp .eql 3 (.tmp 59) (.const (.int .i64 0)) 3, none, []⟩])
    (.cond (.tmp 60)
      (.ops [⟨some 8, .assign (.const (.int .i64 1)), none, []⟩])
      .skip))
    (.seq (.ops [⟨some 61, .move (.tmp 1), none, []⟩,
      ⟨some 62, .move (.tmp 7), none, []⟩,
      ⟨some 63, .binOp .sub 3 (.tmp 62) (.const (.int .i64 1)) 3, none, []⟩,
      ⟨some 64, .slice 38 (.tmp 61) none (some (.tmp 63)) none, none, []⟩,
      ⟨some 65, .call ⟨.value (.func 80), #[(.tmp 64)], #[38]⟩, none, []⟩,
      ⟨some 66, .move (.tmp 8), none, []⟩,
      ⟨some 67, .build 40 #[(0, (.const (.int .i64 1))), (1, (.const (.int .i64 1))), (2, (.tmp 66))], none, []⟩,
      ⟨some 68, .buildSlice 38 1 #[(0, (.tmp 67))], none, []⟩,
      ⟨some 69, .call ⟨.builtin .append, #[(.tmp 65), (.tmp 68)], #[38, 38]⟩, none, []⟩,
      ⟨some 6, .assign (.tmp 69), none, []⟩])
    .ret)))
    .skip))
  (.seq (.seq (.ops [⟨some 70, .move (.tmp 7), none, []⟩,
    ⟨some 71, .binOp .gtr 3 (.tmp 70) (.const (.int .i64 0)) 3, none, []⟩,
    ⟨some 72, .move (.tmp 71), none, []⟩,
    ⟨some 73, .move (.tmp 1), (some (72, true)), []⟩,
    ⟨some 74, .move (.tmp 7), (some (72, true)), []⟩,
    ⟨some 75, .binOp .sub 3 (.tmp 74) (.const (.int .i64 1)) 3, (some (72, true)), []⟩,
    ⟨some 76, .indexAddr 38 (.tmp 73) (.tmp 75), (some (72, true)), []⟩,
    ⟨some 77, .load 40 (.tmp 76), (some (72, true)), []⟩,
    ⟨some 78, .call ⟨.value (.func 81), #[(.tmp 77)], #[40]⟩, (some (72, true)), []⟩,
    ⟨some 79, .pick (.tmp 72) (.tmp 78) (.const (.bool false)), none, []⟩,
    ⟨some 80, .move (.tmp 79), none, []⟩,
    ⟨some 81, .fieldAddr 40 (.tmp 5) 0, (some (80, true)), []⟩,
    ⟨some 82, .load 3 (.tmp 81), (some (80, true)), []⟩,
    ⟨some 83, .binOp .eql 3 (.tmp 82) (.const (.int .i64 15)) 3, (some (80, true)), []⟩,
    ⟨some 84, .pick (.tmp 80) (.tmp 83) (.const (.bool false)), none, []⟩])
  (.cond (.tmp 84)
    (.seq (.seq (.ops [⟨some 85, .move (.tmp 1), none, []⟩,
      ⟨some 86, .move (.tmp 7), none, []⟩,
      ⟨some 87, .binOp .sub 3 (.tmp 86) (.const (.int .i64 1)) 3, none, []⟩,
      ⟨some 88, .indexAddr 38 (.tmp 85) (.tmp 87), none, []⟩,
      ⟨some 89, .fieldAddr 40 (.tmp 88) 2, none, []⟩,
      ⟨some 90, .load 3 (.tmp 89), none, []⟩,
      ⟨some 91, .binOp .eql 3 (.tmp 90) (.const (.int .i64 0)) 3, none, []⟩])
    (.cond (.tmp 91)
      (.seq (.ops [⟨some 92, .move (.tmp 1), none, []⟩,
        ⟨some 93, .move (.tmp 7), none, []⟩,
        ⟨some 94, .binOp .sub 3 (.tmp 93) (.const (.int .i64 1)) 3, none, []⟩,
        ⟨some 95, .slice 38 (.tmp 92) none (some (.tmp 94)) none, none, []⟩,
        ⟨some 6, .assign (.tmp 95), none, []⟩])
      .ret)
      .skip))
    (.seq (.ops [⟨some 96, .move (.tmp 1), none, []⟩,
      ⟨some 97, .move (.tmp 7), none, []⟩,
      ⟨some 98, .binOp .sub 3 (.tmp 97) (.const (.int .i64 1)) 3, none, []⟩,
      ⟨some 99, .slice 38 (.tmp 96) none (some (.tmp 98)) none, none, []⟩,
      ⟨some 101, .fieldAddr 40 (.tmp 5) 2, none, []⟩,
      ⟨some 102, .load 3 (.tmp 101), none, []⟩,
      ⟨some 103, .build 40 #[(0, (.const (.int .i64 14))), (2, (.tmp 102))], none, []⟩,
      ⟨some 104, .buildSlice 38 1 #[(0, (.tmp 103))], none, []⟩,
      ⟨some 100, .call ⟨.value (.func 80), #[(.tmp 99)], #[38]⟩, none, [⟨none, 3, (.tmp 101), 102⟩]⟩,
      ⟨some 105, .call ⟨.builtin .append, #[(.tmp 100), (.tmp 104)], #[38, 38]⟩, none, []⟩,
      ⟨some 6, .assign (.tmp 105), none, []⟩])
    .ret))
    .skip))
  (.seq (.seq (.ops [⟨some 106, .move (.tmp 7), none, []⟩,
    ⟨some 107, .binOp .gtr 3 (.tmp 106) (.const (.int .i64 0)) 3, none, []⟩,
    ⟨some 108, .move (.tmp 107), none, []⟩,
    ⟨some 109, .move (.tmp 1), (some (108, true)), []⟩,
    ⟨some 110, .move (.tmp 7), (some (108, true)), []⟩,
    ⟨some 111, .binOp .sub 3 (.tmp 110) (.const (.int .i64 1)) 3, (some (108, true)), []⟩,
    ⟨some 112, .indexAddr 38 (.tmp 109) (.tmp 111), (some (108, true)), []⟩,
    ⟨some 113, .load 40 (.tmp 112), (some (108, true)), []⟩,
    ⟨some 114, .call ⟨.value (.func 81), #[(.tmp 113)], #[40]⟩, (some (108, true)), []⟩,
    ⟨some 115, .pick (.tmp 108) (.tmp 114) (.const (.bool false)), none, []⟩,
    ⟨some 116, .move (.tmp 115), none, []⟩,
    ⟨some 117, .fieldAddr 40 (.tmp 5) 0, (some (116, true)), []⟩,
    ⟨some 118, .load 3 (.tmp 117), (some (116, true)), []⟩,
    ⟨some 119, .binOp .eql 3 (.tmp 118) (.const (.int .i64 13)) 3, (some (116, true)), []⟩,
    ⟨some 120, .pick (.tmp 116) (.tmp 119) (.const (.bool false)), none, []⟩])
  (.cond (.tmp 120)
    (.seq (.ops [⟨some 121, .fieldAddr 40 (.tmp 5) 3, none, []⟩,
      ⟨some 122, .load 3 (.tmp 121), none, []⟩,
      ⟨some 9, .assign (.tmp 122), none, []⟩])
    (.seq (.seq (.ops [⟨some 123, .move (.tmp 1), none, []⟩,
      ⟨some 124, .move (.tmp 7), none, []⟩,
      ⟨some 125, .binOp .sub 3 (.tmp 124) (.const (.int .i64 1)) 3, none, []⟩,
      ⟨some 126, .indexAddr 38 (.tmp 123) (.tmp 125), none, []⟩,
      ⟨some 127, .fieldAddr 40 (.tmp 126) 2, none, []⟩,
      ⟨some 128, .load 3 (.tmp 127), none, []⟩,
      ⟨some 129, .binOp .eql 3 (.tmp 128) (.const (.int .i64 0)) 3, none, []⟩])
    (.cond (.tmp 129)
      (.ops [⟨some 130, .fieldAddr 40 (.tmp 5) 4, none, []⟩,
        ⟨some 131, .load 3 (.tmp 130), none, []⟩,
        ⟨some 9, .assign (.tmp 131), none, []⟩])
      .skip))
    (.seq (.seq (.ops [⟨some 132, .move (.tmp 9), none, []⟩,
      ⟨some 133, .binOp .lss 3 (.tmp 132) (.const (.int .i64 0)) 3, none, []⟩])
    (.cond (.tmp 133)
      (.seq (.ops [⟨some 134, .move (.tmp 1), none, []⟩,
        ⟨some 135, .move (.tmp 7), none, []⟩,
        ⟨some 136, .binOp .sub 3 (.tmp 135) (.const (.int .i64 1)) 3, none, []⟩,
        ⟨some 137, .slice 38 (.tmp 134) none (some (.tmp 136)) none, none, []⟩,
        ⟨some 6, .assign (.tmp 137), none, []⟩])
      .ret)
      .skip))
    (.seq (.ops [⟨some 138, .move (.tmp 1), none, []⟩,
      ⟨some 139, .move (.tmp 7), none, []⟩,
      ⟨some 140, .binOp .sub 3 (.tmp 139) (.const (.int .i64 1)) 3, none, []⟩,
      ⟨some 141, .slice 38 (.tmp 138) none (some (.tmp 140)) none, none, []⟩,
      ⟨some 142, .call ⟨.value (.func 80), #[(.tmp 141)], #[38]⟩, none, []⟩,
      ⟨some 143, .move (.tmp 0), none, []⟩,
      ⟨some 144, .move (.tmp 9), none, []⟩,
      ⟨some 145, .call ⟨.value (.func 40), #[(.tmp 143), (.tmp 144)], #[76, 3]⟩, none, []⟩,
      ⟨some 146, .build 40 #[(0, (.const (.int .i64 11))), (3, (.tmp 145))], none, []⟩,
      ⟨some 147, .buildSlice 38 1 #[(0, (.tmp 146))], none, []⟩,
      ⟨some 148, .call ⟨.builtin .append, #[(.tmp 142), (.tmp 147)], #[38, 38]⟩, none, []⟩,
      ⟨some 6, .assign (.tmp 148), none, []⟩])
    .ret))))
    .skip))
  pc61_t))))))
theorem pc61_eq : pc61 = pc61_f := rfl
set_option maxRecDepth 20000 in
set_option maxHeartbeats 4000000 in
theorem lay_tail {G : Env} {x fv rec} (IH : RecOk G x fv rec) (gr : Grows rec) {σ τ : AS} {ob : Nat} {w w' : W} {lv : AV} {l : List W} {to to'} {R : Out → AS → Prop} (hm : Maker τ x fv to) (hK : Keep x σ τ) (hx : x < σ.no) (hso : σ.no ≤ ob) (ho1 : τ.objs ob = some w.cs) (hlt : ob < τ.no)
    (hl : RepL lv l) (hll : l.length ≤ 2 ^ 30) (hp : plists rec w to = some (w', to')) (hb : to'.length ≤ 2 ^ 30)
    (h : ∀ σ' v, Keep x σ σ' → Maker σ' x fv to' → RepL v (l ++ [w']) → R (.ret v) σ') {a : Nat → AV} (a0 : a 0 = .ptr x 0) (a1 : a 1 = lv) (a5 : a 5 = .ptr ob 0) : avc Tryd.prog G 180 pc61_t (afin Tryd.prog [.tmp 6] (FrzOr R)) a τ := by
  have l1 := hl.one
  have l2 := hl.len
  simp only [W.cs] at ho1
  unfold plists at hp
  by_cases h13 : w.op = 13
  · simp only [h13, if_true] at hp
    split at hp
    · cases hp
    rename_i b to1 hr1
    simp [pc61_t, a0, a1, a5, ho1, l1, l2, h13, splice]
    by_cases ho : 0 ≤ w.other
    · simp only [ho, if_true] at hp
      split at hp
      · cases hp
      rename_i o to2 hr2
      cases hp
      refine IH _ _ _ _ _ _ hm hr1 (Nat.le_trans (gr _ _ _ _ hr2) hb) fun σ1 k1 m1 => ?_
      have e1 := (k1.obj ob hlt (by omega)).trans ho1
      simp [e1, splice, ho, h13, a0, a1, a5]
      refine IH _ _ _ _ _ _ (m1.setO (by omega)) hr2 hb fun σ2 k2 m2 => ?_
      have hn1 := k1.no
      have e2 := k2.obj ob (by simp; omega) (by omega)
      simp at e2
      simp [e2, splice, a0, a1, a5]
      have K2 := ((((hK.trans k1).setO hso hx).trans k2).setO (o := ob) (cs := W.cs { w with body := b, other := o }) hso hx)
      have M2 := m2.setO (o := ob) (cs := W.cs { w with body := b, other := o }) (by omega)
      simp only [W.cs, h13] at K2 M2
      refine copyR_calls M2 hl (by omega) fun cv σ3 hO A3 => ?_
      have e := A3.obj ob (by simp; have := k2.no; simp at this; omega)
      have K3 := K2.adds A3 M2
      have M3 := M2.adds A3
      have hk := K2.nf
      simp at e
      rcases hO with ⟨rfl, rfl⟩ | ⟨g, rfl, g1, g2, g3, g4⟩
      · simp [e, splice, a5]
        exact fin1 h K3 M3 (by simp [W.av, W.cs, h13])
      · simp [e, splice, a5, g3]
        exact ⟨by omega, fin2 h K3 M3 (by omega) g4 (by simp [W.av, W.cs, h13])⟩
    · simp only [ho, if_false] at hp
      cases hp
      refine IH _ _ _ _ _ _ hm hr1 hb fun σ1 k1 m1 => ?_
      have e1 := (k1.obj ob hlt (by omega)).trans ho1
      simp [e1, splice, ho, h13, a0, a1, a5]
      have K2 := (hK.trans k1).setO (o := ob) (cs := W.cs { w with body := b }) hso hx
      have M2 := m1.setO (o := ob) (cs := W.cs { w with body := b }) (by omega)
      simp only [W.cs, h13] at K2 M2
      refine copyR_calls M2 hl (by omega) fun cv σ3 hO A3 => ?_
      have e := A3.obj ob (by simp; have := k1.no; omega)
      have K3 := K2.adds A3 M2
      have M3 := M2.adds A3
      have hk := K2.nf
      simp at e
      rcases hO with ⟨rfl, rfl⟩ | ⟨g, rfl, g1, g2, g3, g4⟩
      · simp [e, splice, a5]
        exact fin1 h K3 M3 (by simp [W.av, W.cs, h13])
      · simp [e, splice, a5, g3]
        exact ⟨by omega, fin2 h K3 M3 (by omega) g4 (by simp [W.av, W.cs, h13])⟩
  by_cases h11 : w.op = 11 ∨ w.op = 12
  · simp only [h13, h11, if_true, if_false] at hp
    split at hp
    · cases hp
    rename_i b to1 hr1
    cases hp
    have c1 : 11 ≤ w.op := by omega
    have c2 : w.op ≤ 13 := by omega
    simp [pc61_t, a0, a1, a5, ho1, l1, l2, h13, c1, c2, splice]
    refine IH _ _ _ _ _ _ hm hr1 hb fun σ1 k1 m1 => ?_
    have e1 := (k1.obj ob hlt (by omega)).trans ho1
    simp [e1, splice, h13, a0, a1, a5]
    have K2 := (hK.trans k1).setO (o := ob) (cs := W.cs { w with body := b }) hso hx
    have M2 := m1.setO (o := ob) (cs := W.cs { w with body := b }) (by omega)
    simp only [W.cs] at K2 M2
    refine copyR_calls M2 hl (by omega) fun cv σ3 hO A3 => ?_
    have e := A3.obj ob (by simp; have := k1.no; omega)
    have K3 := K2.adds A3 M2
    have M3 := M2.adds A3
    have hk := K2.nf
    simp at e
    rcases hO with ⟨rfl, rfl⟩ | ⟨g, rfl, g1, g2, g3, g4⟩
    · simp [e, splice, a5]
      exact fin1 h K3 M3 (by simp [W.av, W.cs])
    · simp [e, splice, a5, g3]
      exact ⟨by omega, fin2 h K3 M3 (by omega) g4 (by simp [W.av, W.cs])⟩
  simp [h13, h11] at hp
  obtain ⟨rfl, rfl⟩ := hp
  have hk := hK.nf
  have fin : ∀ cv σ3, RL σ3 x τ.nf cv l → Adds τ σ3 → _ := fun cv σ3 (hO : RL σ3 x τ.nf cv l) A3 => And.intro ((A3.obj ob hlt).trans ho1) (And.intro (hK.adds A3 hm) (hm.adds A3))
  by_cases hge : 11 ≤ w.op
  · have hle : ¬ w.op ≤ 13 := by omega
    simp [pc61_t, a0, a1, a5, ho1, l1, l2, h13, hge, hle, splice]
    refine copyR_calls hm hl (by omega) fun cv σ3 hO A3 => ?_
    obtain ⟨e, K3, M3⟩ := fin cv σ3 hO A3
    rcases hO with ⟨rfl, rfl⟩ | ⟨g, rfl, g1, g2, g3, g4⟩
    · simp [e, splice, a5]
      exact fin1 h K3 M3 (by simp [W.av, W.cs])
    · simp [e, splice, a5, g3]
      exact ⟨by omega, fin2 h K3 M3 (by omega) g4 (by simp [W.av, W.cs])⟩
  · simp [pc61_t, a0, a1, a5, ho1, l1, l2, h13, hge, splice]
    refine copyR_calls hm hl (by omega) fun cv σ3 hO A3 => ?_
    obtain ⟨e, K3, M3⟩ := fin cv σ3 hO A3
    rcases hO with ⟨rfl, rfl⟩ | ⟨g, rfl, g1, g2, g3, g4⟩
    · simp [e, splice, a5]
      exact fin1 h K3 M3 (by simp [W.av, W.cs])
    · simp [e, splice, a5, g3]
      exact ⟨by omega, fin2 h K3 M3 (by omega) g4 (by simp [W.av, W.cs])⟩
end Go.Proofs.YthifgodgfhbnfaaDoor.Rf
set_option linter.unusedSimpArgs false
set_option linter.unusedVariables false
namespace Go.Proofs.YthifgodgfhbnfaaDoor.Rf
open Go Go.Abs Go.Proofs.YthifgodgfhbnfaaDoor
set_option maxRecDepth 20000 in
set_option maxHeartbeats 4000000 in
theorem lay_empty {G : Env} {x fv rec} (IH : RecOk G x fv rec) (gr : Grows rec) {σ : AS} {w w' : W} {lv : AV} {to to'} {R : Out → AS → Prop} (hm : Maker σ x fv to) (hl : RepL lv []) (hp : plists rec w to = some (w', to')) (hb : to'.length ≤ 2 ^ 30)
    (h : ∀ σ' v, Keep x σ σ' → Maker σ' x fv to' → RepL v [w'] → R (.ret v) σ') : ACalls Tryd.prog G 61 [.ptr x 0, lv, w.av] σ R := by
  refine freezing (calls61 rfl ?_)
  rw [pc61_eq]
  have l1 := hl.one
  have l2 := hl.len
  have hx := hm.1
  simp [pc61_f, W.av, W.cs, l1, l2, splice]
  exact lay_tail (l := []) (w := w) IH gr hm.mono_newO (.newO hx) hx (Nat.le_refl _) (by simp [W.cs]) (by simp) hl (by simp) hp hb (by simpa using h) (by simp) (by simp) (by simp)
set_option maxRecDepth 20000 in
set_option maxHeartbeats 4000000 in
theorem lay_plain {G : Env} {x fv rec} (IH : RecOk G x fv rec) (gr : Grows rec) {σ : AS} {w w' p : W} {l : List W} {lv : AV} {to to'} {R : Out → AS → Prop} (hm : Maker σ x fv to) (hl : RepL lv (l ++ [p])) (hll : l.length + 1 ≤ 2 ^ 30) (hp : plists rec w to = some (w', to')) (hb : to'.length ≤ 2 ^ 30)
    (n1 : dropsW p w = false) (n2 : ¬ (p.op = 1 ∧ w.op = 5 ∧ p.ty = w.ty)) (n3 : ¬ (knownW p = true ∧ w.op = 15)) (n4 : ¬ (knownW p = true ∧ w.op = 13))
    (h : ∀ σ' v, Keep x σ σ' → Maker σ' x fv to' → RepL v (l ++ [p] ++ [w']) → R (.ret v) σ') : ACalls Tryd.prog G 61 [.ptr x 0, lv, w.av] σ R := by
  refine freezing (calls61 rfl ?_)
  rw [pc61_eq]
  have hx := hm.1
  have hl0 := hl
  rcases hl with ⟨e, _⟩ | ⟨b, rfl⟩
  · simp at e
  have hpos : (0 : Int) < l.length + 1 := by omega
  have hwl : IntKind.wrap .i64 (l.length : Int) = l.length := by rw [wrap_i64] <;> omega
  have hget : (List.map W.av l ++ [AV.agg [.int .i64 p.op, .int .i64 p.ty, .int .i64 p.n, .int .i64 p.body, .int .i64 p.other, .str p.name]])[l.length]? = some (AV.agg [.int .i64 p.op, .int .i64 p.ty, .int .i64 p.n, .int .i64 p.body, .int .i64 p.other, .str p.name]) := by simp
  simp [pc61_f, W.av, W.cs, splice, hpos, hwl, hget]
  refine drops_calls (p := p) (w := w) ?_
  have fin : ∀ (a : Nat → AV) (τ : AS), a 0 = .ptr x 0 → a 1 = .sl (.stat b) 6 ((l ++ [p]).map W.av) → a 5 = .ptr σ.no 0 → Keep x (σ.newO w.cs) τ → Maker τ x fv to → avc Tryd.prog G 180 pc61_t (afin Tryd.prog [.tmp 6] (FrzOr R)) a τ := fun a τ a0 a1 a5 k m =>
    lay_tail (l := l ++ [p]) (w := w) IH gr m ((Keep.newO hx).trans k) hx (Nat.le_refl _) ((k.obj σ.no (by simp) (by omega)).trans (by simp)) (by have := k.no; simp at this; omega) hl0 (by simp; omega) hp hb (by simpa using h) a0 a1 a5
  have K1 : ∀ c1 c2, Keep x (σ.newO w.cs) (((σ.newO w.cs).newO c1).newO c2) := fun _ _ => (Keep.newO (by simp; omega)).addO (by simp; omega)
  have M1 : ∀ c1 c2, Maker (((σ.newO w.cs).newO c1).newO c2) x fv to := fun _ _ => hm.mono_newO.mono_newO.mono_newO
  have K3 : ∀ c1 c2 c3 c4, Keep x (σ.newO w.cs) (((((σ.newO w.cs).newO c1).newO c2).newO c3).newO c4) := fun _ _ _ _ => ((K1 _ _).addO (by simp; omega)).addO (by simp; omega)
  have M3 : ∀ c1 c2 c3 c4, Maker (((((σ.newO w.cs).newO c1).newO c2).newO c3).newO c4) x fv to := fun _ _ _ _ => (M1 _ _).mono_newO.mono_newO
  simp only [W.cs] at K1 K3 M1 M3 fin
  have key : knownW p = true → p.op = 1 ∧ p.ty = 1 := fun q => by simpa [knownW] using q
  have e2 : ¬ σ.no = σ.no + 1 + 1 := by omega
  have e3 : ¬ σ.no = σ.no + 1 + 1 + 1 := by omega
  have e4 : ¬ σ.no = σ.no + 1 + 1 + 1 + 1 := by omega
  by_cases p1 : p.op = 1
  · obtain ⟨pop, pty, pn, pb, po, pnm⟩ := p
    simp only at p1
    subst p1
    by_cases w5 : w.op = 5
    · have te : ¬ pty = w.ty := fun e => n2 ⟨rfl, w5, e⟩
      obtain ⟨wop, wty, wn, wb, wo, wnm⟩ := w
      simp only at w5 te
      subst w5
      simp [n1, hpos, hwl, hget, W.av, W.cs, splice, te]
      refine known_calls (p := ⟨1, pty, pn, pb, po, pnm⟩) ?_
      cases hkn : knownW ⟨1, pty, pn, pb, po, pnm⟩ with
      | true =>
        have w15 : ¬ (5 : Int) = 15 := by decide
        have w13 : ¬ (5 : Int) = 13 := by decide
        simp [e2, e3, e4, hpos, hwl, hget, W.av, W.cs, splice, w15, w13, te]
        refine known_calls (p := ⟨1, pty, pn, pb, po, pnm⟩) ?_
        simp [hkn, e2, e3, e4, hpos, hwl, hget, W.av, W.cs, splice, w15, w13, te]
        exact fin _ _ (by simp) (by simp [W.av, W.cs]) (by simp) (K3 _ _ _ _) (M3 _ _ _ _)
      | false =>
        simp [e2, e3, e4, hpos, hwl, hget, W.av, W.cs, splice, te]
        refine known_calls (p := ⟨1, pty, pn, pb, po, pnm⟩) ?_
        simp [hkn, e2, e3, e4, hpos, hwl, hget, W.av, W.cs, splice, te]
        exact fin _ _ (by simp) (by simp [W.av, W.cs]) (by simp) (K3 _ _ _ _) (M3 _ _ _ _)
    · simp [n1, hpos, hwl, hget, W.av, W.cs, splice, w5]
      refine known_calls (p := ⟨1, pty, pn, pb, po, pnm⟩) ?_
      cases hkn : knownW ⟨1, pty, pn, pb, po, pnm⟩ with
      | true =>
        have w15 : ¬ w.op = 15 := fun e => n3 ⟨hkn, e⟩
        have w13 : ¬ w.op = 13 := fun e => n4 ⟨hkn, e⟩
        simp [e2, e3, e4, hpos, hwl, hget, W.av, W.cs, splice, w15, w13, w5]
        refine known_calls (p := ⟨1, pty, pn, pb, po, pnm⟩) ?_
        simp [hkn, e2, e3, e4, hpos, hwl, hget, W.av, W.cs, splice, w15, w13, w5]
        exact fin _ _ (by simp) (by simp [W.av, W.cs]) (by simp) (K3 _ _ _ _) (M3 _ _ _ _)
      | false =>
        simp [e2, e3, e4, hpos, hwl, hget, W.av, W.cs, splice, w5]
        refine known_calls (p := ⟨1, pty, pn, pb, po, pnm⟩) ?_
        simp [hkn, e2, e3, e4, hpos, hwl, hget, W.av, W.cs, splice, w5]
        exact fin _ _ (by simp) (by simp [W.av, W.cs]) (by simp) (K3 _ _ _ _) (M3 _ _ _ _)
  · simp [n1, hpos, hwl, hget, W.av, W.cs, splice, p1]
    have hkn : knownW p = false := by simp [knownW, p1]
    refine known_calls (p := p) ?_
    simp [hkn, e2, e3, e4, hpos, hwl, hget, W.av, W.cs, splice, p1]
    refine known_calls (p := p) ?_
    simp [hkn, e2, e3, e4, hpos, hwl, hget, W.av, W.cs, splice, p1]
    exact fin _ _ (by simp) (by simp [W.av, W.cs]) (by simp) (K3 _ _ _ _) (M3 _ _ _ _)
end Go.Proofs.YthifgodgfhbnfaaDoor.Rf
set_option linter.unusedSimpArgs false
set_option linter.unusedVariables false
namespace Go.Proofs.YthifgodgfhbnfaaDoor.Rf
open Go Go.Abs Go.Proofs.YthifgodgfhbnfaaDoor
set_option maxRecDepth 20000 in
set_option maxHeartbeats 4000000 in
theorem lay_two {G : Env} {x fv rec} (IH : RecOk G x fv rec) {σ : AS} {w p : W} {l two : List W} {lv : AV} {to to'} {R : Out → AS → Prop} (hm : Maker σ x fv to) (hl : RepL lv (l ++ [p])) (hll : l.length + 1 ≤ 2 ^ 30) (hp : ptogether rec p w to = some (two, true, to')) (hb : to'.length ≤ 2 ^ 30)
    (h : ∀ σ' v, Keep x σ σ' → Maker σ' x fv to' → RepL v (l ++ two) → R (.ret v) σ') : ACalls Tryd.prog G 61 [.ptr x 0, lv, w.av] σ R := by
  refine freezing (calls61 rfl ?_)
  have hx := hm.1
  have hl0 := hl
  rcases hl with ⟨e, _⟩ | ⟨b, rfl⟩
  · simp at e
  have hpos : (0 : Int) < l.length + 1 := by omega
  have hwl : IntKind.wrap .i64 (l.length : Int) = l.length := by rw [wrap_i64] <;> omega
  have hget : (List.map W.av l ++ [AV.agg [.int .i64 p.op, .int .i64 p.ty, .int .i64 p.n, .int .i64 p.body, .int .i64 p.other, .str p.name]])[l.length]? = some (AV.agg [.int .i64 p.op, .int .i64 p.ty, .int .i64 p.n, .int .i64 p.body, .int .i64 p.other, .str p.name]) := by simp
  have K1 : ∀ c0 c1 c2, Keep x σ (((σ.newO c0).newO c1).newO c2) := fun _ _ _ => ((Keep.newO hx).addO hx).addO hx
  have M1 : ∀ c0 c1 c2, Maker (((σ.newO c0).newO c1).newO c2) x fv to := fun _ _ _ => hm.mono_newO.mono_newO.mono_newO
  have e2 : ¬ σ.no = σ.no + 1 + 1 := by omega
  have e3 : ¬ σ.no = σ.no + 1 + 1 + 1 := by omega
  have e4 : ¬ σ.no = σ.no + 1 + 1 + 1 + 1 := by omega
  have cutl : ∀ (b : Bool) (rows : List AV), rows = l.map W.av → RepL (.sl (.stat b) 6 rows) l := fun b rows e => .inr ⟨b, by rw [e]⟩
  unfold ptogether at hp
  simp [pc61, W.av, W.cs, splice, hpos, hwl, hget]
  refine drops_calls (p := p) (w := w) ?_
  by_cases d : (p.op = 1 ∨ p.op = 2) ∧ w.op = 18
  · have n1 : dropsW p w = true := by simp [dropsW, d.1, d.2]
    rw [if_pos d] at hp
    simp at hp
    obtain ⟨rfl, rfl⟩ := hp
    simp [n1, hpos, hwl, hget, W.av, W.cs, splice]
    exact ⟨by omega, .inl (h _ _ (K1 _ _ _) (M1 _ _ _) (by simpa using cutl _ _ rfl))⟩
  have n1 : dropsW p w = false := by
    simp [dropsW]
    intro a
    exact fun q => d ⟨a, q⟩
  rw [if_neg d] at hp
  have p1 : p.op = 1 := by
    by_cases q : p.op = 1
    · exact q
    · simp [q] at hp
  obtain ⟨pop, pty, pn, pb, po, pnm⟩ := p
  simp only at p1
  subst p1
  obtain ⟨wop, wty, wn, wb, wo, wnm⟩ := w
  simp only at hget
  by_cases w5 : wop = 5
  · subst w5
    simp at hp
    obtain ⟨rfl, te, rfl⟩ := hp
    subst te
    by_cases n0 : pn = 0
    · subst n0
      simp [n1, e2, e3, e4, hpos, hwl, hget, W.av, W.cs, splice]
      refine ⟨by omega, copyR_calls (M1 _ _ _) (cutl _ _ rfl) (by omega) fun cv σ3 hO A3 => ?_⟩
      have K3 := (K1 _ _ _).adds A3 (M1 _ _ _)
      have M3 := (M1 _ _ _).adds A3
      have e := A3.obj σ.no (by simp; omega)
      simp [e2, e3, e4] at e
      rcases hO with ⟨rfl, rfl⟩ | ⟨g, rfl, g1, g2, g3, g4⟩
      · simp [splice, e]
        exact fin1 h K3 M3 (by simp [W.av, W.cs])
      · simp [splice, g3, e]
        exact ⟨by omega, fin2 h K3 M3 g1 g4 (by simp [W.av, W.cs])⟩
    · simp [n1, n0, e2, e3, e4, hpos, hwl, hget, W.av, W.cs, splice]
      refine ⟨by omega, copyR_calls (M1 _ _ _) (cutl _ _ rfl) (by omega) fun cv σ3 hO A3 => ?_⟩
      have K3 := (K1 _ _ _).adds A3 (M1 _ _ _)
      have M3 := (M1 _ _ _).adds A3
      have e := A3.obj σ.no (by simp; omega)
      simp [e2, e3, e4] at e
      rcases hO with ⟨rfl, rfl⟩ | ⟨g, rfl, g1, g2, g3, g4⟩
      · simp [splice, e]
        exact fin1 h K3 M3 (by simp [W.av, W.cs, n0])
      · simp [splice, g3, e]
        exact ⟨by omega, fin2 h K3 M3 g1 g4 (by simp [W.av, W.cs, n0])⟩
  by_cases w15 : wop = 15
  · subst w15
    have K2 : ∀ c0 c1 c2 c3, Keep x σ ((((σ.newO c0).newO c1).newO c2).newO c3) := fun _ _ _ _ => (K1 _ _ _).addO hx
    have M2 : ∀ c0 c1 c2 c3, Maker ((((σ.newO c0).newO c1).newO c2).newO c3) x fv to := fun _ _ _ _ => (M1 _ _ _).mono_newO
    by_cases n0 : pn = 0
    · subst n0
      simp at hp
      obtain ⟨rfl, te, rfl⟩ := hp
      subst te
      simp [n1, e2, e3, e4, hpos, hwl, hget, W.av, W.cs, splice]
      refine known_calls (p := ⟨1, 1, 0, pb, po, pnm⟩) ?_
      have hkn : knownW ⟨1, 1, 0, pb, po, pnm⟩ = true := rfl
      simp [hkn, e2, e3, e4, hpos, hwl, hget, W.av, W.cs, splice]
      exact ⟨by omega, .inl (h _ _ (K2 _ _ _ _) (M2 _ _ _ _) (by simpa using cutl _ _ rfl))⟩
    · simp [n0] at hp
      obtain ⟨rfl, te, rfl⟩ := hp
      subst te
      simp [n1, e2, e3, e4, hpos, hwl, hget, W.av, W.cs, splice]
      refine known_calls (p := ⟨1, 1, pn, pb, po, pnm⟩) ?_
      have hkn : knownW ⟨1, 1, pn, pb, po, pnm⟩ = true := rfl
      simp [hkn, n0, e2, e3, e4, hpos, hwl, hget, W.av, W.cs, splice]
      refine ⟨by omega, copyR_calls (M2 _ _ _ _) (cutl _ _ rfl) (by omega) fun cv σ3 hO A3 => ?_⟩
      have K3 := (K2 _ _ _ _).adds A3 (M2 _ _ _ _)
      have M3 := (M2 _ _ _ _).adds A3
      have e := A3.obj σ.no (by simp; omega)
      simp [e2, e3, e4] at e
      rcases hO with ⟨rfl, rfl⟩ | ⟨g, rfl, g1, g2, g3, g4⟩
      · simp [splice, e]
        exact fin1 h K3 M3 (by simp [W.av, W.cs])
      · simp [splice, g3, e]
        exact ⟨by omega, fin2 h K3 M3 g1 g4 (by simp [W.av, W.cs])⟩
  by_cases w13 : wop = 13
  · subst w13
    have K3 : ∀ c0 c1 c2 c3 c4, Keep x σ (((((σ.newO c0).newO c1).newO c2).newO c3).newO c4) := fun _ _ _ _ _ => ((K1 _ _ _).addO hx).addO hx
    have M3 : ∀ c0 c1 c2 c3 c4, Maker (((((σ.newO c0).newO c1).newO c2).newO c3).newO c4) x fv to := fun _ _ _ _ _ => (M1 _ _ _).mono_newO.mono_newO
    by_cases te : pty = 1
    · subst te
      simp at hp
      split at hp
      · cases hp
      rename_i l1 to1 hr
      simp at hp
      obtain ⟨rfl, rfl⟩ := hp
      unfold pchosen at hr
      by_cases n0 : pn = 0
      · subst n0
        simp only [if_true] at hr
        have hkn : knownW ⟨1, 1, 0, pb, po, pnm⟩ = true := rfl
        simp [n1, e2, e3, e4, hpos, hwl, hget, W.av, W.cs, splice]
        refine known_calls (p := ⟨1, 1, 0, pb, po, pnm⟩) ?_
        simp [hkn, e2, e3, e4, hpos, hwl, hget, W.av, W.cs, splice]
        refine known_calls (p := ⟨1, 1, 0, pb, po, pnm⟩) ?_
        by_cases at0 : wo < 0
        · simp only [at0, if_true] at hr
          cases hr
          simp [hkn, at0, e2, e3, e4, hpos, hwl, hget, W.av, W.cs, splice]
          exact ⟨by omega, .inl (h _ _ (K3 _ _ _ _ _) (M3 _ _ _ _ _) (by simpa using cutl _ _ rfl))⟩
        · simp only [at0, if_false] at hr
          split at hr
          · cases hr
          rename_i b1 to2 hr2
          cases hr
          simp [hkn, at0, e2, e3, e4, hpos, hwl, hget, W.av, W.cs, splice]
          refine ⟨by omega, copyR_calls (M3 _ _ _ _ _) (cutl _ _ rfl) (by omega) fun cv σ3 hO A3 => ?_⟩
          have K4 := (K3 _ _ _ _ _).adds A3 (M3 _ _ _ _ _)
          have M4 := (M3 _ _ _ _ _).adds A3
          have o1 := RL.one hO
          simp [o1]
          refine IH _ _ _ _ _ _ M4 hr2 hb fun σ4 k4 m4 => ?_
          have hO := hO.mono k4
          have K5 := K4.trans k4
          rcases hO with ⟨rfl, rfl⟩ | ⟨g, rfl, g1, g2, g3, g4⟩
          · simp [splice]
            exact fin1 h K5 m4 (by simp [W.av, W.cs])
          · simp [splice, g3]
            exact ⟨by omega, fin2 h K5 m4 g1 g4 (by simp [W.av, W.cs])⟩
      · simp only [n0, if_false] at hr
        have hkn : knownW ⟨1, 1, pn, pb, po, pnm⟩ = true := rfl
        simp [n1, e2, e3, e4, hpos, hwl, hget, W.av, W.cs, splice]
        refine known_calls (p := ⟨1, 1, pn, pb, po, pnm⟩) ?_
        simp [hkn, e2, e3, e4, hpos, hwl, hget, W.av, W.cs, splice]
        refine known_calls (p := ⟨1, 1, pn, pb, po, pnm⟩) ?_
        by_cases at0 : wb < 0
        · simp only [at0, if_true] at hr
          cases hr
          simp [hkn, at0, n0, e2, e3, e4, hpos, hwl, hget, W.av, W.cs, splice]
          exact ⟨by omega, .inl (h _ _ (K3 _ _ _ _ _) (M3 _ _ _ _ _) (by simpa using cutl _ _ rfl))⟩
        · simp only [at0, if_false] at hr
          split at hr
          · cases hr
          rename_i b1 to2 hr2
          cases hr
          simp [hkn, at0, n0, e2, e3, e4, hpos, hwl, hget, W.av, W.cs, splice]
          refine ⟨by omega, copyR_calls (M3 _ _ _ _ _) (cutl _ _ rfl) (by omega) fun cv σ3 hO A3 => ?_⟩
          have K4 := (K3 _ _ _ _ _).adds A3 (M3 _ _ _ _ _)
          have M4 := (M3 _ _ _ _ _).adds A3
          have o1 := RL.one hO
          simp [o1]
          refine IH _ _ _ _ _ _ M4 hr2 hb fun σ4 k4 m4 => ?_
          have hO := hO.mono k4
          have K5 := K4.trans k4
          rcases hO with ⟨rfl, rfl⟩ | ⟨g, rfl, g1, g2, g3, g4⟩
          · simp [splice]
            exact fin1 h K5 m4 (by simp [W.av, W.cs])
          · simp [splice, g3]
            exact ⟨by omega, fin2 h K5 m4 g1 g4 (by simp [W.av, W.cs])⟩
    · simp [te] at hp
  · simp [w5, w15, w13] at hp
end Go.Proofs.YthifgodgfhbnfaaDoor.Rf
set_option linter.unusedSimpArgs false
set_option linter.unusedVariables false
namespace Go.Proofs.YthifgodgfhbnfaaDoor.Rf
open Go Go.Abs Go.Proofs.YthifgodgfhbnfaaDoor
/-- one instruction more, in lists -/
def rlay (rec : Rec) (l : List W) (w : W) (to : To) : Option (List W × To) :=
  match l.getLast? with
  | none => match plists rec w to with
    | none => none
    | some (w', to2) => some (l ++ [w'], to2)
  | some p => match ptogether rec p w to with
    | none => none
    | some (two, is, to1) => if is then some (l.dropLast ++ two, to1) else match plists rec w to1 with
      | none => none
      | some (w', to2) => some (l ++ [w'], to2)
theorem ploop_cons {rec : Rec} {w : W} {ws l lf : List W} {to tf : To} (h : ploop rec (w :: ws) l to = some (lf, tf)) :
    (∃ p, l.getLast? = some p ∧ leavesW p = true ∧ lf = l ∧ tf = to) ∨ ((∀ p, l.getLast? = some p → leavesW p = false) ∧ ∃ l' to', rlay rec l w to = some (l', to') ∧ ploop rec ws l' to' = some (lf, tf)) := by
  unfold ploop at h
  unfold rlay
  cases hl : l.getLast? with
  | none =>
    rw [hl] at h
    simp only at h ⊢
    refine .inr ⟨fun p hp => by simp at hp, ?_⟩
    split at h
    · cases h
    rename_i w' to2 h1
    exact ⟨_, _, by simp [h1], h⟩
  | some p =>
    rw [hl] at h
    simp only at h ⊢
    by_cases hv : leavesW p = true
    · rw [if_pos hv] at h
      cases h
      exact .inl ⟨p, rfl, hv, rfl, rfl⟩
    · rw [if_neg hv] at h
      refine .inr ⟨fun q hq => by cases hq; simpa using hv, ?_⟩
      split at h
      · cases h
      rename_i two is to1 h1
      cases is with
      | true => exact ⟨l.dropLast ++ two, to1, by simp [h1], by simpa using h⟩
      | false =>
        simp only [Bool.false_eq_true, if_false] at h
        split at h
        · cases h
        rename_i w' to2 h2
        exact ⟨_, _, by simp [h1, h2], h⟩
theorem rlay_grows {rec} (gr : Grows rec) {l w to l' to'} (h : rlay rec l w to = some (l', to')) : to.length ≤ to'.length := by
  unfold rlay at h
  split at h
  · split at h
    · cases h
    rename_i h1
    cases h
    exact plists_grows gr h1
  · split at h
    · cases h
    rename_i h1
    split at h
    · cases h
      exact together_grows gr h1
    · split at h
      · cases h
      rename_i h2
      cases h
      exact Nat.le_trans (together_grows gr h1) (plists_grows gr h2)
theorem rlay_length {rec l w to l' to'} (h : rlay rec l w to = some (l', to')) : l'.length ≤ l.length + 1 := by
  unfold rlay at h
  split at h
  · split at h
    · cases h
    cases h
    simp
  · split at h
    · cases h
    rename_i h1
    have := two_length h1
    split at h
    · cases h
      simp
      omega
    · split at h
      · cases h
      cases h
      simp
theorem not_two {rec : Rec} {p w : W} {two : List W} {to to1 : To} (h : ptogether rec p w to = some (two, false, to1)) : to1 = to ∧ dropsW p w = false ∧ ¬ (p.op = 1 ∧ w.op = 5 ∧ p.ty = w.ty) ∧ ¬ (knownW p = true ∧ w.op = 15) ∧ ¬ (knownW p = true ∧ w.op = 13) := by
  unfold ptogether at h
  by_cases d : (p.op = 1 ∨ p.op = 2) ∧ w.op = 18
  · rw [if_pos d] at h
    simp at h
  have n1 : dropsW p w = false := by
    simp [dropsW]
    intro a
    exact fun q => d ⟨a, q⟩
  rw [if_neg d] at h
  refine (fun (q : to1 = to ∧ _) => ⟨q.1, n1, q.2⟩) ?_
  by_cases p1 : p.op = 1
  · by_cases w5 : w.op = 5
    · simp [p1, w5] at h
      simp [w5, h]
    by_cases w15 : w.op = 15
    · by_cases n0 : p.n = 0
      · simp [p1, w15, n0] at h
        simp [w15, h, knownW]
      · simp [p1, w15, n0] at h
        simp [w15, h, knownW]
    by_cases w13 : w.op = 13
    · by_cases te : p.ty = 1
      · simp [p1, w13, te] at h
        split at h <;> simp at h
      · simp [p1, w13, te] at h
        simp [w13, h, te, knownW]
    simp [p1, w5, w15, w13] at h
    simp [w5, w15, w13, h]
  · simp [p1] at h
    simp [p1, h, knownW]
theorem lay_calls {G : Env} {x fv rec} (IH : RecOk G x fv rec) (gr : Grows rec) {σ : AS} {w : W} {l l' : List W} {lv : AV} {to to'} {R : Out → AS → Prop} (hm : Maker σ x fv to) (hl : RepL lv l) (hll : l.length + 1 ≤ 2 ^ 30) (hp : rlay rec l w to = some (l', to')) (hb : to'.length ≤ 2 ^ 30)
    (h : ∀ σ' v, Keep x σ σ' → Maker σ' x fv to' → RepL v l' → R (.ret v) σ') : ACalls Tryd.prog G 61 [.ptr x 0, lv, w.av] σ R := by
  unfold rlay at hp
  cases hg : l.getLast? with
  | none =>
    have hnil : l = [] := by simpa using hg
    subst hnil
    simp only [List.getLast?_nil] at hp
    split at hp
    · cases hp
    rename_i w' to2 h1
    cases hp
    exact lay_empty IH gr hm hl h1 hb (by simpa using h)
  | some p =>
    obtain ⟨l0, rfl⟩ := List.getLast?_eq_some_iff.1 hg
    rw [hg] at hp
    simp only at hp
    split at hp
    · cases hp
    rename_i two is to1 h1
    cases is with
    | true =>
      simp at hp
      obtain ⟨rfl, rfl⟩ := hp
      exact lay_two IH hm hl (by simp at hll; omega) h1 hb h
    | false =>
      obtain ⟨rfl, q1, q2, q3, q4⟩ := not_two h1
      simp only [Bool.false_eq_true, if_false] at hp
      split at hp
      · cases hp
      rename_i w' to2 h2
      cases hp
      exact lay_plain IH gr hm hl (by simp at hll; omega) h2 hb q1 q2 q3 q4 h
def LI (rec : Rec) (σ : AS) (x : Nat) (fv : AV) (at_ : Int) (ws lfin : List W) (tofin : To) (a : Nat → AV) (τ : AS) : Prop := ∃ (i : Nat) (l : List W) (to : To),
  i ≤ ws.length ∧ l.length ≤ i ∧ a 0 = .ptr x 0 ∧ a 1 = .int .i64 at_ ∧ a 6 = .int .i64 (i : Int) ∧ RepL (a 5) l ∧ Keep x σ τ ∧ Maker τ x fv to ∧ ploop rec (ws.drop i) l to = some (lfin, tofin)
theorem list_fin {G : Env} {x : Nat} {fv : AV} {to1 : To} {l : List W} {a : Nat → AV} {σ τ : AS} {R : Out → AS → Prop} (K : Keep x σ τ) (hm : Maker τ x fv to1) (h0 : a 0 = .ptr x 0) (hl : RepL (a 5) l) (hb : to1.length + 1 ≤ 2 ^ 30)
    (h : ∀ σ', Keep x σ σ' → Maker σ' x fv (to1 ++ [l]) → R (.ret (.int .i64 to1.length)) σ') : avc Tryd.prog G 60 pc40_r1 (afin Tryd.prog [.tmp 4] R) a τ := by
  obtain ⟨hx, tv, hob, ht⟩ := hm
  have hw : IntKind.wrap .i64 (to1.length : Int) = to1.length := by rw [wrap_i64] <;> omega
  have o5 := hl.one
  have base : ∀ σ' : AS, σ'.no = τ.no → σ'.nf = τ.nf + 1 → (∀ o, o ≠ x → σ'.objs o = τ.objs o) → (∃ tos', σ'.objs x = some [fv, .sl (.fam τ.nf false) 1 tos'] ∧ All2 RepL tos' (to1 ++ [l])) → σ'.F τ.nf = .alive →
      (∀ f, f < σ.nf → ¬ Uses σ x f → σ'.F f = σ.F f) → R (.ret (.int .i64 to1.length)) σ' := by
    intro σ' a1 a2 a3 ⟨tos', a4, a5⟩ a6 a7
    refine h σ' ⟨by rw [a1]; exact K.no, by rw [a2]; have := K.nf; omega, fun o h1 h2 => (a3 o h2).trans (K.obj o h1 h2), a7, fun f h1 h2 => ?_⟩ ⟨by rw [a1]; exact hx, _, a4, .inr ⟨_, _, rfl, by omega, a6, a5⟩⟩
    obtain ⟨fv', tv', b1, b2⟩ := h2
    rw [a4] at b1
    simp at b1
    obtain ⟨rfl, rfl⟩ := b1
    simp [famOf] at b2
    have := K.nf
    omega
  rcases ht with ⟨rfl, rfl⟩ | ⟨g, tos, rfl, hg, hga, htos⟩
  · simp only [List.length_nil, Int.cast_ofNat_Int] at hw
    simp [pc40_r1, h0, hob, o5, splice, hw]
    refine base _ rfl rfl (fun o ho => by simp [ho]) ⟨[a 5], by simp, .cons hl .nil⟩ (by simp) fun f hf hu => ?_
    have := K.nf
    simp [show f ≠ τ.nf by omega]
    exact K.fam f hf hu
  · have hlen := htos.length
    simp [pc40_r1, h0, hob, o5, splice, hga, hlen, hw]
    refine ⟨by omega, base _ rfl rfl (fun o ho => by simp [ho]) ⟨tos ++ [a 5], by simp, htos.append (.cons hl .nil)⟩ (by simp) fun f hf hu => ?_⟩
    have := K.nf
    have hne : f ≠ g := fun e => hu (K.use f hf ⟨fv, _, hob, by simp [famOf, e]⟩)
    simp [show f ≠ τ.nf by omega, hne]
    exact K.fam f hf hu
theorem list_calls {G : Env} {x fv rec} (IH : RecOk G x fv rec) (gr : Grows rec) {frm : To} (hf : FromV fv frm) (hl : ∀ ws ∈ frm, ws.length ≤ 2 ^ 29)
    {σ : AS} {at_ : Int} {to to1 : To} {ws l : List W} {R : Out → AS → Prop} (hm : Maker σ x fv to) (h0 : 0 ≤ at_) (hw : frm[at_.toNat]? = some ws) (hp : ploop rec ws [] to = some (l, to1)) (hb : to1.length + 1 ≤ 2 ^ 30)
    (h : ∀ σ', Keep x σ σ' → Maker σ' x fv (to1 ++ [l]) → R (.ret (.int .i64 to1.length)) σ') : ACalls Tryd.prog G 40 [.ptr x 0, .int .i64 at_] σ R := by
  refine calls40 rfl ?_
  obtain ⟨b, rows, rfl, hrows⟩ := hf
  obtain ⟨row, hr, hrow⟩ := hrows.get hw
  have hlen := hl ws (List.mem_of_getElem? hw)
  have hx := hm.1
  simp [pc40]
  refine aloop (LI rec σ x (.sl (.stat b) 1 rows) at_ ws l to1) (MU 6 (ws.length + 1)) ⟨0, [], to, by omega, by simp, by simp, by simp, by simp, .inl ⟨rfl, by simp⟩, .refl .., hm, by simpa using hp⟩ fun a τ hI => ?_
  obtain ⟨i, l1, to2, hi, hli, a0, a1, a6, hL, hK, hM, hq⟩ := hI
  have ob : ∃ tv, τ.objs x = some [.sl (.stat b) 1 rows, tv] := by
    obtain ⟨_, tv, q, _⟩ := hM
    exact ⟨tv, q⟩
  obtain ⟨tv, ob⟩ := ob
  have r1 := hrow.one
  have r2 := hrow.len
  have o1 := hL.one
  have o2 := hL.len
  by_cases hlt : i < ws.length
  · obtain ⟨wd, hwd⟩ : ∃ w, ws[i] = w := ⟨_, rfl⟩
    have hd : ws.drop i = wd :: ws.drop (i + 1) := by rw [List.drop_eq_getElem_cons hlt, hwd]
    rw [hd] at hq
    obtain ⟨b2, hix⟩ := hrow.at hlt
    rw [hwd] at hix
    have hi1 : IntKind.wrap .i64 ((i : Int) + 1) = (i : Int) + 1 := by rw [wrap_i64] <;> omega
    have hlt' : (i : Int) < (ws.length : Int) := by omega
    have next : ∀ (a' : Nat → AV) (τ' : AS) (l' : List W) (to' : To), a' 0 = a 0 → a' 1 = a 1 → a' 6 = .int .i64 ((i : Int) + 1) → RepL (a' 5) l' → l'.length ≤ i + 1 → Keep x σ τ' → Maker τ' x (.sl (.stat b) 1 rows) to' →
        ploop rec (ws.drop (i + 1)) l' to' = some (l, to1) → LI rec σ x (.sl (.stat b) 1 rows) at_ ws l to1 a' τ' ∧ MU 6 (ws.length + 1) a' τ' < MU 6 (ws.length + 1) a τ := by
      intro a' τ' l' to' b0 b1 b6 b5 bl bK bM bp
      refine ⟨⟨i + 1, l', to', hlt, bl, b0.trans a0, b1.trans a1, by rw [b6]; simp, b5, bK, bM, bp⟩, ?_⟩
      simp only [MU, b6, a6]
      omega
    have lw : wd.av = .agg [.int .i64 wd.op, .int .i64 wd.ty, .int .i64 wd.n, .int .i64 wd.body, .int .i64 wd.other, .str wd.name] := rfl
    rcases ploop_cons hq with ⟨p, hg, hv, rfl, rfl⟩ | ⟨hnl, l', to', hr1, hq'⟩
    · obtain ⟨l0, rfl⟩ := List.getLast?_eq_some_iff.1 hg
      have hpos : (0 : Int) < l0.length + 1 := by omega
      have hwl : IntKind.wrap .i64 (l0.length : Int) = l0.length := by
          simp at hli
          rw [wrap_i64] <;> omega
      obtain ⟨b3, hix3⟩ := hL.at (i := l0.length) (by simp)
      simp at hix3
      simp [pc40_l1, a0, a1, a6, ob, hr, h0, r1, r2, hlt', o1, o2, hpos, hwl, hix3, W.av, W.cs]
      refine leaves_calls (w := p) ?_
      simp [hv]
      exact list_fin (hK.addO hx) hM.mono_newO (by simp [a0]) (by simpa using hL) hb h
    · have hg1 := loop_grows gr hq'
      have hlen' := rlay_length hr1
      cases hg : l1.getLast? with
      | none =>
        have hnil : l1 = [] := by simpa using hg
        subst hnil
        simp [pc40_l1, a0, a1, a6, ob, hr, h0, r1, r2, hlt', o1, o2, hix, W.av, W.cs]
        refine lay_calls IH gr (w := wd) hM hL (by simp) hr1 (by omega) fun σ2 v k2 m2 hv => ?_
        have v1 := hv.one
        simp [v1, a6, hi1]
        exact next _ _ l' to' (by simp [a0]) (by simp [a1]) (by simp) (by simpa using hv) (by simp at hlen'; omega) (hK.trans k2) m2 hq'
      | some p =>
        have hle := hnl p hg
        obtain ⟨l0, rfl⟩ := List.getLast?_eq_some_iff.1 hg
        have hpos : (0 : Int) < l0.length + 1 := by omega
        have hwl : IntKind.wrap .i64 (l0.length : Int) = l0.length := by
          simp at hli
          rw [wrap_i64] <;> omega
        obtain ⟨b3, hix3⟩ := hL.at (i := l0.length) (by simp)
        simp at hix3
        simp [pc40_l1, a0, a1, a6, ob, hr, h0, r1, r2, hlt', o1, o2, hpos, hwl, hix3, W.av, W.cs]
        refine leaves_calls (w := p) ?_
        have ob' : (τ.newO p.cs).objs x = some [.sl (.stat b) 1 rows, tv] := by
          have := hM.1
          simp [ob]
          omega
        simp [W.cs] at ob'
        simp [hle, a0, a1, a6, ob', hr, h0, r1, r2, o1, hix, W.av, W.cs]
        refine lay_calls IH gr (w := wd) (hM.mono_newO) hL (by simp at hli ⊢; omega) hr1 (by omega) fun σ2 v k2 m2 hv => ?_
        have v1 := hv.one
        simp [v1, a6, hi1]
        exact next _ _ l' to' (by simp [a0]) (by simp [a1]) (by simp) (by simpa using hv) (by simp at hli hlen' ⊢; omega) ((hK.addO hx).trans k2) m2 hq'
  · have he : i = ws.length := by omega
    have hlt' : ¬ (i : Int) < (ws.length : Int) := by omega
    subst he
    simp [ploop] at hq
    obtain ⟨rfl, rfl⟩ := hq
    simp [pc40_l1, a0, a1, a6, ob, hr, h0, r1, r2, hlt']
    exact list_fin hK hM (by simp [a0]) (by simpa using hL) hb h
/-- THE DOCUMENT's LIST-MAKER's CONTRACT. -/
theorem plist_ok {G : Env} {x fv} {frm : To} (hf : FromV fv frm) (hl : ∀ ws ∈ frm, ws.length ≤ 2 ^ 29) : ∀ k, RecOk G x fv (plist frm k)
  | 0, _, _, _, _, _, _, _, h, _, _ => by simp [plist] at h
  | k + 1, σ, at_, to, n, to', R, hm, h, hb, hR => by
    unfold plist at h
    split at h
    · cases h
    rename_i h0
    split at h
    · cases h
    rename_i ws hw
    split at h
    · cases h
    rename_i l to1 h1
    cases h
    exact list_calls (plist_ok hf hl k) (plist_grows frm k) hf hl hm (by omega) hw h1 (by simpa using hb) hR
end Go.Proofs.YthifgodgfhbnfaaDoor.Rf
set_option linter.unusedSimpArgs false
set_option linter.unusedVariables false
namespace Go.Proofs.YthifgodgfhbnfaaDoor.Rf
open Go Go.Abs Go.Proofs.YthifgodgfhbnfaaDoor
theorem copyFs_calls {G : Env} {v : AV} {l : List F} {σ : AS} {R : Out → AS → Prop} (hv : FsV v l) (hl : l.length ≤ 2 ^ 40) (h1 : ∀ f ∈ l, f.params.length ≤ 2 ^ 40) (h2 : ∀ f ∈ l, f.locals.length ≤ 2 ^ 40) (h3 : ∀ f ∈ l, f.lists.length ≤ 2 ^ 40) (h4 : ∀ f ∈ l, ∀ r ∈ f.lists, r.length ≤ 2 ^ 40)
    (h : ∀ v' rows σ', All2 FV rows l → OutG σ' σ.nf 5 v' rows → Adds σ σ' → R (.ret v') σ') : ACalls Tryd.prog G 36 [v] σ R := by
  refine calls36 rfl ?_
  have v1 := hv.one
  have v2 := hv.len
  simp [pc36]
  refine aloop (CpF v l σ) (MU 4 (l.length + 1)) ⟨0, [], by omega, by simp, by simp, by simpa using All2.nil, .inl ⟨rfl, by simp⟩, .refl _⟩ fun a τ hI => ?_
  obtain ⟨i, rows, hi, a0, a4, hR, hO, hA⟩ := hI
  by_cases hlt : i < l.length
  · obtain ⟨b, rv, hrv, hix⟩ := hv.at hlt
    have hget : l[i]? = some l[i] := List.getElem?_eq_getElem hlt
    have w1 : IntKind.wrap .i64 ((i : Int) + 1) = ((i + 1 : Nat) : Int) := by rw [wrap_i64] <;> omega
    have ts := take_snoc hget
    have hm := List.getElem_mem hlt
    have b1 := h1 _ hm
    have b2 := h2 _ hm
    have b3 := h3 _ hm
    have b4 := h4 _ hm
    generalize l[i] = f at *
    have hlen : rows.length = i := by rw [hR.length]; simp; omega
    have hrv0 := hrv
    obtain ⟨pv, lv, tv, rfl, hp, hll, ht⟩ := hrv
    have p1 := hp.one
    have l1 := hll.one
    have t1 := ht.one
    simp [pc36_l1, a0, a4, v1, v2, hlt, hix, p1, l1, t1]
    refine copyF_calls hrv0 b1 b2 b3 b4 fun rv' σ1 hrv' A1 => ?_
    have hO1 := hO.keep A1
    have hA1 := hA.trans A1
    have hR1 : All2 FV (rows ++ [rv']) (l.take (i + 1)) := by rw [ts]; exact hR.append (.cons hrv' .nil)
    have hgn := hA1.nf
    obtain ⟨pv', lv', tv', rfl, hp', hl', ht'⟩ := hrv'
    have p2 := hp'.one
    have l2 := hl'.one
    have t2 := ht'.one
    rcases hO1 with ⟨rfl, h3⟩ | ⟨g, h3, h4, h5, h6⟩
    · simp [p2, l2, t2, h3, w1, a4]
      refine ⟨⟨i + 1, _, by omega, by simp [a0], by simp, by simpa using hR1, .inr ⟨σ1.nf, by simp, hgn, by simp, by simp⟩, hA1.newF⟩, ?_⟩
      simp only [MU, a4]; simp; omega
    · simp [p2, l2, t2, h3, w1, h6, a4]
      refine ⟨by omega, ⟨i + 1, _, by omega, by simp [a0], by simp, hR1, .inr ⟨σ1.nf, by simp, hgn, by simp, by simp⟩, ?_⟩, ?_⟩
      · exact ⟨by simpa using hA1.no, by simp; omega, fun o ho => by simpa using hA1.obj o ho, fun f hf => by
          have : f ≠ g := by omega
          simp [this]
          rw [if_neg (by omega)]
          exact hA1.fam f hf⟩
      · simp only [MU, a4]; simp; omega
  · have hlt' : ¬ (i : Int) < (l.length : Int) := by omega
    have htk : l.take i = l := List.take_of_length_le (by omega)
    rw [htk] at hR
    have o3 : (a 3).known = true ∧ (a 3).one = true ∧ (a 3).cells = [a 3] := by
      rcases hO with ⟨hn, h3⟩ | ⟨g, h3, h4, h5, h6⟩ <;> rw [h3] <;> simp
    simp [pc36_l1, pc36_r1, a0, a4, v1, v2, hlt, o3]
    exact h _ _ _ hR hO hA
/-- A COPY OF A MODULE. -/
theorem copyM_calls {G : Env} {mv : AV} {m : M} {σ : AS} {R : Out → AS → Prop} (hm : MV mv m) (hl : m.funcs.length ≤ 2 ^ 40) (h1 : ∀ f ∈ m.funcs, f.params.length ≤ 2 ^ 40) (h2 : ∀ f ∈ m.funcs, f.locals.length ≤ 2 ^ 40) (h3 : ∀ f ∈ m.funcs, f.lists.length ≤ 2 ^ 40) (h4 : ∀ f ∈ m.funcs, ∀ r ∈ f.lists, r.length ≤ 2 ^ 40)
    (h : ∀ v' rows σ', All2 FV rows m.funcs → OutG σ' σ.nf 5 v' rows → Adds σ σ' → R (.ret (.agg [v', .int .i64 m.memory, .int .i64 m.main])) σ') : ACalls Tryd.prog G 12 [mv] σ R := by
  refine calls12 rfl ?_
  obtain ⟨fv, rfl, hfs⟩ := hm
  have f1 := hfs.one
  simp [pc12, f1]
  refine copyFs_calls hfs hl h1 h2 h3 h4 fun fv' rows σ2 hrows hO A2 => ?_
  have f2 : fv'.known = true ∧ fv'.one = true ∧ fv'.cells = [fv'] := by
    rcases hO with ⟨hn, h3⟩ | ⟨g, h3, h4, h5, h6⟩ <;> rw [h3] <;> simp
  have o1 := A2.obj σ.no (by simp; omega)
  have o2 := A2.obj (σ.no + 1) (by simp)
  have hn := A2.no
  simp at o1 o2
  simp at hn
  simp [f2, o1, o2, splice]
  have A : Adds σ σ2 := (Adds.refl σ).newO.newO.trans A2
  exact h _ _ _ hrows (by simpa [OutG] using hO) ((A.setO (Nat.le_refl _)).setO (by omega))
/-- a copy whose functions may be written in place -/
theorem copyO_calls {G : Env} {mv : AV} {m : M} {σ : AS} {R : Out → AS → Prop} (hm : MV mv m) (hl : m.funcs.length ≤ 2 ^ 40) (h1 : ∀ f ∈ m.funcs, f.params.length ≤ 2 ^ 40) (h2 : ∀ f ∈ m.funcs, f.locals.length ≤ 2 ^ 40) (h3 : ∀ f ∈ m.funcs, f.lists.length ≤ 2 ^ 40) (h4 : ∀ f ∈ m.funcs, ∀ r ∈ f.lists, r.length ≤ 2 ^ 40)
    (h0 : ∀ σ', m.funcs = [] → Adds σ σ' → R (.ret (.agg [.nilsl, .int .i64 m.memory, .int .i64 m.main])) σ')
    (h : ∀ rows ob σ', All2 FV rows m.funcs → σ.no ≤ ob → ob < σ'.no → σ'.objs ob = some (flat rows) → Adds σ σ' → R (.ret (.agg [.slm ob 0 5 m.funcs.length, .int .i64 m.memory, .int .i64 m.main])) σ') : ACalls Tryd.prog G 12 [mv] σ R := by
  refine ownOr (copyM_calls hm hl h1 h2 h3 h4 fun v' rows σ' hR hO A => ?_)
  have hlen := hR.length
  rcases hO with ⟨rfl, rfl⟩ | ⟨g, rfl, g1, g2, g3⟩
  · exact .inl (h0 σ' (List.length_eq_zero_iff.1 (by simpa using hlen.symm)) A)
  · refine .inr ⟨g, false, 5, rows, _, rfl, g3, ?_⟩
    rw [hlen]
    have := A.no
    refine h rows σ'.no (σ'.ownV g (flat rows)) hR (by omega) (by simp [AS.ownV]) (by simp [AS.ownV]) ⟨by simp [AS.ownV]; omega, A.nf, fun o ho => ?_, fun f hf => ?_⟩
    · simp only [AS.ownV, upd_at]
      rw [if_neg (by omega)]
      exact A.obj o ho
    · simp only [AS.ownV, upd_at]
      rw [if_neg (by omega)]
      exact A.fam f hf
end Go.Proofs.YthifgodgfhbnfaaDoor.Rf
set_option linter.unusedSimpArgs false
set_option linter.unusedVariables false
namespace Go.Proofs.YthifgodgfhbnfaaDoor.Rf
open Go Go.Abs Go.Proofs.YthifgodgfhbnfaaDoor
/-- the first call -/
theorem list_top {G : Env} {x : Nat} {fv : AV} {frm : To} (hf : FromV fv frm) (hl : ∀ ws ∈ frm, ws.length ≤ 2 ^ 29) {k : Nat} {σ : AS} {at_ n : Int} {to : To} {R : Out → AS → Prop} (hx : x < σ.no) (ho : σ.objs x = some [fv, .nilsl])
    (hp : plist frm k at_ [] = some (n, to)) (hb : to.length ≤ 2 ^ 30)
    (h : ∀ σ' tv, σ.no ≤ σ'.no → σ.nf ≤ σ'.nf → (∀ o, o < σ.no → o ≠ x → σ'.objs o = σ.objs o) → (∀ f, f < σ.nf → σ'.F f = σ.F f) → σ'.objs x = some [fv, tv] → ListsV tv to → R (.ret (.int .i64 n)) σ') : ACalls Tryd.prog G 40 [.ptr x 0, .int .i64 at_] σ R := by
  have hu : ∀ f, ¬ Uses σ x f := fun f ⟨fv', tv', h1, h2⟩ => by rw [ho] at h1; simp at h1; obtain ⟨rfl, rfl⟩ := h1; simp [famOf] at h2
  refine freezeOr (plist_ok hf hl k σ at_ [] n to _ ⟨hx, _, ho, .inl ⟨rfl, rfl⟩⟩ hp hb fun σ' K ⟨m1, tv, m2, m3⟩ => ?_)
  rcases m3 with ⟨e, rfl⟩ | ⟨g, tos, rfl, g1, g2, g3⟩
  · exact .inl (h σ' _ K.no K.nf K.obj (fun f hf => K.fam f hf (hu f)) m2 (.inl ⟨e, rfl⟩))
  · have hg : σ.nf ≤ g := by
      by_cases hlt : g < σ.nf
      · exact absurd (K.use g hlt ⟨_, _, m2, rfl⟩) (hu g)
      · omega
    refine .inr ⟨_, g, fun o => o == x, rfl, g2, ?_⟩
    rw [frz_int]
    refine h _ (.sl (.stat false) 1 tos) K.no K.nf (fun o h1 h2 => ?_) (fun f hf => ?_) ?_ (.inr ⟨_, _, rfl, g3⟩)
    · simp [AS.frz, h2]; exact K.obj o h1 h2
    · simp [AS.frz, frzF]; rw [if_neg (by omega)]; exact K.fam f hf (hu f)
    · simp [AS.frz, m2, hf.frz, frz_rows g3]
theorem peepFs_length {k : Nat} : ∀ {fs fs' : List F}, peepFs k fs = some fs' → fs'.length = fs.length
  | [], fs', h => by simp [peepFs] at h; subst h; rfl
  | f :: fs, fs', h => by
    unfold peepFs at h
    split at h
    · cases h
    split at h
    · cases h
    rename_i r hr
    cases h
    simp [peepFs_length hr]
theorem peepFs_get {k : Nat} : ∀ {fs fs' : List F}, peepFs k fs = some fs' → ∀ {i : Nat} (hi : i < fs.length), ∃ f', peepF k fs[i] = some f' ∧ fs'[i]? = some f'
  | [], fs', h, i, hi => by simp at hi
  | f :: fs, fs', h, i, hi => by
    unfold peepFs at h
    split at h
    · cases h
    rename_i f' hf
    split at h
    · cases h
    rename_i r hr
    cases h
    cases i with
    | zero => exact ⟨f', by simpa using hf, by simp⟩
    | succ i =>
      obtain ⟨g, g1, g2⟩ := peepFs_get hr (i := i) (by simpa using hi)
      exact ⟨g, by simpa using g1, by simpa using g2⟩
theorem flat_set5 : ∀ {rows : List AV} {i : Nat} {a b c d e : AV} (t : AV), (∀ x ∈ rows, x.cells.length = 5) → rows[i]? = some (.agg [a, b, c, d, e]) → splice (flat rows) (i * 5 + 4) [t] = flat (rows.set i (.agg [a, b, c, d, t]))
  | [], i, a, b, c, d, e, t, _, h => by simp at h
  | x :: rows, 0, a, b, c, d, e, t, _, h => by
    simp at h
    subst h
    simp [splice, flat, AV.cells]
  | x :: rows, i + 1, a, b, c, d, e, t, h5, h => by
    have hx := h5 x (by simp)
    have ih := flat_set5 (rows := rows) (i := i) t (fun y hy => h5 y (by simp [hy])) (by simpa using h)
    have e1 : (i + 1) * 5 + 4 = x.cells.length + (i * 5 + 4) := by omega
    have e2 : flat (x :: rows) = x.cells ++ flat rows := by simp [flat]
    have e3 : flat ((x :: rows).set (i + 1) (.agg [a, b, c, d, t])) = x.cells ++ flat (rows.set i (.agg [a, b, c, d, t])) := by simp [flat]
    rw [e2, e3, ← ih, e1]
    have e4 : x.cells.length + (i * 5 + 4) + 1 = x.cells.length + (i * 5 + 4 + 1) := by omega
    simp [splice, List.take_append, List.drop_append, e4]
    rw [List.drop_eq_nil_of_le (by omega)]
    simp
    exact List.take_of_length_le (by omega)
theorem All2.set {α β : Type} {R : α → β → Prop} {xs : List α} {ys : List β} (h : All2 R xs ys) {x : α} {y : β} (hr : R x y) : ∀ i, All2 R (xs.set i x) (ys.set i y) := by
  induction h with
  | nil => intro i; exact .nil
  | cons h0 r ih =>
    intro i
    cases i with
    | zero => exact .cons hr r
    | succ i => exact .cons h0 (ih i)
theorem take_set {α : Type} {l l' : List α} {i : Nat} {f f' : α} (hlen : l'.length = l.length) (hd : l.drop i = f :: l.drop (i + 1)) (hf : l'[i]? = some f') : (l'.take i ++ l.drop i).set i f' = l'.take (i + 1) ++ l.drop (i + 1) := by
  obtain ⟨hi, rfl⟩ := List.getElem?_eq_some_iff.1 hf
  have ht : (l'.take i).length = i := by simp; omega
  rw [hd, List.set_append_right _ _ (by omega), List.take_succ_eq_append_getElem hi]
  simp only [ht, Nat.sub_self, List.set_cons_zero, List.append_assoc, List.cons_append, List.nil_append]
theorem FV.five {v f} (h : FV v f) : v.cells.length = 5 := by
  obtain ⟨pv, lv, tv, rfl, _⟩ := h
  simp
theorem rows_five {rows : List AV} {l : List F} (h : All2 FV rows l) : ∀ x ∈ rows, x.cells.length = 5 := by
  induction h with
  | nil => intro x hx; simp at hx
  | cons h r ih =>
    intro x hx
    rcases List.mem_cons.1 hx with rfl | hx
    · exact FV.five h
    · exact ih x hx
def RPI (mv ov : Nat) (ob : Nat) (fsv : AV) (fs fs' : List F) (mem mn : Int) (σ : AS) (a : Nat → AV) (τ : AS) : Prop := ∃ (i : Nat) (rows : List AV), i ≤ fs.length ∧ a 1 = .ptr mv 0 ∧ a 2 = .ptr (mv + 1) 0 ∧ a 3 = .ptr ov 0 ∧ a 4 = .int .i64 (i : Int) ∧
  τ.objs mv = some [fsv, .int .i64 mem, .int .i64 mn] ∧ τ.objs ov = some [.slm ob 0 5 fs.length, .int .i64 mem, .int .i64 mn] ∧ τ.objs ob = some (flat rows) ∧ All2 FV rows (fs'.take i ++ fs.drop i) ∧ Adds σ τ ∧ τ.objs (mv + 1) = some [.nilsl, .int .i64 0, .int .i64 0] ∧ mv + 1 < τ.no ∧ ov < τ.no ∧ ob < τ.no
set_option maxHeartbeats 4000000 in
theorem peep_calls {G : Env} {k : Nat} {m : M} {mv : AV} {fs' : List F} {σ : AS} {R : Out → AS → Prop} (hm : MV mv m) (hlen : m.funcs.length ≤ 2 ^ 30) (hok : ∀ f ∈ m.funcs, FOk k f) (hrl : ∀ f ∈ m.funcs, ∀ r ∈ f.lists, r.length ≤ 2 ^ 29) (hp : peepFs k m.funcs = some fs')
    (h : ∀ v' σ', MV v' ⟨fs', m.memory, m.main⟩ → Adds σ σ' → R (.ret v') σ') : ACalls Tryd.prog G 15 [mv] σ R := by
  refine stillOr (calls15 rfl ?_)
  have hm0 := hm
  obtain ⟨fsv, rfl, hfs⟩ := hm
  have f1 := hfs.one
  have f2 := hfs.len
  simp [pc15, f1]
  refine copyO_calls hm0 (by omega) (fun f hf => by have := (hok f hf).1; omega) (fun f hf => by have := (hok f hf).2.1; omega) (fun f hf => by have := (hok f hf).2.2.2.1; omega) (fun f hf r hr => by have := hrl f hf r hr; omega) (fun σ1 hnil A1 => ?_) (fun rows ob σ1 hrows o1 o2 o3 A1 => ?_)
  · have e1 := A1.obj σ.no (by simp; omega)
    have e2 := A1.obj (σ.no + 1) (by simp)
    simp at e1 e2
    have := A1.no
    simp at this
    have n1 : ¬ σ.no = σ1.no := by omega
    have n2 : ¬ σ.no + 1 = σ1.no := by omega
    have n3 : ¬ σ1.no = σ.no + 1 := by omega
    have hnil' : fs' = [] := by
      have := peepFs_length hp
      rw [hnil] at this
      exact List.length_eq_zero_iff.1 (by simpa using this)
    simp [splice, e1]
    refine aloop (fun a τ => a 1 = .ptr σ.no 0 ∧ a 2 = .ptr (σ.no + 1) 0 ∧ a 3 = .ptr σ1.no 0 ∧ a 4 = .int .i64 0 ∧ τ.objs σ.no = some [fsv, .int .i64 m.memory, .int .i64 m.main] ∧ τ.objs (σ.no + 1) = some [.nilsl, .int .i64 0, .int .i64 0] ∧ τ.objs σ1.no = some [.nilsl, .int .i64 m.memory, .int .i64 m.main] ∧ Adds σ τ) (MU 4 1) ⟨by simp, by simp, by simp, by simp, by simp [n1, e1], by simp [n2, e2], by simp, ?_⟩ fun a τ hI => ?_
    · exact (((Adds.refl σ).newO.newO.trans A1).newO).setO (by omega)
    obtain ⟨a1, a2, a3, a4, b1, b2, b3, hA⟩ := hI
    have hz : ¬ (0 : Int) < (m.funcs.length : Int) := by rw [hnil]; simp
    have hz2 : m.funcs.length = 0 := by rw [hnil]; rfl
    simp [pc15_l1, pc15_r1, a1, a2, a3, a4, b1, b2, b3, f1, f2, hz, hz2, splice, n3]
    exact h _ _ ⟨_, rfl, .inl ⟨hnil', rfl⟩⟩ (hA.setO (by omega))
  · have e1 := A1.obj σ.no (by simp; omega)
    have e2 := A1.obj (σ.no + 1) (by simp)
    simp at e1 e2
    have := A1.no
    simp at this
    have n1 : ¬ σ.no = σ1.no := by omega
    have n2 : ¬ σ.no + 1 = σ1.no := by omega
    have n3 : ¬ ob = σ1.no := by omega
    have o1' : σ.no + 1 + 1 ≤ ob := by simpa using o1
    simp [splice, e1]
    refine aloop (RPI σ.no σ1.no ob fsv m.funcs fs' m.memory m.main σ) (MU 4 (m.funcs.length + 1)) ⟨0, rows, by omega, by simp, by simp, by simp, by simp, by simp [n1, e1], by simp, by simp [n3, o3], by simpa using hrows, ?_, by simp [n2, e2], by simp; omega, by simp, by simp; omega⟩ fun a τ hI => ?_
    · exact (((Adds.refl σ).newO.newO.trans A1).newO).setO (by omega)
    obtain ⟨i, rows, hi, a1, a2, a3, a4, b1, b2, b3, hR, hA, b4, l1, l2, l3⟩ := hI
    by_cases hlt : i < m.funcs.length
    · have hlt' : (i : Int) < (m.funcs.length : Int) := by omega
      obtain ⟨b, rv, hrv, hix⟩ := hfs.at hlt
      have hmem := List.getElem_mem hlt
      obtain ⟨f', hf1, hf2⟩ := peepFs_get hp hlt
      obtain ⟨ok1, ok2, ok3, ok4, n, to, ok5, ok6⟩ := hok _ hmem
      have ok7 := hrl _ hmem
      have hd : m.funcs.drop i = m.funcs[i] :: m.funcs.drop (i + 1) := List.drop_eq_getElem_cons hlt
      generalize m.funcs[i] = f at *
      obtain ⟨pv, lv, tv, rfl, hpv, hlv, htv⟩ := hrv
      have t1 := htv.one
      have p1 := hpv.one
      have q1 := hlv.one
      have htl : FromV tv f.lists := by
        rcases htv with ⟨e, _⟩ | h
        · rw [e] at ok5; cases k <;> simp [plist] at ok5
        · exact h
      have t2 := htv.len
      have hw1 : IntKind.wrap .i64 ((f.lists.length : Int) - 1) = (f.lists.length : Int) - 1 := by rw [wrap_i64] <;> omega
      have hw2 : IntKind.wrap .i64 ((i : Int) + 1) = (i : Int) + 1 := by rw [wrap_i64] <;> omega
      simp [pc15_l1, a1, a3, a4, b1, f1, f2, hlt', hix, t1, t2, hw1, splice]
      refine list_top htl ok7 (by simp) (by simp) ok5 ok6 fun σ2 tv2 d1 d2 d3 d4 d5 d6 => ?_
      have c1 := d6.one
      simp at d1 d2
      have g1 : σ2.objs σ.no = some [fsv, .int .i64 m.memory, .int .i64 m.main] := (d3 σ.no (by simp; omega) (by omega)).trans (by simp; rw [if_neg (by omega)]; exact b1)
      have g2 : σ2.objs σ1.no = some [.slm ob 0 5 m.funcs.length, .int .i64 m.memory, .int .i64 m.main] := (d3 σ1.no (by simp; omega) (by omega)).trans (by simp; rw [if_neg (by omega)]; exact b2)
      have g3 : σ2.objs ob = some (flat rows) := (d3 ob (by simp; omega) (by omega)).trans (by simp; rw [if_neg (by omega)]; exact b3)
      have g4 : σ2.objs (σ.no + 1) = some [.nilsl, .int .i64 0, .int .i64 0] := (d3 (σ.no + 1) (by simp; omega) (by omega)).trans (by simp; rw [if_neg (by omega)]; exact b4)
      have h5 := rows_five hR
      have hrl' := hR.length
      have hfl := peepFs_length hp
      have hrn : rows.length = m.funcs.length := by rw [hrl']; simp; omega
      obtain ⟨row, hrow1, pv0, lv0, tv0, rfl, hpv0, hlv0, htv0⟩ := hR.get (i := i) (y := f) (by
        rw [List.getElem?_append_right (by simp; omega), hd]
        simp
        rw [show i - min i fs'.length = 0 by omega]
        rfl)
      have hset := flat_set5 tv2 h5 hrow1
      have hfl5 := flat_length 5 rows h5
      simp [d5, c1, a1, a3, a4, g2, g3, hlt', hw2, hset]
      have hpf : f' = { f with lists := to } := by
        simp [peepF, ok5] at hf1
        exact hf1.symm
      refine ⟨by rw [hfl5, hrn]; omega, ⟨i + 1, _, by omega, by simp [a1], by simp [a2], by simp [a3], by simp, ?_, ?_, by simp; rfl, ?_, ?_, ?_, by simp; omega, by simp; omega, by simp; omega⟩, ?_⟩
      · simp [g1]
        omega
      · simp [g2]
        omega
      · rw [← take_set hfl hd hf2]
        exact All2.set hR (by rw [hpf]; exact ⟨_, _, _, rfl, hpv0, hlv0, d6⟩) i
      · refine Adds.setO ⟨by have := hA.no; omega, by have := hA.nf; omega, fun o ho => ?_, fun g hg => ?_⟩ (by omega)
        · have := hA.no
          rw [d3 o (by simp; omega) (by omega)]
          simp
          rw [if_neg (by omega)]
          exact hA.obj o ho
        · have := hA.nf
          rw [d4 g (by simp; omega)]
          exact hA.fam g hg
      · simp [g4]
        omega
      · simp only [MU, a4]; simp; omega
    · have he : i = m.funcs.length := by omega
      have hlt' : ¬ (i : Int) < (m.funcs.length : Int) := by omega
      have hfl := peepFs_length hp
      rw [he] at hR
      simp at hR
      rw [List.take_of_length_le (by omega)] at hR
      have hrl' := hR.length
      have n4 : ¬ σ1.no = σ.no + 1 := by omega
      simp [pc15_l1, pc15_r1, a1, a2, a3, a4, b1, b2, b4, f1, f2, hlt', splice, n4]
      refine .inr ⟨ob, 5, rows, [.int .i64 m.memory, .int .i64 m.main], by simp [hrl', hfl], ?_, ?_, ?_⟩
      · simp [b3]
        omega
      · exact rows_five hR
      · refine h _ _ ⟨_, rfl, .inr ⟨_, _, rfl, hR⟩⟩ ?_
        have A2 := hA.setO (o := σ.no + 1) (cs := [.slm ob 0 5 m.funcs.length, .int .i64 m.memory, .int .i64 m.main]) (by omega)
        refine ⟨A2.no, A2.nf, fun o ho => ?_, A2.fam⟩
        simp only [AS.still, upd_at]
        rw [if_neg (by omega)]
        exact A2.obj o ho
end Go.Proofs.YthifgodgfhbnfaaDoor.Rf
set_option linter.unusedSimpArgs false
set_option linter.unusedVariables false
namespace Go.Proofs.YthifgodgfhbnfaaDoor
open Go Go.Abs
theorem Al.ME.keep {τ τ' : AS} {base : Nat} {v : AV} {m : M} (h : Al.ME τ base v m) (A : Adds τ τ') : Al.ME τ' base v m := by
  obtain ⟨fv, rfl, ho⟩ := h
  refine ⟨fv, rfl, ?_⟩
  rcases ho with ho | ⟨g, rows, ps, rfl, h1, h2, h3, h4, h5, h6⟩
  · exact .inl ho
  · refine .inr ⟨g, rows, ps, rfl, h1, Nat.lt_of_lt_of_le h2 A.nf, (A.fam g h2).trans h3, h4, h5, h6.nd, fun x hx => ?_⟩
    obtain ⟨a, b, c, d⟩ := h6.each x hx
    exact ⟨a, Nat.lt_of_lt_of_le b A.nf, (A.fam x b).trans c, d⟩
theorem Al.ME.one {τ : AS} {base : Nat} {v : AV} {m : M} (h : Al.ME τ base v m) : ∃ fv, v = .agg [fv, .int .i64 m.memory, .int .i64 m.main] ∧ fv.known = true ∧ fv.one = true ∧ fv.cells = [fv] := by
  obtain ⟨fv, rfl, ho⟩ := h
  refine ⟨fv, rfl, ?_⟩
  rcases ho with ⟨_, rfl⟩ | ⟨g, rows, ps, rfl, _⟩ <;> simp
theorem All2.mem_right {α β : Type} {R : α → β → Prop} {xs : List α} {ys : List β} (h : All2 R xs ys) : ∀ y ∈ ys, ∃ x ∈ xs, R x y := by
  induction h with
  | nil => intro y hy; simp at hy
  | cons h r ih =>
    intro y hy
    rcases List.mem_cons.1 hy with rfl | hy
    · exact ⟨_, by simp, h⟩
    · obtain ⟨x, hx, hr⟩ := ih y hy
      exact ⟨x, by simp [hx], hr⟩
set_option maxRecDepth 20000 in
set_option maxHeartbeats 4000000 in
theorem peepMakes_calls {G : Env} (V : Vars G) {m : M} {mv : AV} {σ : AS} {R : Out → AS → Prop} (hz : σ.nf = 0) (hm : MV mv m) (hf : Fits m) (hn : Nums m) (h : ∀ σ', R (.ret (.bool true)) σ') : ACalls Tryd.prog G 3 [mv] σ R := by
  refine ACalls.newF (calls3 rfl ?_)
  have z1 : 0 < σ.newF.nf ∧ σ.newF.F 0 = .alive := by simp [hz]
  generalize σ.newF = σ0 at *
  clear hz
  obtain ⟨fv, rfl, hfs⟩ := hm
  have f1 := hfs.one
  have hm : MV (.agg [fv, .int .i64 m.memory, .int .i64 m.main]) m := ⟨fv, rfl, hfs⟩
  simp [pc3, f1]
  have hm1 : (σ0.newO [fv, AV.int IntKind.i64 m.memory, AV.int IntKind.i64 m.main]).objs σ0.no = some [fv, .int .i64 m.memory, .int .i64 m.main] := by simp
  have hno1 : (σ0.newO [fv, AV.int IntKind.i64 m.memory, AV.int IntKind.i64 m.main]).no = σ0.no + 1 := by simp
  have A1 : Adds σ0 (σ0.newO [fv, AV.int IntKind.i64 m.memory, AV.int IntKind.i64 m.main]) := (Adds.refl _).newO
  generalize σ0.newO [fv, AV.int IntKind.i64 m.memory, AV.int IntKind.i64 m.main] = σ1 at *
  have hml : σ0.no < σ1.no := by omega
  refine big_calls hm hf fun b σ2 hb A2 => ?_
  have hm2 := (A2.obj σ0.no hml).trans hm1
  cases b with
  | true =>
    simp
    refine known_calls fun σ3 A3 => ?_
    simp
    exact h _
  | false =>
  obtain ⟨b1, b2⟩ := hb rfl
  have sm : Small m := ⟨by omega, fun f hf => by have := (b2 f hf).params; omega, fun f hf => by have := (b2 f hf).locals; omega, fun f hf => by have := (b2 f hf).lists; omega, fun f hf l hl => by have := (b2 f hf).rows l hl; omega, hn⟩
  simp [hm2, f1]
  refine check_calls V sm hm fun σ3 A3 => ?_
  have hm3 := (A3.obj σ0.no (Nat.lt_of_lt_of_le hml A2.no)).trans hm2
  have hl3 : σ0.no < σ3.no := Nat.lt_of_lt_of_le hml (A2.trans A3).no
  by_cases he : errOf (checkE m) = 0
  · have hck := check_ok he
    have hv := checkE_functions hck
    obtain ⟨fs', hp, hless⟩ := peepFs_less 300 m.funcs fun f hf => ⟨functionE_lists (hv f hf), (b2 f hf).lists⟩
    have hll := hless.length
    have fok : ∀ f ∈ m.funcs, FOk 300 f := fun f hf => by
      have q := b2 f hf
      obtain ⟨n, to, e, e1, _, _⟩ := peep_lists (functionE_lists (hv f hf)) 300 q.lists
      have := q.lists
      exact ⟨by have := q.params; omega, by have := q.locals; omega, fun ws hw => by have := q.rows ws hw; omega, by omega, n, to, e, by omega⟩
    have sz : ∀ f ∈ m.funcs, Al.SzE f := fun f hf => ⟨by have := (b2 f hf).params; omega, by have := (b2 f hf).locals; omega, by have := (b2 f hf).lists; omega, fun r hr => by have := (b2 f hf).rows r hr; omega⟩
    have sz' : ∀ f' ∈ fs', Al.SzE f' := fun f' hf' => by
      obtain ⟨f, hf, hl⟩ := hless.mem_right f' hf'
      have q := b2 f hf
      have q1 := hl.lists
      have q2 := q.lists
      have q3 := q.params
      have q4 := q.locals
      refine ⟨by rw [hl.params]; omega, by rw [hl.locals]; omega, by omega, fun r hr => ?_⟩
      have := sumC_mem hr
      have := hl.size
      have := sumC_bound q.rows
      have : f.lists.length * 3000 ≤ 900000 := by omega
      omega
    simp [he, hm3, f1]
    refine copyM_calls hm (by omega) (fun f hf => by have := (b2 f hf).params; omega) (fun f hf => by have := (b2 f hf).locals; omega) (fun f hf => by have := (b2 f hf).lists; omega) (fun f hf r hr => by have := (b2 f hf).rows r hr; omega) fun cv σ4 hcv A4 => ?_
    have hcv0 := hcv
    obtain ⟨cfv, rfl, hcfs⟩ := hcv
    have c1 := hcfs.one
    have hm4 := (A4.obj σ0.no hl3).trans hm3
    have hn4 := A4.no
    have hne : σ0.no ≠ σ4.no := by omega
    simp [splice, c1]
    have hm5 : ((σ4.newO [AV.nilsl, AV.int IntKind.i64 0, AV.int IntKind.i64 0]).setO σ4.no [cfv, AV.int IntKind.i64 m.memory, AV.int IntKind.i64 m.main]).objs σ0.no = some [fv, .int .i64 m.memory, .int .i64 m.main] := by simp [hne, hm4]
    have hp5 : ((σ4.newO [AV.nilsl, AV.int IntKind.i64 0, AV.int IntKind.i64 0]).setO σ4.no [cfv, AV.int IntKind.i64 m.memory, AV.int IntKind.i64 m.main]).objs σ4.no = some [cfv, .int .i64 m.memory, .int .i64 m.main] := by simp
    have hn5 : ((σ4.newO [AV.nilsl, AV.int IntKind.i64 0, AV.int IntKind.i64 0]).setO σ4.no [cfv, AV.int IntKind.i64 m.memory, AV.int IntKind.i64 m.main]).no = σ4.no + 1 := by simp
    have A5 : Adds σ0 ((σ4.newO [AV.nilsl, AV.int IntKind.i64 0, AV.int IntKind.i64 0]).setO σ4.no [cfv, AV.int IntKind.i64 m.memory, AV.int IntKind.i64 m.main]) := (((A1.trans A2).trans A3).trans A4).newO.setO (by omega)
    generalize (σ4.newO [AV.nilsl, AV.int IntKind.i64 0, AV.int IntKind.i64 0]).setO σ4.no [cfv, AV.int IntKind.i64 m.memory, AV.int IntKind.i64 m.main] = σ5 at *
    have z5 : 0 < σ5.nf ∧ σ5.F 0 = .alive := ⟨by have := A5.nf; omega, (A5.fam 0 z1.1).trans z1.2⟩
    have hlm : σ0.no < σ5.no := by omega
    have hlc : σ4.no < σ5.no := by omega
    generalize σ0.no = mb at *
    generalize σ4.no = cb at *
    simp [hp5, c1]
    refine Al.peep_calls hcv0 (by omega) fok z5 hp fun av σ6 hav A6 => ?_
    have hav0 := hav
    obtain ⟨afv, rfl, a1⟩ := hav.one
    have z6 : 0 < σ6.nf ∧ σ6.F 0 = .alive := ⟨by have := A6.nf; omega, (A6.fam 0 z5.1).trans z5.2⟩
    have hn6 := A6.no
    have hm6 := (A6.obj mb hlm).trans hm5
    have hp6 := (A6.obj cb hlc).trans hp5
    have n61 : ¬ mb = σ6.no := by omega
    have n62 : ¬ cb = σ6.no := by omega
    have n63 : ¬ σ6.no = mb := by omega
    simp [splice, a1, n61, n62, hm6, f1]
    have hm7 : ((σ6.newO [AV.nilsl, AV.int IntKind.i64 0, AV.int IntKind.i64 0]).setO σ6.no [afv, AV.int IntKind.i64 m.memory, AV.int IntKind.i64 m.main]).objs mb = some [fv, .int .i64 m.memory, .int .i64 m.main] := by simp [n61, hm6]
    have hp7 : ((σ6.newO [AV.nilsl, AV.int IntKind.i64 0, AV.int IntKind.i64 0]).setO σ6.no [afv, AV.int IntKind.i64 m.memory, AV.int IntKind.i64 m.main]).objs cb = some [cfv, .int .i64 m.memory, .int .i64 m.main] := by simp [n62, hp6]
    have ha7 : ((σ6.newO [AV.nilsl, AV.int IntKind.i64 0, AV.int IntKind.i64 0]).setO σ6.no [afv, AV.int IntKind.i64 m.memory, AV.int IntKind.i64 m.main]).objs σ6.no = some [afv, .int .i64 m.memory, .int .i64 m.main] := by simp
    have hn7 : ((σ6.newO [AV.nilsl, AV.int IntKind.i64 0, AV.int IntKind.i64 0]).setO σ6.no [afv, AV.int IntKind.i64 m.memory, AV.int IntKind.i64 m.main]).no = σ6.no + 1 := by simp
    have A7 : Adds σ6 ((σ6.newO [AV.nilsl, AV.int IntKind.i64 0, AV.int IntKind.i64 0]).setO σ6.no [afv, AV.int IntKind.i64 m.memory, AV.int IntKind.i64 m.main]) := (Adds.refl _).newO.setO (Nat.le_refl _)
    generalize (σ6.newO [AV.nilsl, AV.int IntKind.i64 0, AV.int IntKind.i64 0]).setO σ6.no [afv, AV.int IntKind.i64 m.memory, AV.int IntKind.i64 m.main] = σ7 at *
    refine Rf.peep_calls hm (by omega) fok (fun f hf r hr => by have := (b2 f hf).rows r hr; omega) hp fun rv σ8 hrv A8 => ?_
    have hrv0 := hrv
    obtain ⟨rfv, rfl, hrfs⟩ := hrv
    have r1 := hrfs.one
    have hm8 := (A8.obj mb (by omega)).trans hm7
    have hp8 := (A8.obj cb (by omega)).trans hp7
    have ha8 := (A8.obj σ6.no (by omega)).trans ha7
    have hn8 := A8.no
    have z8 : 0 < σ8.nf ∧ σ8.F 0 = .alive := ⟨by have := A7.nf; have := A8.nf; omega, ((A7.trans A8).fam 0 z6.1).trans z6.2⟩
    have hav8 := hav0.keep (A7.trans A8)
    simp [splice, r1, ha8, a1]
    refine Al.eqM_calls (m := ⟨fs', m.memory, m.main⟩) (Al.m_e z8 hav8) (Al.m_o hrv0) (show fs'.length ≤ 2 ^ 40 by omega) sz' fun σ9 A9 => ?_
    have hm9 := (A9.obj mb (by omega)).trans hm8
    have hp9 := (A9.obj cb (by omega)).trans hp8
    have ha9 := (A9.obj σ6.no (by omega)).trans ha8
    have hn9 := A9.no
    have z9 : 0 < σ9.nf ∧ σ9.F 0 = .alive := ⟨by have := A9.nf; omega, (A9.fam 0 z8.1).trans z8.2⟩
    have hav9 := hav8.keep A9
    simp [ha9, a1]
    refine Al.spoilM_calls hav9 z5.1 (show fs'.length ≤ 2 ^ 30 by omega) (fun f hf => (sz' f hf).params) (fun f hf => (sz' f hf).locals) (fun f hf => (sz' f hf).lists) (fun f hf r hr => by have := (sz' f hf).rows r hr; omega) ⟨z9.1, by rw [z9.2]; simp⟩ fun σ10 Sp => ?_
    have hm10 := (Sp.obj mb (by omega)).trans hm9
    have hp10 := (Sp.obj cb (by omega)).trans hp9
    simp [hm10, hp10, f1, c1]
    refine Al.eqM_calls (Al.m_o hcv0) (Al.m_o hm) (by omega) sz fun σ11 A11 => ?_
    simp
    refine known_calls fun σ12 A12 => ?_
    simp
    exact h _
  · simp [he]
    refine known_calls fun σ4 A4 => ?_
    simp
    exact h _
end Go.Proofs.YthifgodgfhbnfaaDoor
