/- Part of the proofs of layer 22's statements: P10 (what peep's functions do, in lists of instructions, under the conditions that each theorem names). -/
import Derived.Test.YthifgodgfhbnfaaP9
set_option linter.unusedSimpArgs false
set_option linter.unusedVariables false
namespace Go.Proofs.Ythifgodgfhbnfaa
open Go Go.Abs
/-- a module of one function, as a value -/
theorem MV.single {v f x y} (h : MV v ⟨[f], x, y⟩) : ∃ b pv lv tv, v = .agg [.sl (.stat b) 5 [.agg [.str f.name, pv, lv, .int .i64 f.type, tv]], .int .i64 x, .int .i64 y] ∧ ListsV tv f.lists := by
  obtain ⟨fv, rfl, h⟩ := h
  rcases h with ⟨h, _⟩ | ⟨b, rows, rfl, hr⟩
  · simp at h
  · cases hr with
    | cons h r =>
      cases r
      obtain ⟨pv, lv, tv, rfl, _, _, h⟩ := h
      exact ⟨b, pv, lv, tv, rfl, h⟩
theorem ofLists_ok {k : Nat} {n : Int} {frm to : To} (hp : plist frm k ((frm.length : Int) - 1) [] = some (n, to)) (h1 : ∀ ws ∈ frm, ws.length ≤ 2 ^ 30) (h2 : frm.length ≤ 2 ^ 30) (h3 : to.length ≤ 2 ^ 30) :
    (∀ f ∈ [mainF frm], FOk k f) ∧ peepFs k [mainF frm] = some [mainF to] := by
  constructor
  · intro f hf
    simp at hf
    subst hf
    exact ⟨by simp [mainF], by simp [mainF], h1, h2, n, to, hp, h3⟩
  · have : peepF k (mainF frm) = some (mainF to) := by
      unfold peepF
      show (match plist frm k ((frm.length : Int) - 1) [] with | none => none | some (_, to) => some { mainF frm with lists := to }) = _
      rw [hp]; rfl
    simp [peepFs, this]

theorem is_calls {G : Nat → AV} {k : Nat} {va vb : AV} {a b : List W} {n : Int} {to : To} {σ : AS} {R : Out → AS → Prop} (ha : RepL va a) (hb : RepL vb b) (h1 : a.length ≤ 2 ^ 30) (hp : plist [a] k 0 [] = some (n, to)) (h3 : to.length ≤ 2 ^ 30) (h4 : ∀ t ∈ to, t.length ≤ 2 ^ 30)
    (h : ∀ σ', Adds σ σ' → R (.ret (.bool (decide (to = [b])))) σ') : ACalls Try.prog G 4 [va, vb] σ R := by
  refine calls4 rfl ?_
  have hok := ofLists_ok (frm := [a]) hp (by simpa using h1) (by simp) h3
  have hva : va.known = true ∧ va.one = true ∧ va.cells = [va] := by
    rcases ha with ⟨_, rfl⟩ | ⟨b, rfl⟩ <;> simp
  simp [pc4, splice, hva]
  refine of_calls (to := [a]) ⟨true, [va], rfl, .cons ha .nil⟩ fun mv σ1 hmv A1 => ?_
  simp
  refine peep_calls hmv (by simp) hok.1 hok.2 fun mv' σ2 hmv' A2 => ?_
  obtain ⟨bb, pv, lv, tv, rfl, htv⟩ := hmv'.single
  have A : ∀ c1 c2, Adds σ ((σ2.newO c1).setO σ2.no c2) := fun _ _ => ((A1.trans A2).newO).setO (A1.trans A2).no
  simp only [mainF] at htv
  rcases htv with ⟨rfl, rfl⟩ | ⟨b2, rows, rfl, hrows⟩
  · simp at h
    simp [splice, mainF]
    exact h _ (A _ _)
  · have hl := hrows.length
    by_cases h1 : to.length = 1
    · match to, rows, hl, h1, hrows with
      | [t], [r], _, _, .cons hr .nil =>
        have e : decide ([t] = [b]) = decide (t = b) := by simp
        rw [e] at h
        have hr1 : r.known = true ∧ r.one = true ∧ r.cells = [r] := by
          rcases hr with ⟨_, rfl⟩ | ⟨b, rfl⟩ <;> simp
        simp [splice, mainF, hr1]
        refine same_calls hr.slw hb.slw (h4 t (by simp)) ?_
        simp
        exact h _ (A _ _)
    · have hne : ¬ to = [b] := fun e => h1 (by rw [e]; rfl)
      simp [hne] at h
      have hi : ¬ (to.length : Int) = 1 := by omega
      simp [splice, mainF, hl, hi]
      exact h _ (A _ _)

theorem known_calls {G : Nat → AV} {σ : AS} {R : Out → AS → Prop} (h : ∀ σ', Adds σ σ' → R (.ret (.bool true)) σ') : ACalls Try.prog G 13 [] σ R := by
  refine calls13 rfl ?_
  have hp : plist [[wO 2 0, wO 18 0, wN 1, wO 5 1, wO 3 0, wN 5]] 9 0 [] = some (0, [[wN 0, wO 3 0, wN 5]]) := by decide
  simp [pc13]
  refine get_calls fun σ1 A1 => ?_
  simp
  refine drop_calls fun σ2 A2 => ?_
  simp
  refine number_calls fun σ3 A3 => ?_
  simp
  refine eqz_calls fun σ4 A4 => ?_
  simp [splice]
  refine number_calls fun σ5 A5 => ?_
  simp [W.av, W.cs, wN, wO]
  refine number_calls fun σ6 A6 => ?_
  simp [W.av, W.cs, wN, wO, splice]
  refine number_calls fun σ7 A7 => ?_
  simp [W.av, W.cs, wN, wO]
  refine is_calls (a := [wO 2 0, wO 18 0, wN 1, wO 5 1, wO 3 0, wN 5]) (b := [wN 0, wO 3 0, wN 5]) (.inr ⟨true, rfl⟩) (.inr ⟨true, rfl⟩) (by decide) hp (by decide) (by decide) fun σ8 A8 => ?_
  simp
  exact h _ (((((((A1.trans A2).trans A3).trans A4).trans A5).trans A6).trans A7).trans A8)
end Go.Proofs.Ythifgodgfhbnfaa
