/- Part of the proofs of layer 22's statements: P1 (what peep's functions do, in lists of instructions, under the conditions that each theorem names). -/
import Derived.Test.YthifgodgfhbnfaaPeepDefs
set_option linter.unusedSimpArgs false
set_option linter.unusedVariables false
namespace Go.Proofs.Ythifgodgfhbnfaa
open Go Go.Abs
theorem leaves_calls {G : Nat → AV} {σ : AS} {w : W} {R : Out → AS → Prop} (h : R (.ret (.bool (leavesW w))) (σ.newO w.cs)) : ACalls Try.prog G 16 [w.av] σ R := by
  refine calls16 rfl ?_
  by_cases h1 : w.op = 14
  · rw [show leavesW w = true by simp [leavesW, h1]] at h
    simpa [pc16, W.av, W.cs, h1] using h
  by_cases h2 : w.op = 16
  · rw [show leavesW w = true by simp [leavesW, h2]] at h
    simpa [pc16, W.av, W.cs, h2] using h
  by_cases h3 : w.op = 17
  · rw [show leavesW w = true by simp [leavesW, h3]] at h
    simpa [pc16, W.av, W.cs, h3] using h
  rw [show leavesW w = false by simp [leavesW, h1, h2, h3]] at h
  simpa [pc16, W.av, W.cs, h1, h2, h3] using h

/-- the list-maker's contract, for what it may give -/
def RecOk (G : Nat → AV) (x : Nat) (fv : AV) (rec : Rec) : Prop := ∀ (σ : AS) (at_ : Int) (to : To) (n : Int) (to' : To) (R : Out → AS → Prop),
  Maker σ x fv to → rec at_ to = some (n, to') → to'.length ≤ 2 ^ 30 → (∀ σ', Keep x σ σ' → Maker σ' x fv to' → R (.ret (.int .i64 n)) σ') → ACalls Try.prog G 14 [.ptr x 0, .int .i64 at_] σ R
def Grows (rec : Rec) : Prop := ∀ at_ to n to', rec at_ to = some (n, to') → to.length ≤ to'.length

theorem chosen_calls {G : Nat → AV} {x fv rec} (IH : RecOk G x fv rec) {σ : AS} {w : W} {n : Int} {to l to'} {R : Out → AS → Prop} (hm : Maker σ x fv to) (hp : pchosen rec n w to = some (l, to')) (hb : to'.length ≤ 2 ^ 30)
    (h : ∀ σ' v, Keep x σ σ' → Maker σ' x fv to' → RepL v l → R (.ret v) σ') : ACalls Try.prog G 19 [.ptr x 0, .int .i64 n, w.av] σ R := by
  refine calls19 rfl ?_
  unfold pchosen at hp
  have K0 : Keep x σ (σ.newO w.cs) := .newO hm.1
  have M0 : Maker (σ.newO w.cs) x fv to := hm.mono_newO
  by_cases h0 : n = 0
  · by_cases h1 : w.other < 0
    · simp [h0, h1] at hp
      obtain ⟨rfl, rfl⟩ := hp
      have := h _ .nilsl K0 M0 (.inl ⟨rfl, rfl⟩)
      simpa [pc19, W.av, W.cs, h0, h1] using this
    · simp only [h0, h1, if_true, if_false] at hp
      split at hp
      · cases hp
      rename_i b to1 hr
      cases hp
      simp [pc19, W.av, W.cs, h0, h1]
      refine IH _ _ _ _ _ _ M0 hr hb fun σ' hk hm' => ?_
      simp [splice]
      exact h _ _ (K0.trans hk) hm' (.inr ⟨true, rfl⟩)
  · by_cases h1 : w.body < 0
    · simp [h0, h1] at hp
      obtain ⟨rfl, rfl⟩ := hp
      have := h _ .nilsl K0 M0 (.inl ⟨rfl, rfl⟩)
      simpa [pc19, W.av, W.cs, h0, h1] using this
    · simp only [h0, h1, if_false] at hp
      split at hp
      · cases hp
      rename_i b to1 hr
      cases hp
      simp [pc19, W.av, W.cs, h0, h1]
      refine IH _ _ _ _ _ _ M0 hr hb fun σ' hk hm' => ?_
      simp [splice]
      exact h _ _ (K0.trans hk) hm' (.inr ⟨true, rfl⟩)
end Go.Proofs.Ythifgodgfhbnfaa
