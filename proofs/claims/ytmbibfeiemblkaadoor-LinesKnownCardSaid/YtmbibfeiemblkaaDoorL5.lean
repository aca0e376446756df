/- Part of the proofs of layer 26's statements: L5 (what the functions of lines and of its reference do, under the conditions that each theorem names). -/
import Derived.Test.YtmbibfeiemblkaaDoorL4
set_option linter.unusedSimpArgs false
set_option linter.unusedVariables false
namespace Go.Proofs.YtmbibfeiemblkaaDoor
open Go Go.Abs
def unknown : List UInt8 := [117, 110, 107, 110, 111, 119, 110]
def reasonP (no : Int) : List UInt8 := if no < 1 ∨ 15 ≤ no then unknown else reasons.getD no.toNat []
theorem reason_calls {G : Env} (V : Vars G) {no : Int} {σ : AS} {R : Out → AS → Prop} (h : R (.ret (.str (reasonP no))) σ) : ACalls Tryd.prog G 19 [.int .i64 no] σ R := by
  refine calls19 rfl ?_
  have hg := V.reasons
  by_cases h1 : no < 1
  · have : reasonP no = unknown := by simp [reasonP, h1]
    rw [this] at h
    simp [pc19, h1]
    exact h
  · by_cases h2 : 15 ≤ no
    · have : reasonP no = unknown := by simp [reasonP, h2]
      rw [this] at h
      simp [pc19, h1, h2]
      exact h
    · have h3 : reasons[no.toNat]? = some (reasonP no) := by
        have hl : reasons.length = 15 := rfl
        simp only [reasonP, h1, h2, or_self, if_false]
        rw [List.getD_eq_getElem?_getD, List.getElem?_eq_getElem (by omega)]; rfl
      simp [pc19, h1, h2, hg, h3, fits]
      exact ⟨by omega, by omega, h⟩
end Go.Proofs.YtmbibfeiemblkaaDoor
