/- Part of the proofs of layer 26's statements: L14 (what the functions of lines and of its reference do, under the conditions that each theorem names). -/
import Derived.Test.YtmbibfeiemblkaaDoorL13
set_option linter.unusedSimpArgs false
set_option linter.unusedVariables false
namespace Go.Proofs.YtmbibfeiemblkaaDoor
open Go Go.Abs
def abc : List UInt8 := [97, 98, 10, 99]
theorem abc3 : whereP abc 3 = (2, 1) := by decide
theorem abc2 : whereP abc 2 = (1, 3) := by decide
theorem dig1 : Lib.itoa 1 = [49] := by rw [show (1 : Int) = ((1 : Nat) : Int) from rfl, itoa_nat, Lib.decDigits, dif_pos (by omega)]; rfl
theorem dig2 : Lib.itoa 2 = [50] := by rw [show (2 : Int) = ((2 : Nat) : Int) from rfl, itoa_nat, Lib.decDigits, dif_pos (by omega)]; rfl
theorem abcT : tellP abc 4 3 = [50, 58, 49, 58, 32, 116, 104, 105, 115, 32, 110, 97, 109, 101, 32, 109, 101, 97, 110, 115, 32, 110, 111, 116, 104, 105, 110, 103, 32, 104, 101, 114, 101, 10, 99, 10, 94, 10] := by
  unfold tellP
  rw [abc3]
  rw [show (((2, 1) : Nat × Nat).1 : Int) = 2 from rfl, show (((2, 1) : Nat × Nat).2 : Int) = 1 from rfl, dig1, dig2]
  decide
theorem known_calls {m : Int} {σ : AS} {R : Out → AS → Prop} (h : ∀ σ', Adds σ σ' → R (.ret (.bool true)) σ') : ACalls Tryd.prog (GL m) 7 [] σ R := by
  refine calls7 rfl ?_
  simp [pc7]
  refine where_calls (t := abc) (by decide) fun σ1 A1 => ?_
  rw [abc3]
  simp
  refine where_calls (t := abc) (by decide) fun σ2 A2 => ?_
  rw [abc2]
  simp [splice]
  refine tell_calls (t := abc) (by decide) 4 3 ?_
  rw [abcT]
  simp
  exact h _ (A1.trans A2)
end Go.Proofs.YtmbibfeiemblkaaDoor
