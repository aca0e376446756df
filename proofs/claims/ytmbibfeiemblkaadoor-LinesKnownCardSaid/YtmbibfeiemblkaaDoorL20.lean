/- Part of the proofs of layer 26's statements: L20 (what the functions of lines and of its reference do, under the conditions that each theorem names). -/
import Derived.Test.YtmbibfeiemblkaaDoorL16
set_option linter.unusedSimpArgs false
set_option linter.unusedVariables false
namespace Go.Proofs.YtmbibfeiemblkaaDoor
open Go Go.Abs
def AT : List AV := [.int .i64 (-5), .int .i64 0, .int .i64 2, .int .i64 3, .int .i64 4, .int .i64 99]
def pairA (x y : Int) : AV := .sl (.stat true) 1 [.int .i64 x, .int .i64 y]
def WT : List AV := [pairA 1 1, pairA 1 1, pairA 1 3, pairA 2 1, pairA 2 2, pairA 2 2]
theorem AT_WT (i : Nat) (h : i < 6) : AT[i]? = some (.int .i64 ([-5, 0, 2, 3, 4, 99].getD i 0)) ∧ WT[i]? = some (pairA ((whereP abc ([-5, 0, 2, 3, 4, 99].getD i 0)).1 : Int) ((whereP abc ([-5, 0, 2, 3, 4, 99].getD i 0)).2 : Int)) := by
  match i, h with
  | 0, _ => rw [show whereP abc (([-5, 0, 2, 3, 4, 99] : List Int).getD 0 0) = (1, 1) from by decide]; exact ⟨rfl, rfl⟩
  | 1, _ => rw [show whereP abc (([-5, 0, 2, 3, 4, 99] : List Int).getD 1 0) = (1, 1) from by decide]; exact ⟨rfl, rfl⟩
  | 2, _ => rw [show whereP abc (([-5, 0, 2, 3, 4, 99] : List Int).getD 2 0) = (1, 3) from by decide]; exact ⟨rfl, rfl⟩
  | 3, _ => rw [show whereP abc (([-5, 0, 2, 3, 4, 99] : List Int).getD 3 0) = (2, 1) from by decide]; exact ⟨rfl, rfl⟩
  | 4, _ => rw [show whereP abc (([-5, 0, 2, 3, 4, 99] : List Int).getD 4 0) = (2, 2) from by decide]; exact ⟨rfl, rfl⟩
  | 5, _ => rw [show whereP abc (([-5, 0, 2, 3, 4, 99] : List Int).getD 5 0) = (2, 2) from by decide]; exact ⟨rfl, rfl⟩
theorem reasons_differ : ∀ i, i < 15 → ∀ k, k < i → reasonP (i : Nat) ≠ reasonP (k : Nat) := by decide
theorem dig3 : Lib.itoa 3 = [51] := by rw [show (3 : Int) = ((3 : Nat) : Int) from rfl, itoa_nat, Lib.decDigits, dif_pos (by omega)]; rfl
theorem wideT : tellP [9, 97, 128] 0 2 = [49, 58, 51, 58, 32, 117, 110, 107, 110, 111, 119, 110, 10, 63, 97, 63, 10, 32, 32, 94, 10] := by
  unfold tellP
  rw [show whereP [9, 97, 128] 2 = (1, 3) from by decide]
  rw [show (((1, 3) : Nat × Nat).1 : Int) = 1 from rfl, show (((1, 3) : Nat × Nat).2 : Int) = 3 from rfl, dig1, dig3]
  decide
def KA (a : Nat → AV) (_ : AS) : Prop := ∃ i : Nat, i ≤ 6 ∧ a 1 = .str abc ∧ a 2 = .sl (.stat true) 1 AT ∧ a 3 = .sl (.stat true) 1 WT ∧ a 4 = .int .i64 (i : Int)
def KF (a : Nat → AV) : Prop := a 8 = .bool false ∧ a 10 = .bool false ∧ a 11 = .int .i64 4 ∧ a 12 = .bool true
def KO (a : Nat → AV) (_ : AS) : Prop := ∃ i : Nat, 1 ≤ i ∧ i ≤ 15 ∧ KF a ∧ a 13 = .int .i64 ((i : Int) - 1) ∧ a 14 = .int .i64 (i : Int)
def KN (i : Nat) (a : Nat → AV) (_ : AS) : Prop := ∃ k : Nat, k ≤ i ∧ KF a ∧ a 13 = .int .i64 ((i : Int) - 1) ∧ a 14 = .int .i64 (i : Int) ∧ a 15 = .int .i64 (k : Int)
theorem linesKnown_calls {m : Int} {σ : AS} {R : Out → AS → Prop} (h : ∀ σ', R (.ret (.bool true)) σ') : ACalls Tryd.prog (GL m) 6 [] σ R := by
  refine calls6 rfl ?_
  have p1 : placeP abc 1 4 = (0, false) := by decide
  have p2 : placeP abc 3 1 = (0, false) := by decide
  have p3 : placeP abc 2 2 = (4, true) := by decide
  simp [pc6]
  refine aloop KA (MU 4 7) ⟨0, by omega, by simp [abc], by simp [AT], by simp [WT, pairA], by simp⟩ fun a τ hI => ?_
  obtain ⟨i, hi, a1, a2, a3, a4⟩ := hI
  by_cases hlt : i < 6
  · obtain ⟨q1, q2⟩ := AT_WT i hlt
    generalize ([-5, 0, 2, 3, 4, 99] : List Int).getD i 0 = z at q1 q2
    have hlen : AT.length = 6 := rfl
    have hw3 : IntKind.wrap .i64 ((i : Int) + 1) = ((i + 1 : Nat) : Int) := by rw [wrap_i64] <;> omega
    have hlt' : (i : Int) < 6 := by omega
    simp [pc6_l1, a1, a2, a3, a4, hlen, hlt', q1, q2, hw3]
    refine where_calls (t := abc) (by decide) fun σ1 A1 => ?_
    simp [a1, a2, a3, a4, hlen, hlt, q1, q2, hw3, pairA]
    refine ⟨⟨i + 1, by omega, by simp [a1], by simp [a2], by simp [a3], by simp⟩, ?_⟩
    simp [MU, a4]; omega
  · have he : i = 6 := by omega
    subst he
    have hlen : AT.length = 6 := rfl
    simp [pc6_l1, pc6_r4, a1, a2, a3, a4, hlen]
    refine place_calls (GL_vars m) (t := abc) (by decide) fun σ1 A1 => ?_
    rw [p1]
    simp [a1]
    refine place_calls (GL_vars m) (t := abc) (by decide) fun σ2 A2 => ?_
    rw [p2]
    simp [a1]
    refine place_calls (GL_vars m) (t := abc) (by decide) fun σ3 A3 => ?_
    rw [p3]
    simp
    refine aloop KO (MU 14 16) ⟨1, by omega, by omega, ⟨by simp, by simp, by simp, by simp⟩, by simp, by simp⟩ fun a τ hI => ?_
    obtain ⟨i, hi1, hi2, ⟨a8, a10, a11, a12⟩, a13, a14⟩ := hI
    by_cases hlt : i < 15
    · have hlt' : (i : Int) < 15 := by omega
      simp [pc6_l3, a14, hlt']
      refine aloop (KN i) (MU 15 16) ⟨0, by omega, ⟨by simp [a8], by simp [a10], by simp [a11], by simp [a12]⟩, by simp [a13], by simp [a14], by simp⟩ fun b ρ hJ => ?_
      obtain ⟨k, hk, ⟨b8, b10, b11, b12⟩, b13, b14, b15⟩ := hJ
      by_cases hki : k < i
      · have hki' : (k : Int) < i := by omega
        have hne := reasons_differ i hlt k hki
        have hw3 : IntKind.wrap .i64 ((k : Int) + 1) = ((k + 1 : Nat) : Int) := by rw [wrap_i64] <;> omega
        simp [pc6_l2, b14, b15, hki]
        refine reason_calls (GL_vars m) ?_
        simp [b14, b15]
        refine reason_calls (GL_vars m) ?_
        simp [b14, b15, hne, hw3]
        refine ⟨⟨k + 1, by omega, ⟨by simp [b8], by simp [b10], by simp [b11], by simp [b12]⟩, by simp [b13], by simp [b14], by simp⟩, ?_⟩
        simp [MU, b15]; omega
      · have hw3 : IntKind.wrap .i64 ((i : Int) - 1 + 1) = (i : Int) := by rw [wrap_i64] <;> omega
        have hw4 : IntKind.wrap .i64 ((i : Int) + 1) = ((i + 1 : Nat) : Int) := by rw [wrap_i64] <;> omega
        have hw5 : IntKind.wrap .i64 (i : Int) = (i : Int) := by rw [wrap_i64] <;> omega
        simp [pc6_l2, pc6_r1, pc6_r2, b13, b14, b15, hki, hw3, hw4, hw5]
        refine ⟨⟨i + 1, by omega, by omega, ⟨by simp [b8], by simp [b10], by simp [b11], by simp [b12]⟩, by simp, by simp⟩, ?_⟩
        simp [MU, a14]; omega
    · have he : i = 15 := by omega
      subst he
      have u0 : reasonP 0 = unknown := by decide
      have u15 : reasonP 15 = unknown := by decide
      have u1 : reasonP (-1) = unknown := by decide
      have hb : (begins []).length = 1 := rfl
      simp [pc6_l3, pc6_r3, a8, a10, a11, a12, a13, a14]
      refine reason_calls (GL_vars m) ?_
      simp [u0, unknown]
      refine reason_calls (GL_vars m) ?_
      simp [u15, unknown]
      refine reason_calls (GL_vars m) ?_
      simp [u1, unknown, splice]
      refine tell_calls (t := [9, 97, 128]) (by decide) 0 2 ?_
      rw [wideT]
      simp
      refine table_calls (t := []) (by decide) fun x σ4 _ ht A4 => ?_
      simp
      refine len_calls ht ?_
      simp [hb]
      refine known_calls fun σ5 A5 => ?_
      simp
      exact h _
end Go.Proofs.YtmbibfeiemblkaaDoor
