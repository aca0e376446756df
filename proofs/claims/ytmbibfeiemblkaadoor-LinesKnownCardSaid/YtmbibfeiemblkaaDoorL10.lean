/- Part of the proofs of layer 26's statements: L10 (what the functions of lines and of its reference do, under the conditions that each theorem names). -/
import Derived.Test.YtmbibfeiemblkaaDoorL9
set_option linter.unusedSimpArgs false
set_option linter.unusedVariables false
namespace Go.Proofs.YtmbibfeiemblkaaDoor
open Go Go.Abs
theorem beginsFrom_take (k p : Nat) (t : List UInt8) : (beginsFrom k t).takeWhile (· ≤ k + p) = beginsFrom k (t.take p) := by
  induction t generalizing k p with
  | nil => simp [beginsFrom]
  | cons c t ih =>
    cases p with
    | zero =>
      simp only [List.take_zero, beginsFrom]
      split
      · simp
      · cases h : beginsFrom (k + 1) t with
        | nil => simp
        | cons x l =>
          have := beginsFrom_gt (k + 1) t x (by rw [h]; simp)
          rw [List.takeWhile_cons, if_neg (by simp; omega)]
    | succ p =>
      simp only [List.take_succ_cons, beginsFrom]
      have e : k + (p + 1) = k + 1 + p := by omega
      rw [e]
      split
      · simp only [List.takeWhile_cons]
        rw [if_pos (by simp), ih]
      · exact ih _ _
theorem begins_take (t : List UInt8) (p : Nat) : (begins t).takeWhile (· ≤ p) = begins (t.take p) := by
  unfold begins
  simp only [List.takeWhile_cons, Nat.zero_le, decide_true, if_true]
  have := beginsFrom_take 0 p t
  simp only [Nat.zero_add] at this
  rw [this]
theorem lineOf_eq (t p) : lineOf t p = (begins (t.take p)).length := by unfold lineOf; rw [begins_take]
theorem begins_ne (t) : begins t ≠ [] := by simp [begins]
/-- where the line of a place begins -/
theorem beginOf_eq (t p) : beginOf t (lineOf t p) = (begins (t.take p)).getLast (begins_ne _) := by
  have h := begins_take t p
  have hp : begins (t.take p) <+: begins t := by rw [← h]; exact List.takeWhile_prefix _
  have hl : 0 < (begins (t.take p)).length := by simp [begins]
  rw [lineOf_eq, List.getLast_eq_getElem]
  unfold beginOf
  rw [List.getD_eq_getElem?_getD]
  have hlt : (begins (t.take p)).length - 1 < (begins (t.take p)).length := by omega
  have := hp.getElem hlt
  rw [List.getElem?_eq_getElem (by have := hp.length_le; omega)]
  simp only [Option.getD_some]
  exact this.symm
theorem begins_snoc (l : List UInt8) (c : UInt8) : begins (l ++ [c]) = begins l ++ if c = 10 then [l.length + 1] else [] := by
  unfold begins; rw [beginsFrom_snoc]; simp
def wp (t : List UInt8) (p : Nat) : Nat × Nat := (lineOf t p, p - beginOf t (lineOf t p) + 1)
theorem begins_last_le (t : List UInt8) : (begins t).getLast (begins_ne _) ≤ t.length := by
  have h := List.getLast_mem (begins_ne t)
  rcases List.mem_cons.1 h with h0 | h0
  · omega
  · have := beginsFrom_le 0 t _ h0; omega
theorem wp_zero (t) : wp t 0 = (1, 1) := by
  unfold wp; rw [beginOf_eq, lineOf_eq]; simp [begins, beginsFrom]
theorem wp_succ (t : List UInt8) (p : Nat) (h : p < t.length) : wp t (p + 1) = if t[p] = 10 then ((wp t p).1 + 1, 1) else ((wp t p).1, (wp t p).2 + 1) := by
  have e : t.take (p + 1) = t.take p ++ [t[p]] := by simp
  have hlast := begins_last_le (t.take p)
  unfold wp
  have e2 : begins (t.take (p + 1)) = begins (t.take p) ++ if t[p] = 10 then [p + 1] else [] := by
    rw [e, begins_snoc]; simp [Nat.min_eq_left (Nat.le_of_lt h)]
  have hl : (begins (t.take (p + 1))).getLast (begins_ne _) = if t[p] = 10 then p + 1 else (begins (t.take p)).getLast (begins_ne _) := by
    simp only [e2]
    split <;> simp
  rw [beginOf_eq, beginOf_eq, lineOf_eq, lineOf_eq, hl, e2]
  split
  · simp
  · simp at hlast ⊢
    omega

theorem whereP_wp (t : List UInt8) (a : Int) : whereP t a = wp t (clamp t a) := rfl
theorem wp_le (t : List UInt8) (p : Nat) (h : p ≤ t.length) : (wp t p).1 ≤ p + 1 ∧ (wp t p).2 ≤ p + 1 := by
  induction p with
  | zero => simp [wp_zero]
  | succ p ih =>
    have := ih (by omega)
    rw [wp_succ t p (by omega)]
    split
    · simp; omega
    · simp; omega
def WI (t : List UInt8) (at_ : Int) (σ : AS) (a : Nat → AV) (τ : AS) : Prop := ∃ i : Nat, i ≤ clamp t at_ ∧ a 0 = .str t ∧ a 1 = .int .i64 at_ ∧ a 6 = .int .i64 ((wp t i).1 : Int) ∧ a 7 = .int .i64 ((wp t i).2 : Int) ∧ a 8 = .int .i64 (i : Int) ∧ τ = σ
/-- how far a counter is from its end -/
def MU (r n : Nat) (a : Nat → AV) (_ : AS) : Nat := match a r with | .int _ i => n - i.toNat | _ => 0
theorem refWhere_calls {G : Env} {t : List UInt8} {at_ : Int} {σ : AS} {R : Out → AS → Prop} (hl : t.length ≤ 2 ^ 30) (h : R (.ret (.tuple [.int .i64 ((whereP t at_).1 : Int), .int .i64 ((whereP t at_).2 : Int)])) σ) : ACalls Tryd.prog G 13 [.str t, .int .i64 at_] σ R := by
  refine calls13 rfl ?_
  have hcl := clamp_le t at_
  have hcd : clamp t at_ = (max 0 (min at_ (t.length : Int))).toNat := rfl
  simp [pc13]
  refine aloop (WI t at_ σ) (MU 8 t.length) ⟨0, Nat.zero_le _, by simp, by simp, by simp [wp_zero], by simp [wp_zero], by simp, rfl⟩ fun a τ hI => ?_
  obtain ⟨i, hi, a0, a1, a6, a7, a8, rfl⟩ := hI
  obtain ⟨w1, w2⟩ := wp_le t i (by omega)
  by_cases h1 : i < t.length
  · by_cases h2 : (i : Int) < at_
    · have hw1 : IntKind.wrap .i64 (((wp t i).2 : Int) + 1) = (((wp t i).2 + 1 : Nat) : Int) := by rw [wrap_i64] <;> omega
      have hw2 : IntKind.wrap .i64 (((wp t i).1 : Int) + 1) = (((wp t i).1 + 1 : Nat) : Int) := by rw [wrap_i64] <;> omega
      have hw3 : IntKind.wrap .i64 ((i : Int) + 1) = ((i + 1 : Nat) : Int) := by rw [wrap_i64] <;> omega
      have hs := wp_succ t i h1
      by_cases hc : t[i] = 10
      · have hc' : (t[i].toNat : Int) = 10 := by rw [hc]; rfl
        rw [if_pos hc] at hs
        simp [pc13_l1, a0, a1, a6, a7, a8, h1, h2, hw1, hw2, hw3, hc']
        refine ⟨⟨i + 1, by omega, by simp [a0], by simp [a1], by simp [hs, a6], by simp [hs, a7], by simp, rfl⟩, ?_⟩
        simp [MU, a8]; omega
      · have hc' : ¬ (t[i].toNat : Int) = 10 := fun e => hc ((byte_eq _ 10).1 e)
        rw [if_neg hc] at hs
        simp [pc13_l1, a0, a1, a6, a7, a8, h1, h2, hw1, hw2, hw3, hc']
        refine ⟨⟨i + 1, by omega, by simp [a0], by simp [a1], by simp [hs, a6], by simp [hs, a7], by simp, rfl⟩, ?_⟩
        simp [MU, a8]; omega
    · have he : i = clamp t at_ := by omega
      subst he
      simp [pc13_l1, pc13_r1, a0, a1, a6, a7, a8, h1, h2]
      exact h
  · have he : i = clamp t at_ := by omega
    subst he
    simp [pc13_l1, pc13_r1, a0, a1, a6, a7, a8, h1]
    exact h
end Go.Proofs.YtmbibfeiemblkaaDoor
