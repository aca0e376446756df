/- Part of the proofs of layer 26's statements: L17 (what the functions of lines and of its reference do, under the conditions that each theorem names). -/
import Derived.Test.YtmbibfeiemblkaaDoorL16
set_option linter.unusedSimpArgs false
set_option linter.unusedVariables false
namespace Go.Proofs.YtmbibfeiemblkaaDoor
open Go Go.Abs
def tailJ (ls : List (List UInt8)) : List UInt8 := ls.flatMap (10 :: ·)
/-- lines, with line feeds between them -/
def joinL : List (List UInt8) → List UInt8
  | [] => []
  | l :: ls => l ++ tailJ ls
theorem joinL_lines (t : List UInt8) : joinL (linesAt t) = t := by
  induction t with
  | nil => simp [linesAt, begins, beginsFrom, joinL, tailJ]
  | cons c t ih =>
    rw [linesAt_cons]
    obtain ⟨l, ls, hl⟩ : ∃ l ls, linesAt t = l :: ls := ⟨_, _, rfl⟩
    rw [hl] at ih ⊢
    split
    · rename_i hc
      subst hc
      simp only [joinL] at ih ⊢
      rw [show tailJ (l :: ls) = 10 :: (l ++ tailJ ls) from by simp [tailJ], ih]
      rfl
    · simp only [joinL] at ih ⊢
      rw [List.cons_append, ih]
theorem joinL_snoc (L : List (List UInt8)) (x : List UInt8) (h : L ≠ []) : joinL (L ++ [x]) = joinL L ++ 10 :: x := by
  cases L with
  | nil => exact absurd rfl h
  | cons l ls => simp [joinL, tailJ]
theorem joinL_take_len (L : List (List UInt8)) (k : Nat) : (joinL (L.take k)).length ≤ (joinL L).length := by
  cases L with
  | nil => simp
  | cons l ls =>
    cases k with
    | zero => simp [joinL]
    | succ k =>
      simp only [List.take_succ_cons, joinL, List.length_append]
      have : (tailJ (ls.take k)).length ≤ (tailJ ls).length := by
        have e : tailJ ls = tailJ (ls.take k) ++ tailJ (ls.drop k) := by
          unfold tailJ; rw [← List.flatMap_append, List.take_append_drop]
        rw [e, List.length_append]; omega
      omega
theorem lineP_at (t : List UInt8) (k : Nat) (h : k < (begins t).length) : ∃ h' : k < (linesAt t).length, lineP t ((k : Int) + 1) = (linesAt t)[k] := by
  have e2 : ((k : Int) + 1).toNat = k + 1 := by omega
  refine ⟨by simp [linesAt]; exact h, ?_⟩
  unfold lineP
  rw [if_pos (by simp [isLine]; omega), e2]
  simp [lineText, beginOf, linesAt, h]
theorem lineP_none (t : List UInt8) : lineP t (((begins t).length : Int) + 1) = [] := by
  unfold lineP
  rw [if_neg (by simp [isLine]; omega)]
theorem clamp_of_le (t : List UInt8) (i : Nat) (h : i ≤ t.length) : clamp t (i : Int) = i := by unfold clamp; omega
/-- where the place ahead stands -/
def lc (t : List UInt8) (i : Nat) : Nat × Nat := if i = 0 then (1, 0) else wp t (i - 1)
def BI (t : List UInt8) (x : Nat) (σ : AS) (a : Nat → AV) (τ : AS) : Prop := ∃ i : Nat, i ≤ t.length + 1 ∧ a 0 = .str t ∧ a 3 = .ptr x 0 ∧ a 4 = .int .i64 ((lc t i).1 : Int) ∧ a 5 = .int .i64 ((lc t i).2 : Int) ∧ a 6 = .int .i64 (i : Int) ∧ TableAt τ x t ∧ Adds σ τ
def CI (t : List UInt8) (x : Nat) (σ : AS) (a : Nat → AV) (τ : AS) : Prop := ∃ k : Nat, k ≤ (begins t).length ∧ a 0 = .str t ∧ a 3 = .ptr x 0 ∧ a 4 = .int .i64 ((begins t).length : Int) ∧ a 12 = .str (joinL ((linesAt t).take k)) ∧ a 13 = .int .i64 ((k : Int) + 1) ∧ TableAt τ x t ∧ Adds σ τ
theorem linesBack_calls {m : Int} {t : List UInt8} {σ : AS} {R : Out → AS → Prop} (h : ∀ σ', R (.ret (.bool true)) σ') : ACalls Tryd.prog (GL m) 5 [.str t] σ R := by
  refine calls5 rfl ?_
  by_cases hl : (1024 : Int) < (t.length : Int)
  · simp [pc5, hl]
    refine known_calls fun σ' _ => ?_
    simp
    exact h _
  · have hl' : t.length ≤ 2 ^ 30 := by omega
    have hbl := begins_length t
    simp [pc5, hl]
    refine table_calls hl' fun x σ1 _ ht1 A1 => ?_
    simp
    refine aloop (BI t x σ1) (MU 6 (t.length + 2)) ⟨0, by omega, by simp, by simp, by simp [lc], by simp [lc], by simp, ht1, .refl _⟩ fun a τ hI => ?_
    obtain ⟨i, hi, a0, a3, a4, a5, a6, ht, A⟩ := hI
    by_cases hlt : (i : Int) ≤ t.length
    · have hlt' : i ≤ t.length := by omega
      have hcl := clamp_of_le t i hlt'
      have hw3 : IntKind.wrap .i64 ((i : Int) + 1) = ((i + 1 : Nat) : Int) := by rw [wrap_i64] <;> omega
      have hpl := place_at t i hlt'
      have hwp := wp_le t i hlt'
      simp [pc5_l1, a0, a3, a4, a5, a6, hlt]
      refine lwhere_calls ht hl' fun σ2 A2 => ?_
      rw [whereP_wp, hcl]
      simp [a0, a3, a4, a5, a6]
      refine place_calls (GL_vars m) hl' fun σ3 A3 => ?_
      rw [hpl]
      have A' := (A.trans A2).trans A3
      have ht' := (ht.mono A2).mono A3
      have next : ∀ (a' : Nat → AV), a' 0 = .str t → a' 3 = .ptr x 0 → a' 4 = .int .i64 ((wp t i).1 : Int) → a' 5 = .int .i64 ((wp t i).2 : Int) → a' 6 = .int .i64 ((i : Int) + 1) → BI t x σ1 a' σ3 ∧ MU 6 (t.length + 2) a' σ3 < MU 6 (t.length + 2) a τ := by
        intro a' b0 b3 b4 b5 b6
        refine ⟨⟨i + 1, by omega, b0, b3, by rw [b4]; simp [lc], by rw [b5]; simp [lc], by rw [b6]; simp, ht', A'⟩, ?_⟩
        simp only [MU, a6, b6]
        omega
      cases i with
      | zero =>
        have hw0 : IntKind.wrap .i64 1 = 1 := rfl
        simp [a0, a3, a4, a5, a6, lc, wp_zero, hw3, hw0]
        exact next _ (by simp [a0]) (by simp [a3]) (by simp [wp_zero]) (by simp [wp_zero]) (by simp)
      | succ j =>
        have hs := wp_succ t j (by omega)
        have hw4 : IntKind.wrap .i64 (j : Int) = (j : Int) := by rw [wrap_i64] <;> omega
        have hj : j < t.length := by omega
        have hwj := wp_le t j (by omega)
        have hw5 : IntKind.wrap .i64 (((wp t j).2 : Int) + 1) = (((wp t j).2 + 1 : Nat) : Int) := by rw [wrap_i64] <;> omega
        have hw6 : IntKind.wrap .i64 (((wp t j).1 : Int) + 1) = (((wp t j).1 + 1 : Nat) : Int) := by rw [wrap_i64] <;> omega
        have hlc : lc t (j + 1) = wp t j := by simp [lc]
        rw [hlc] at a4 a5
        have hn1 : ¬ ((wp t j).1 : Int) + 1 = (wp t j).1 := by omega
        have hj0 : (0 : Int) < (j : Int) + 1 := by omega
        have hj1 : ¬ (j : Int) + 1 = 0 := by omega
        have hw7 : IntKind.wrap .i64 ((j : Int) + 1 + 1) = (j : Int) + 1 + 1 := by rw [wrap_i64] <;> omega
        by_cases hc : t[j] = 10
        · have hc' : (t[j].toNat : Int) = 10 := by rw [hc]; rfl
          rw [if_pos hc] at hs
          simp [a0, a3, a4, a5, a6, hs, hw4, hw5, hw6, hw7, hc', hj, hn1, hj0, hj1]
          exact next _ (by simp [a0]) (by simp [a3]) (by simp [hs]) (by simp [hs]) (by simp)
        · have hc' : ¬ (t[j].toNat : Int) = 10 := fun e => hc ((byte_eq _ 10).1 e)
          rw [if_neg hc] at hs
          simp [a0, a3, a4, a5, a6, hs, hw4, hw5, hw6, hw7, hc', hj, hn1, hj0, hj1]
          exact next _ (by simp [a0]) (by simp [a3]) (by simp [hs]) (by simp [hs]) (by simp)
    · have he : i = t.length + 1 := by omega
      subst he
      have hend : (lc t (t.length + 1)).1 = (begins t).length := by
        unfold lc; rw [if_neg (by omega)]
        show lineOf t (t.length + 1 - 1) = _
        rw [show t.length + 1 - 1 = t.length from by omega, lineOf_eq, List.take_length]
      have hlt2 : ¬ ((t.length : Int) + 1 ≤ t.length) := by omega
      simp [pc5_l1, pc5_r2, a0, a3, a4, a5, a6, hlt2, hend]
      refine aloop (CI t x σ1) (MU 13 ((begins t).length + 2)) ⟨0, by omega, by simp [a0], by simp [a3], by simp [a4, hend], by simp [joinL], by simp, ht, A⟩ fun a τ hI => ?_
      obtain ⟨k, hk, a0, a3, a4, a12, a13, ht, A⟩ := hI
      by_cases hlt : k < (begins t).length
      · have hle : (k : Int) + 1 ≤ ((begins t).length : Int) := by omega
        obtain ⟨h', e⟩ := lineP_at t k hlt
        have hbound : (joinL ((linesAt t).take k)).length ≤ t.length := by
          have := joinL_take_len (linesAt t) k
          rw [joinL_lines] at this
          exact this
        have hlen := lineP_le t ((k : Int) + 1)
        have hw3 : IntKind.wrap .i64 ((k : Int) + 1 + 1) = (k : Int) + 1 + 1 := by rw [wrap_i64] <;> omega
        have next : ∀ (a' : Nat → AV) (τ' : AS), a' 0 = .str t → a' 3 = .ptr x 0 → a' 4 = .int .i64 ((begins t).length : Int) → a' 12 = .str (joinL ((linesAt t).take (k + 1))) → a' 13 = .int .i64 ((k : Int) + 1 + 1) → TableAt τ' x t → Adds σ1 τ' → CI t x σ1 a' τ' ∧ MU 13 ((begins t).length + 2) a' τ' < MU 13 ((begins t).length + 2) a τ := by
          intro a' τ' b0 b3 b4 b12 b13 c1 c2
          refine ⟨⟨k + 1, by omega, b0, b3, b4, b12, by rw [b13]; simp, c1, c2⟩, ?_⟩
          simp only [MU, a13, b13]
          omega
        have etake : (linesAt t).take (k + 1) = (linesAt t).take k ++ [(linesAt t)[k]] := by simp
        simp [pc5_l2, a0, a3, a4, a12, a13]
        refine len_calls ht ?_
        cases k with
        | zero =>
          have e12 : joinL ((linesAt t).take (0 + 1)) = lineP t 1 := by
            rw [etake]
            have : lineP t 1 = (linesAt t)[0] := by simpa using e
            rw [this]
            simp [joinL, tailJ]
          have hle1 : (1 : Int) ≤ ((begins t).length : Int) := by omega
          have hw0 : IntKind.wrap .i64 2 = 2 := rfl
          have hlen1 : (lineP t 1).length < 4611686018427387904 := by have := lineP_le t 1; omega
          simp [a0, a3, a4, a12, a13, hle1]
          refine LineP_calls (GL_vars m) hl' fun σ2 A2 => ?_
          simp [a0, a3, a4, a12, a13, joinL, hw0]
          refine ⟨?_, next _ _ (by simp [a0]) (by simp [a3]) (by simp [a4]) (by simp [e12]) (by simp) (ht.mono A2) (A.trans A2)⟩
          omega
        | succ k =>
          have e12 : joinL ((linesAt t).take (k + 1 + 1)) = joinL ((linesAt t).take (k + 1)) ++ 10 :: lineP t ((k : Int) + 1 + 1) := by
            rw [etake, joinL_snoc _ _ (by intro q; have h0 := congrArg List.length q; rw [List.length_take, List.length_nil] at h0; omega)]
            have : lineP t ((k : Int) + 1 + 1) = (linesAt t)[k + 1] := by simpa using e
            rw [this]
          have hle1 : (k : Int) + 1 + 1 ≤ ((begins t).length : Int) := by omega
          have hgt : (1 : Int) < (k : Int) + 1 + 1 := by omega
          have hw0 : IntKind.wrap .i64 ((k : Int) + 1 + 1 + 1) = (k : Int) + 1 + 1 + 1 := by rw [wrap_i64] <;> omega
          have hlen1 := lineP_le t ((k : Int) + 1 + 1)
          simp [a0, a3, a4, a12, a13, hle1, hgt]
          refine ⟨by omega, ?_⟩
          refine LineP_calls (GL_vars m) hl' fun σ2 A2 => ?_
          simp [a0, a3, a4, a12, a13, hw0]
          refine ⟨by omega, next _ _ (by simp [a0]) (by simp [a3]) (by simp [a4]) (by simp [e12]) (by simp) (ht.mono A2) (A.trans A2)⟩
      · have he : k = (begins t).length := by omega
        subst he
        have hfull : joinL ((linesAt t).take (begins t).length) = t := by
          rw [List.take_of_length_le (by simp [linesAt]), joinL_lines]
        rw [hfull] at a12
        have hw3 : IntKind.wrap .i64 (((begins t).length : Int) + 1) = ((begins t).length : Int) + 1 := by rw [wrap_i64] <;> omega
        have hno : ¬ (((begins t).length : Int) + 1 ≤ ((begins t).length : Int)) := by omega
        simp [pc5_l2, pc5_r1, a0, a3, a4, a12, a13]
        refine len_calls ht ?_
        simp [a0, a3, a4, a12, a13, hno]
        refine len_calls ht ?_
        simp [a0, a3, a4, a12, a13, hw3]
        refine LineP_calls (GL_vars m) hl' fun σ2 A2 => ?_
        rw [lineP_none]
        simp
        refine known_calls fun σ3 A3 => ?_
        simp
        exact h _
end Go.Proofs.YtmbibfeiemblkaaDoor
