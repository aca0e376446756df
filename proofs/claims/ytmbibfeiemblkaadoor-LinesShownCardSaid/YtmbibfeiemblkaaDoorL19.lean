/- Part of the proofs of layer 26's statements: L19 (what the functions of lines and of its reference do, under the conditions that each theorem names). -/
import Derived.Test.YtmbibfeiemblkaaDoorL18
set_option linter.unusedSimpArgs false
set_option linter.unusedVariables false
namespace Go.Proofs.YtmbibfeiemblkaaDoor
open Go Go.Abs
theorem byte_le (c d : UInt8) : ((c.toNat : Int) ≤ (d.toNat : Int)) ↔ c ≤ d := by rw [Int.ofNat_le]; exact UInt8.le_iff_toNat_le.symm
def MI (c : Nat) (s : List UInt8) (a : Nat → AV) (_ : AS) : Prop := ∃ i : Nat, i ≤ c ∧ a 5 = .str s ∧ a 7 = .int .i64 (c : Int) ∧ a 9 = .str (mark3 c) ∧ a 10 = .int .i64 (i : Int)
def SI3 (s : List UInt8) (a : Nat → AV) (_ : AS) : Prop := ∃ i : Nat, i ≤ s.length ∧ a 5 = .str s ∧ a 11 = .int .i64 (i : Int)
theorem linesShown_calls {m : Int} {t : List UInt8} {no at_ : Int} {σ : AS} {R : Out → AS → Prop} (h : ∀ σ', R (.ret (.bool true)) σ') : ACalls Tryd.prog (GL m) 3 [.str t, .agg [.int .i64 no, .int .i64 at_]] σ R := by
  refine calls3 rfl ?_
  by_cases hl : (1024 : Int) < (t.length : Int)
  · simp [pc3, hl]
    refine known_calls fun σ' _ => ?_
    simp
    exact h _
  · have hl' : t.length ≤ 2 ^ 30 := by omega
    have hsl := tellP_len t no at_ (by omega)
    have hc2 := whereP_2 t at_
    have hll := lineP_le t ((whereP t at_).1 : Int)
    have e4 : lineP (tellP t no at_) 4 = [] := by have := tellP_line t no at_ 3 (by omega); simpa using this
    have e3 : lineP (tellP t no at_) 3 = mark3 (whereP t at_).2 := by have := tellP_line t no at_ 2 (by omega); simpa using this
    have e2 : (lineP (tellP t no at_) 2).length = (lineP t ((whereP t at_).1 : Int)).length := by
      have := tellP_line t no at_ 1 (by omega)
      have e : lineP (tellP t no at_) 2 = shown (lineP t ((whereP t at_).1 : Int)) := by simpa using this
      rw [e]; simp [shown]
    have em := mark3_len (whereP t at_).2 (by omega)
    have hb4 := tellP_begins t no at_
    have hby := tellP_byte t no at_
    simp [pc3, hl, splice]
    refine tell_calls hl' no at_ ?_
    simp
    refine where_calls hl' fun σ1 A1 => ?_
    simp
    generalize (whereP t at_).2 = c at *
    generalize ((whereP t at_).1 : Int) = r at *
    generalize tellP t no at_ = s at *
    refine table_calls hsl fun x σ2 _ ht A2 => ?_
    simp
    refine len_calls ht ?_
    simp [hb4]
    refine LineP_calls (GL_vars m) hsl fun σ3 A3 => ?_
    simp [e4]
    refine LineP_calls (GL_vars m) hsl fun σ4 A4 => ?_
    simp
    refine LineP_calls (GL_vars m) hl' fun σ5 A5 => ?_
    simp [e2]
    refine LineP_calls (GL_vars m) hsl fun σ6 A6 => ?_
    simp [e3, em]
    refine LineP_calls (GL_vars m) hsl fun σ7 A7 => ?_
    simp [e3, em]
    refine aloop (MI c s) (MU 10 (c + 1)) ⟨0, by omega, by simp, by simp, by simp, by simp⟩ fun a τ hI => ?_
    obtain ⟨i, hi, a5, a7, a9, a10⟩ := hI
    have hw3 : IntKind.wrap .i64 ((i : Int) + 1) = ((i + 1 : Nat) : Int) := by rw [wrap_i64] <;> omega
    have hw4 : IntKind.wrap .i64 ((c : Int) - 1) = (c : Int) - 1 := by rw [wrap_i64] <;> omega
    by_cases hlt : i < c
    · have hm := mark3_at c i hlt
      have next : ∀ (a' : Nat → AV) (τ' : AS), a' 5 = .str s → a' 7 = .int .i64 (c : Int) → a' 9 = .str (mark3 c) → a' 10 = .int .i64 ((i : Int) + 1) → MI c s a' τ' ∧ MU 10 (c + 1) a' τ' < MU 10 (c + 1) a τ := by
        intro a' τ' b5 b7 b9 b10
        refine ⟨⟨i + 1, by omega, b5, b7, b9, by rw [b10]; simp⟩, ?_⟩
        simp only [MU, a10, b10]
        omega
      have hm' : ∀ q : i < (mark3 c).length, (mark3 c)[i]'q = if i = c - 1 then 94 else 32 := fun q => by rw [List.getElem?_eq_getElem q] at hm; exact Option.some.inj hm
      by_cases hc : i = c - 1
      · obtain rfl : c = i + 1 := by omega
        have hw5 : IntKind.wrap .i64 (i : Int) = (i : Int) := by rw [wrap_i64] <;> omega
        have hlt2 : (i : Int) < (i : Int) + 1 := by omega
        simp only [Nat.add_sub_cancel, if_true] at hm'
        simp [pc3_l1, a5, a7, a9, a10, em, hm', hw3, hw4, hw5, hlt2]
        exact next _ _ (by simp [a5]) (by simp [a7]) (by simp [a9]) (by simp)
      · have hc' : ¬ (i : Int) = (c : Int) - 1 := by omega
        simp only [if_neg hc] at hm'
        simp [pc3_l1, a5, a7, a9, a10, em, hlt, hm', hw3, hw4, hc']
        exact next _ _ (by simp [a5]) (by simp [a7]) (by simp [a9]) (by simp)
    · simp [pc3_l1, pc3_r2, a5, a7, a9, a10, em, hlt]
      refine aloop (SI3 s) (MU 11 (s.length + 1)) ⟨0, by omega, by simp [a5], by simp⟩ fun a τ hI => ?_
      obtain ⟨i, hi, a5, a11⟩ := hI
      have hw3 : IntKind.wrap .i64 ((i : Int) + 1) = ((i + 1 : Nat) : Int) := by rw [wrap_i64] <;> omega
      by_cases hlt : i < s.length
      · have next : ∀ (a' : Nat → AV) (τ' : AS), a' 5 = .str s → a' 11 = .int .i64 ((i : Int) + 1) → SI3 s a' τ' ∧ MU 11 (s.length + 1) a' τ' < MU 11 (s.length + 1) a τ := by
          intro a' τ' b5 b11
          refine ⟨⟨i + 1, by omega, b5, by rw [b11]; simp⟩, ?_⟩
          simp only [MU, a11, b11]
          omega
        by_cases hc : s[i] = 10
        · have hc' : (s[i].toNat : Int) = 10 := by rw [hc]; rfl
          simp [pc3_l2, a5, a11, hlt, hw3, hc']
          exact next _ _ (by simp [a5]) (by simp)
        · have hc' : ¬ (s[i].toNat : Int) = 10 := fun e => hc ((byte_eq _ 10).1 e)
          have hok := (hby s[i] (List.getElem_mem hlt)).resolve_left hc
          simp only [okB, Bool.and_eq_true, decide_eq_true_eq] at hok
          have k1 : ¬ (s[i].toNat : Int) < 32 := fun e => absurd ((byte_lt _ 32).1 e) (UInt8.not_lt.2 hok.1)
          have k2 : ¬ (126 : Int) < (s[i].toNat : Int) := fun e => absurd ((byte_lt 126 _).1 e) (UInt8.not_lt.2 hok.2)
          simp [pc3_l2, a5, a11, hlt, hw3, hc', k1, k2]
          exact next _ _ (by simp [a5]) (by simp)
      · simp [pc3_l2, pc3_r1, a5, a11, hlt]
        refine known_calls fun σ' _ => ?_
        simp
        exact h _
end Go.Proofs.YtmbibfeiemblkaaDoor
