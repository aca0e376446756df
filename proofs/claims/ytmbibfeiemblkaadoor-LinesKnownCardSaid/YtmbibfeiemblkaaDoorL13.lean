/- Part of the proofs of layer 26's statements: L13 (what the functions of lines and of its reference do, under the conditions that each theorem names). -/
import Derived.Test.YtmbibfeiemblkaaDoorL12
set_option linter.unusedSimpArgs false
set_option linter.unusedVariables false
namespace Go.Proofs.YtmbibfeiemblkaaDoor
open Go Go.Abs
theorem digits_len (n : Nat) (h : n ≤ 2 ^ 40) : (Lib.decDigits n).length ≤ 21 := by
  have := Lib.itoa_length_le (n : Int) (by omega) (by omega)
  rwa [itoa_nat] at this
def T1I (pre s : List UInt8) (c : Int) (σ : AS) (a : Nat → AV) (τ : AS) : Prop := ∃ i : Nat, i ≤ s.length ∧ a 6 = .int .i64 c ∧ a 8 = .str s ∧ a 7 = .str (pre ++ shown (s.take i)) ∧ a 9 = .int .i64 (i : Int) ∧ Adds σ τ
def T2I (pre : List UInt8) (c : Nat) (σ : AS) (a : Nat → AV) (τ : AS) : Prop := ∃ i : Nat, i + 1 ≤ c ∧ a 6 = .int .i64 (c : Int) ∧ a 7 = .str (pre ++ List.replicate i 32) ∧ a 10 = .int .i64 ((i + 1 : Nat) : Int) ∧ Adds σ τ
theorem refTell_calls {G : Env} {t : List UInt8} {no at_ : Int} {σ : AS} {R : Out → AS → Prop} (hl : t.length ≤ 2 ^ 30) (hline : ∀ n, lineR t n = lineP t n) (h : ∀ σ', Adds σ σ' → R (.ret (.str (tellP t no at_))) σ') : ACalls Tryd.prog G 21 [.str t, .agg [.int .i64 no, .int .i64 at_]] σ R := by
  refine calls21 rfl ?_
  have hr1 := whereP_1 t at_
  have hc1 := whereP_2 t at_
  have hlp := lineP_le t ((whereP t at_).1 : Int)
  have hrp := reasonP_le no
  unfold tellP at h
  obtain ⟨r, hr⟩ : ∃ r, r = (whereP t at_).1 := ⟨_, rfl⟩
  obtain ⟨c, hc⟩ : ∃ c, c = (whereP t at_).2 := ⟨_, rfl⟩
  rw [← hr] at hr1 h hlp
  rw [← hc] at hc1 h
  have d1 := digits_len r (by omega)
  have d2 := digits_len c (by omega)
  rw [itoa_nat, itoa_nat] at h
  simp [pc21]
  refine refWhere_calls hl ?_
  rw [← hr, ← hc]
  simp
  refine refDigits_calls r (by omega) fun σ1 A1 => ?_
  have ho1 : σ1.objs σ.no = some [.int .i64 no, .int .i64 at_] := by have := A1.obj σ.no (by simp); simpa using this
  simp [ho1]
  refine ⟨by omega, refDigits_calls c (by omega) fun σ2 A2 => ?_⟩
  have hx1 : σ.no < σ1.no := Nat.lt_of_lt_of_le (by simp) A1.no
  have ho2 : σ2.objs σ.no = some [.int .i64 no, .int .i64 at_] := (A2.obj σ.no hx1).trans ho1
  simp [ho2]
  refine ⟨by omega, by omega, refReason_calls ?_⟩
  simp
  refine ⟨by omega, by omega, refLine_calls hl fun σ3 A3 => ?_⟩
  rw [hline]
  generalize hs : lineP t (r : Int) = s at h hlp
  simp
  have A03 : Adds σ σ3 := (((Adds.refl σ).newO.trans A1).trans A2).trans A3
  have hpre : (Lib.decDigits r ++ 58 :: (Lib.decDigits c ++ 58 :: 32 :: (reasonP no ++ [10]))).length ≤ 200 := by simp; omega
  have e0 : Lib.decDigits r ++ 58 :: (Lib.decDigits c ++ 58 :: 32 :: (reasonP no ++ 10 :: (shown s ++ 10 :: (List.replicate (c - 1) 32 ++ [94, 10])))) = (Lib.decDigits r ++ 58 :: (Lib.decDigits c ++ 58 :: 32 :: (reasonP no ++ [10]))) ++ (shown s ++ 10 :: (List.replicate (c - 1) 32 ++ [94, 10])) := by simp
  rw [e0] at h
  generalize Lib.decDigits r ++ 58 :: (Lib.decDigits c ++ 58 :: 32 :: (reasonP no ++ [10])) = pre at h hpre ⊢
  refine aloop (T1I pre s c σ) (MU 9 s.length) ⟨0, Nat.zero_le _, by simp, by simp, by simp [shown], by simp, A03⟩ fun a τ hI => ?_
  clear hs A1 A2 A3 A03 ho1 ho2 hx1 e0
  obtain ⟨i, hi, a6, a8, a7, a9, A⟩ := hI
  have hsl : (shown (s.take i)).length = i := by simp [shown]; omega
  by_cases hlt : i < s.length
  · have hw3 : IntKind.wrap .i64 ((i : Int) + 1) = ((i + 1 : Nat) : Int) := by rw [wrap_i64] <;> omega
    have etake : shown (s.take (i + 1)) = shown (s.take i) ++ [showB s[i]] := by unfold shown; rw [List.take_succ_eq_append_getElem hlt, List.map_append]; rfl
    have next : ∀ (a' : Nat → AV) (τ' : AS), a' 6 = .int .i64 c → a' 8 = .str s → a' 7 = .str (pre ++ (shown (s.take i) ++ [showB s[i]])) → a' 9 = .int .i64 ((i : Int) + 1) → Adds σ τ' → T1I pre s c σ a' τ' ∧ MU 9 s.length a' τ' < MU 9 s.length a τ := by
      intro a' τ' b6 b8 b7 b9 c1
      refine ⟨⟨i + 1, hlt, b6, b8, by rw [etake]; exact b7, by rw [b9]; rfl, c1⟩, ?_⟩
      simp [MU, a9, b9]; omega
    by_cases h1 : s[i] < 32 ∨ 126 < s[i]
    · have hs1 : showB s[i] = 63 := by simp [showB, h1]
      rw [hs1] at next
      by_cases h2 : s[i] < 32
      · have h2' : (s[i].toNat : Int) < 32 := (byte_lt _ 32).2 h2
        simp [pc21_l1, a6, a7, a8, a9, hlt, h2', hw3]
        exact ⟨by omega, next _ _ (by simp [a6]) (by simp [a8]) (by simp) (by simp) A⟩
      · have h2' : ¬ (s[i].toNat : Int) < 32 := fun e => h2 ((byte_lt _ 32).1 e)
        have h3' : (126 : Int) < (s[i].toNat : Int) := (byte_lt 126 _).2 (h1.resolve_left h2)
        simp [pc21_l1, a6, a7, a8, a9, hlt, h2', h3', hw3]
        exact ⟨by omega, next _ _ (by simp [a6]) (by simp [a8]) (by simp) (by simp) A⟩
    · have h2' : ¬ (s[i].toNat : Int) < 32 := fun e => h1 (.inl ((byte_lt _ 32).1 e))
      have h3' : ¬ (126 : Int) < (s[i].toNat : Int) := fun e => h1 (.inr ((byte_lt 126 _).1 e))
      have hs1 : showB s[i] = s[i] := by simp [showB, h1]
      rw [hs1] at next
      have q1 : (i : Int) ≤ (i : Int) + 1 := by omega
      have q2 : (i : Int) + 1 ≤ (s.length : Int) := by omega
      have ed : (s.take (i + 1)).drop i = [s[i]] := by rw [List.take_succ_eq_append_getElem hlt, List.drop_append, List.drop_take]; simp [Nat.min_eq_left (Nat.le_of_lt hlt)]
      simp [pc21_l1, a6, a7, a8, a9, hlt, h2', h3', hw3, q1, q2]
      rw [ed]
      exact ⟨by omega, next _ _ (by simp [a6]) (by simp [a8]) (by simp) (by simp) A⟩
  · have he : i = s.length := by omega
    subst he
    rw [List.take_length] at a7 hsl
    simp [pc21_l1, pc21_r2, a6, a7, a8, a9]
    refine ⟨by omega, ?_⟩
    refine aloop (T2I (pre ++ (shown s ++ [10])) c σ) (MU 10 (c + 1)) ⟨0, by omega, by simp [a6], by simp, by simp, A⟩ fun b τ2 hI2 => ?_
    obtain ⟨j, hj, b6, b7, b10, B1⟩ := hI2
    by_cases hjc : j + 1 < c
    · have hw3 : IntKind.wrap .i64 (((j + 1 : Nat) : Int) + 1) = ((j + 2 : Nat) : Int) := by rw [wrap_i64] <;> omega
      have hlt2 : (((j + 1 : Nat) : Int)) < (c : Int) := by omega
      push_cast at hw3 hlt2 b10
      simp [pc21_l2, b6, b7, b10, hlt2, hw3]
      refine ⟨by omega, ⟨j + 1, by omega, by simp [b6], by simp [List.replicate_succ'], by simp, B1⟩, by simp [MU, b10]; omega⟩
    · have hlt2 : ¬ (((j + 1 : Nat) : Int)) < (c : Int) := by omega
      push_cast at hlt2 b10
      simp [pc21_l2, pc21_r1, b6, b7, b10, hlt2]
      have hj2 : j = c - 1 := by omega
      subst hj2
      refine ⟨by omega, ?_⟩
      have := h τ2 B1
      simpa using this
end Go.Proofs.YtmbibfeiemblkaaDoor
