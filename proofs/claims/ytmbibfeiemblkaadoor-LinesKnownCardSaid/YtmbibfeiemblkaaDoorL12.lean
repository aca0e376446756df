/- Part of the proofs of layer 26's statements: L12 (what the functions of lines and of its reference do, under the conditions that each theorem names). -/
import Derived.Test.YtmbibfeiemblkaaDoorL11
set_option linter.unusedSimpArgs false
set_option linter.unusedVariables false
namespace Go.Proofs.YtmbibfeiemblkaaDoor
open Go Go.Abs
theorem itoa_nat (n : Nat) : Lib.itoa (n : Int) = Lib.decDigits n := Lib.itoa_nonneg n
def lineR (t : List UInt8) (n : Int) : List UInt8 := if n < 1 ∨ ((allL t).length : Int) < n then [] else (allL t).getD (n - 1).toNat []
theorem refLine_calls {G : Env} {t : List UInt8} {n : Int} {σ : AS} {R : Out → AS → Prop} (hl : t.length ≤ 2 ^ 30) (h : ∀ σ', Adds σ σ' → R (.ret (.str (lineR t n))) σ') : ACalls Tryd.prog G 18 [.str t, .int .i64 n] σ R := by
  refine calls18 rfl ?_
  have hal : (allL t).length ≤ t.length + 1 := by have := acc_len t; simp [allL]; omega
  simp [pc18]
  refine refAll_calls hl fun σ' f A hf hF => ?_
  have hr := h σ' A
  unfold lineR at hr
  have hsl : (strs (allL t)).length = (allL t).length := by simp [strs]
  by_cases h1 : n < 1
  · simp [h1] at hr ⊢
    exact hr
  · by_cases h2 : ((allL t).length : Int) < n
    · simp [h1, h2, hsl] at hr ⊢
      exact hr
    · obtain ⟨k, hk⟩ : ∃ k : Nat, n = (k : Int) + 1 := ⟨(n - 1).toNat, by omega⟩
      subst hk
      have hw : IntKind.wrap .i64 (k : Int) = (k : Int) := by rw [wrap_i64] <;> omega
      have hlt : k < (allL t).length := by omega
      have hg : (strs (allL t))[k]? = some (.str (allL t)[k]) := by simp [strs, hlt]
      have e1 : ((k : Int) + 1 - 1).toNat = k := by omega
      have hs : ∀ h, (strs (allL t))[k]'h = .str (allL t)[k] := fun h => by simp [strs]
      rw [if_neg (by omega), e1, List.getD_eq_getElem?_getD, List.getElem?_eq_getElem hlt] at hr
      simp [h1, h2, hsl, hw, hF, hg, hlt, hs]
      exact hr
theorem refReason_calls {G : Env} {no : Int} {σ : AS} {R : Out → AS → Prop} (h : R (.ret (.str (reasonP no))) σ) : ACalls Tryd.prog G 20 [.int .i64 no] σ R := by
  refine calls20 rfl ?_
  by_cases h1 : no < 0
  · have e : reasonP no = unknown := by rw [reasonP, if_pos (by omega)]
    rw [e] at h
    simp [pc20, splice, h1]
    exact h
  · by_cases h2 : 15 ≤ no
    · have e : reasonP no = unknown := by rw [reasonP, if_pos (by omega)]
      rw [e] at h
      simp [pc20, splice, h1, h2]
      exact h
    · obtain ⟨k, rfl⟩ : ∃ k : Nat, no = (k : Int) := ⟨no.toNat, by omega⟩
      have hk : k = 0 ∨ k = 1 ∨ k = 2 ∨ k = 3 ∨ k = 4 ∨ k = 5 ∨ k = 6 ∨ k = 7 ∨ k = 8 ∨ k = 9 ∨ k = 10 ∨ k = 11 ∨ k = 12 ∨ k = 13 ∨ k = 14 := by omega
      clear h1 h2
      rcases hk with rfl | rfl | rfl | rfl | rfl | rfl | rfl | rfl | rfl | rfl | rfl | rfl | rfl | rfl | rfl
      all_goals (simp [pc20, splice]; simpa [reasonP, reasons, unknown] using h)
theorem refDigits_calls {G : Env} (n : Nat) : ∀ {σ : AS} {R : Out → AS → Prop} (hn : n ≤ 2 ^ 40) (h : ∀ σ', Adds σ σ' → R (.ret (.str (Lib.decDigits n))) σ'), ACalls Tryd.prog G 30 [.int .i64 (n : Int)] σ R := by
  induction n using Nat.strongRecOn with
  | _ n ih =>
    intro σ R hn h
    refine calls30 rfl ?_
    rw [Lib.decDigits] at h
    by_cases h1 : n < 10
    · have h1' : (n : Int) < 10 := by omega
      simp [h1] at h
      have hw : IntKind.u8.wrap (IntKind.i64.wrap (48 + (n : Int))) = ((48 + n : Nat) : Int) := by rw [wrap_i64, wrap_u8] <;> omega
      simp [pc30, h1', splice, hw]
      rw [convV_slB' (bs := [UInt8.ofNat (48 + n)]) (by simp [B, UInt8.toNat_ofNat_of_lt]; omega)]
      simp
      exact h σ (.refl σ)
    · have h1' : ¬ (n : Int) < 10 := by omega
      rw [dif_neg h1] at h
      have d1 : Lib.decDigits (n % 10) = [UInt8.ofNat (48 + n % 10)] := by rw [Lib.decDigits, dif_pos (by omega)]
      have d2 : (Lib.decDigits (n / 10)).length ≤ 21 := by
        have := Lib.itoa_length_le ((n / 10 : Nat) : Int) (by omega) (by omega)
        rwa [Lib.itoa_nonneg] at this
      have w1 : IntKind.i64.wrap ((n : Int) / 10) = ((n / 10 : Nat) : Int) := by rw [wrap_i64] <;> omega
      have w2 : IntKind.i64.wrap ((n : Int) % 10) = ((n % 10 : Nat) : Int) := by rw [wrap_i64] <;> omega
      simp [pc30, h1', w1]
      refine ih (n / 10) (by omega) (by omega) fun σ1 A1 => ?_
      simp [w2]
      refine ih (n % 10) (by omega) (by omega) fun σ2 A2 => ?_
      simp
      rw [d1]
      exact ⟨by simp; omega, h σ2 (A1.trans A2)⟩
end Go.Proofs.YtmbibfeiemblkaaDoor
