/- Part of the proofs of layer 26's statements: L2 (what the functions of lines and of its reference do, under the conditions that each theorem names). -/
import Derived.Test.YtmbibfeiemblkaaDoorL1
set_option linter.unusedSimpArgs false
set_option linter.unusedVariables false
namespace Go.Proofs.YtmbibfeiemblkaaDoor
open Go Go.Abs
theorem len_calls {G : Env} {t : List UInt8} {x : Nat} {σ : AS} {R : Out → AS → Prop} (ht : TableAt σ x t) (h : R (.ret (.int .i64 ((begins t).length : Int))) σ) : ACalls Tryd.prog G 11 [.ptr x 0] σ R := by
  refine calls11 rfl ?_
  obtain ⟨hx, b, ho⟩ := ht
  simp [pc11, ho, ints]
  exact h
theorem is_calls {G : Env} {l : List Nat} {b : Bool} {at_ : Int} {i : Nat} {σ : AS} {R : Out → AS → Prop} (hi : i < l.length) (h : ∀ σ', Adds σ σ' → R (.ret (.bool (decide (at_ < (l[i] : Int))))) σ') : ACalls Tryd.prog G 29 [.agg [.sl (.stat b) 1 (ints l), .int .i64 at_], .int .i64 (i : Int)] σ R := by
  refine calls29 rfl ?_
  simp [pc29, ints, hi]
  exact h _ (Adds.refl σ).newO
def SI (l : List Nat) (at_ : Int) (b : Bool) (σ : AS) (a : Nat → AV) (τ : AS) : Prop := ∃ lo hi : Nat, lo ≤ hi ∧ hi ≤ l.length ∧ a 5 = .int .i64 (lo : Int) ∧ a 6 = .int .i64 (hi : Int) ∧ a 1 = .fn (.func 29) [.agg [.sl (.stat b) 1 (ints l), .int .i64 at_]] [] ∧ Adds σ τ ∧
  (∀ j (h : j < l.length), j < lo → (l[j] : Int) ≤ at_) ∧ (∀ j (h : j < l.length), hi ≤ j → at_ < (l[j] : Int))
def SM (a : Nat → AV) (_ : AS) : Nat := match a 5, a 6 with
  | .int _ m, .int _ n => n.toNat - m.toNat
  | _, _ => 0
theorem search_calls {G : Env} {l : List Nat} {b : Bool} {at_ : Int} {σ : AS} {R : Out → AS → Prop} (hl : l.length ≤ 2 ^ 30 + 1) (hs : l.Pairwise (· < ·))
    (h : ∀ (r : Nat) σ', r ≤ l.length → (∀ j (h : j < l.length), j < r → (l[j] : Int) ≤ at_) → (∀ j (h : j < l.length), r ≤ j → at_ < (l[j] : Int)) → Adds σ σ' → R (.ret (.int .i64 (r : Int))) σ') :
    ACalls Tryd.prog G 28 [.int .i64 (l.length : Int), .fn (.func 29) [.agg [.sl (.stat b) 1 (ints l), .int .i64 at_]] []] σ R := by
  refine calls28 rfl ?_
  have start : ∀ a, SI l at_ b σ a σ → ALoop Tryd.prog G 26 pc28_l1 (ablock 0 (athen (avc Tryd.prog G 26 pc28_r1 (afin Tryd.prog [.tmp 4] R)) (afin Tryd.prog [.tmp 4] R))) a σ := by
    intro a hI
    refine aloop (SI l at_ b σ) SM hI fun a τ hI => ?_
    obtain ⟨lo, hi, h1, h2, a5, a6, a1, A, q1, q2⟩ := hI
    by_cases hlt : lo < hi
    · have hmid : (lo + hi) / 2 < l.length := by omega
      obtain ⟨m, hm⟩ : ∃ m, m = (lo + hi) / 2 := ⟨_, rfl⟩
      rw [← hm] at hmid
      have w1 : IntKind.wrap .i64 ((lo : Int) + hi) = (lo : Int) + hi := by rw [wrap_i64] <;> omega
      have w3 : IntKind.i64.wrap ((IntKind.u64.wrap ((lo : Int) + hi)).fdiv (2 ^ min 1 IntKind.u64.bits)) = (m : Int) := by
        have e1 : IntKind.u64.wrap ((lo : Int) + hi) = (lo : Int) + hi := by rw [wrap_u64] <;> omega
        have e2 : min 1 IntKind.u64.bits = 1 := rfl
        have e3 : ((lo : Int) + hi).fdiv (2 ^ 1) = (m : Int) := by
          rw [Int.fdiv_eq_ediv_of_nonneg _ (by omega)]
          omega
        rw [e1, e2, e3, wrap_i64] <;> omega
      have w4 : IntKind.wrap .i64 ((m : Int) + 1) = ((m + 1 : Nat) : Int) := by rw [wrap_i64] <;> omega
      simp [pc28_l1, a5, a6, a1, hlt, w1, w3]
      refine is_calls hmid fun σ2 A2 => ?_
      by_cases hq : at_ < (l[m] : Int)
      · simp [hq, a5, a6, a1]
        refine ⟨⟨lo, m, by omega, by omega, by simp [a5], by simp, by simp [a1], A.trans A2, q1, fun j hj hj' => ?_⟩, ?_⟩
        · by_cases e : m = j
          · subst e; exact hq
          · have := List.pairwise_iff_getElem.1 hs m j hmid hj (by omega)
            omega
        · simp [SM, a5, a6]; omega
      · simp [hq, a5, a6, a1, w4]
        refine ⟨⟨m + 1, hi, by omega, by omega, by simp, by simp [a6], by simp [a1], A.trans A2, fun j hj hj' => ?_, q2⟩, ?_⟩
        · by_cases e : j = m
          · subst e; omega
          · have := List.pairwise_iff_getElem.1 hs j m hj hmid (by omega)
            omega
        · simp [SM, a5, a6]; omega
    · have he : lo = hi := by omega
      subst he
      simp [pc28_l1, pc28_r1, a5, a6]
      exact h _ _ h2 q1 q2 A
  simp [pc28]
  refine start _ ⟨0, l.length, by omega, by omega, by simp, by simp, by simp, .refl _, fun j _ hj => by omega, fun j hj hj' => by omega⟩
end Go.Proofs.YtmbibfeiemblkaaDoor
