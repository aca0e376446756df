/- Part of the proofs of layer 26's statements: L11 (what the functions of lines and of its reference do, under the conditions that each theorem names). -/
import Derived.Test.YtmbibfeiemblkaaDoorL10
set_option linter.unusedSimpArgs false
set_option linter.unusedVariables false
namespace Go.Proofs.YtmbibfeiemblkaaDoor
open Go Go.Abs
def atP (t : List UInt8) (n c : Int) (i : Nat) : Prop := ((wp t i).1 : Int) = n ∧ ((wp t i).2 : Int) = c
def PI (t : List UInt8) (n c : Int) (σ : AS) (a : Nat → AV) (τ : AS) : Prop := ∃ i : Nat, i ≤ t.length + 1 ∧ a 0 = .str t ∧ a 1 = .int .i64 n ∧ a 2 = .int .i64 c ∧ a 8 = .int .i64 (i : Int) ∧ τ = σ ∧ ∀ j, j < i → ¬ atP t n c j
theorem refPlace_calls {G : Env} {t : List UInt8} {n c : Int} {σ : AS} {R : Out → AS → Prop} (hl : t.length ≤ 2 ^ 30) (h1 : ∀ i, i ≤ t.length → atP t n c i → R (.ret (.tuple [.int .i64 (i : Int), .bool true])) σ) (h2 : (∀ i, i ≤ t.length → ¬ atP t n c i) → R (.ret (.tuple [.int .i64 0, .bool false])) σ) : ACalls Tryd.prog G 15 [.str t, .int .i64 n, .int .i64 c] σ R := by
  refine calls15 rfl ?_
  simp [pc15]
  refine aloop (PI t n c σ) (MU 8 (t.length + 1)) ⟨0, Nat.zero_le _, by simp, by simp, by simp, by simp, rfl, fun j h => absurd h (Nat.not_lt_zero _)⟩ fun a τ hI => ?_
  obtain ⟨i, hi, a0, a1, a2, a8, rfl, hn⟩ := hI
  by_cases hlt : i ≤ t.length
  · have hw3 : IntKind.wrap .i64 ((i : Int) + 1) = ((i + 1 : Nat) : Int) := by rw [wrap_i64] <;> omega
    have hcl : clamp t (i : Int) = i := by unfold clamp; omega
    have hle : (i : Int) ≤ (t.length : Int) := by omega
    simp [pc15_l1, a0, a1, a2, a8, hle]
    refine refWhere_calls hl ?_
    rw [whereP_wp, hcl]
    by_cases e1 : ((wp t i).1 : Int) = n
    · by_cases e2 : ((wp t i).2 : Int) = c
      · simp [e1, e2, a0, a1, a2, a8]
        exact h1 i hlt ⟨e1, e2⟩
      · simp [e1, e2, a0, a1, a2, a8, hw3]
        refine ⟨⟨i + 1, by omega, by simp [a0], by simp [a1], by simp [a2], by simp, rfl, fun j hj => ?_⟩, by simp [MU, a8]; omega⟩
        rcases Nat.lt_or_ge j i with hh | hh
        · exact hn j hh
        · have : j = i := by omega
          subst this; exact fun e => e2 e.2
    · simp [e1, a0, a1, a2, a8, hw3]
      refine ⟨⟨i + 1, by omega, by simp [a0], by simp [a1], by simp [a2], by simp, rfl, fun j hj => ?_⟩, by simp [MU, a8]; omega⟩
      rcases Nat.lt_or_ge j i with hh | hh
      · exact hn j hh
      · have : j = i := by omega
        subst this; exact fun e => e1 e.1
  · have hle : ¬ (i : Int) ≤ (t.length : Int) := by omega
    simp [pc15_l1, pc15_r1, a0, a1, a2, a8, hle]
    exact h2 fun j hj => hn j (by omega)
/-- the lines, and the text behind the last line feed -/
def acc : List UInt8 → List (List UInt8) × List UInt8
  | t => t.foldl (fun s c => if c = 10 then (s.1 ++ [s.2], []) else (s.1, s.2 ++ [c])) ([], [])
theorem acc_snoc (t : List UInt8) (c : UInt8) : acc (t ++ [c]) = if c = 10 then ((acc t).1 ++ [(acc t).2], []) else ((acc t).1, (acc t).2 ++ [c]) := by
  simp [acc, List.foldl_append]
def allL (t : List UInt8) : List (List UInt8) := (acc t).1 ++ [(acc t).2]
theorem acc_len (t : List UInt8) : (acc t).1.length ≤ t.length ∧ (acc t).2.length ≤ t.length := by
  rw [← List.reverse_reverse t]
  induction t.reverse with
  | nil => simp [acc]
  | cons c l ih =>
    rw [List.reverse_cons, acc_snoc]
    split <;> simp at ih ⊢ <;> omega
@[simp] theorem abin_add_str {P : Program} (t) (x y : List UInt8) {K : AV → Prop} : abin P .add t (.str x) (.str y) K = (x.length + y.length < 2 ^ 62 ∧ K (.str (x ++ y))) := by simp only [abin, strCmp]
def strs (l : List (List UInt8)) : List AV := l.map AV.str
def AI (t : List UInt8) (σ : AS) (a : Nat → AV) (τ : AS) : Prop := ∃ i : Nat, i ≤ t.length ∧ a 0 = .str t ∧ a 4 = .str (acc (t.take i)).2 ∧ a 5 = .int .i64 (i : Int) ∧ Adds σ τ ∧
  ((a 3 = .nilsl ∧ (acc (t.take i)).1 = []) ∨ ∃ f, a 3 = .sl (.fam f false) 1 (strs (acc (t.take i)).1) ∧ σ.nf ≤ f ∧ f < τ.nf ∧ τ.F f = .alive)
theorem refAll_calls {G : Env} {t : List UInt8} {σ : AS} {R : Out → AS → Prop} (hl : t.length ≤ 2 ^ 30) (h : ∀ σ' f, Adds σ σ' → f < σ'.nf → σ'.F f = .alive → R (.ret (.sl (.fam f false) 1 (strs (allL t)))) σ') : ACalls Tryd.prog G 17 [.str t] σ R := by
  refine calls17 rfl ?_
  simp [pc17]
  refine aloop (AI t σ) (MU 5 t.length) ⟨0, Nat.zero_le _, by simp, by simp [acc], by simp, .refl σ, .inl (by simp [acc])⟩ fun a τ hI => ?_
  obtain ⟨i, hi, a0, a4, a5, A, h3⟩ := hI
  obtain ⟨l1, l2⟩ := acc_len (t.take i)
  simp at l1 l2
  by_cases hlt : i < t.length
  · have hw3 : IntKind.wrap .i64 ((i : Int) + 1) = ((i + 1 : Nat) : Int) := by rw [wrap_i64] <;> omega
    have etake : t.take (i + 1) = t.take i ++ [t[i]] := by simp
    have next : ∀ (a' : Nat → AV) (τ' : AS), a' 0 = .str t → a' 4 = .str (acc (t.take (i + 1))).2 → a' 5 = .int .i64 ((i + 1 : Nat) : Int) → Adds σ τ' →
        ((a' 3 = .nilsl ∧ (acc (t.take (i + 1))).1 = []) ∨ ∃ f, a' 3 = .sl (.fam f false) 1 (strs (acc (t.take (i + 1))).1) ∧ σ.nf ≤ f ∧ f < τ'.nf ∧ τ'.F f = .alive) → AI t σ a' τ' ∧ MU 5 t.length a' τ' < MU 5 t.length a τ := by
      intro a' τ' b0 b4 b5 c1 c2
      refine ⟨⟨i + 1, hlt, b0, b4, b5, c1, c2⟩, ?_⟩
      simp [MU, a5, b5]; omega
    by_cases hc : t[i] = 10
    · have hc' : (t[i].toNat : Int) = 10 := by rw [hc]; rfl
      have e : acc (t.take (i + 1)) = ((acc (t.take i)).1 ++ [(acc (t.take i)).2], []) := by rw [etake, acc_snoc, if_pos hc]
      rcases h3 with ⟨a3, ha⟩ | ⟨f, a3, f1, f2, f3⟩
      · simp [pc17_l1, a0, a3, a4, a5, hlt, hc', hw3, splice]
        refine next _ _ (by simp [a0]) (by simp [e]) (by simp) A.newF (.inr ⟨τ.nf, ?_, A.nf, by simp, by simp⟩)
        simp [e, ha, strs]
      · simp [pc17_l1, a0, a3, a4, a5, hlt, hc', hw3, splice, f3]
        refine ⟨by simp [strs]; omega, next _ _ (by simp [a0]) (by simp [e]) (by simp) (A.setF f1).newF (.inr ⟨τ.nf, ?_, A.nf, by simp, by simp⟩)⟩
        simp [e, strs]
    · have hc' : ¬ (t[i].toNat : Int) = 10 := fun e => hc ((byte_eq _ 10).1 e)
      have e : acc (t.take (i + 1)) = ((acc (t.take i)).1, (acc (t.take i)).2 ++ [t[i]]) := by rw [etake, acc_snoc, if_neg hc]
      have ed : (t.take (i + 1)).drop i = [t[i]] := by rw [etake, List.drop_append, List.drop_take]; simp [Nat.min_eq_left (Nat.le_of_lt hlt)]
      have q1 : (i : Int) ≤ (i : Int) + 1 := by omega
      have q2 : (i : Int) + 1 ≤ (t.length : Int) := by omega
      have q3 : (acc (t.take i)).2.length + 1 < 2 ^ 62 := by omega
      simp [pc17_l1, a0, a4, a5, hlt, hc', hw3, q1, q2]
      rw [ed]
      refine ⟨by omega, ?_⟩
      refine next _ _ (by simp [a0]) (by simp [e]) (by simp) A ?_
      simp only [e]
      simpa using h3
  · have he : i = t.length := by omega
    subst he
    rw [List.take_length] at *
    rcases h3 with ⟨a3, ha⟩ | ⟨f, a3, f1, f2, f3⟩
    · simp [pc17_l1, pc17_r1, a0, a3, a4, a5, splice]
      have := h τ.newF τ.nf A.newF (by simp) (by simp)
      simpa [allL, ha, strs] using this
    · simp [pc17_l1, pc17_r1, a0, a3, a4, a5, splice, f3]
      refine ⟨by simp [strs]; omega, ?_⟩
      have := h (τ.setF f .dead).newF τ.nf (A.setF f1).newF (by simp) (by simp)
      simpa [allL, strs] using this
end Go.Proofs.YtmbibfeiemblkaaDoor
