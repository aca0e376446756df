/- Part of the proofs of layer 22's statements: P9 (what peep's functions do, in lists of instructions, under the conditions that each theorem names). -/
import Derived.Test.YthifgodgfhbnfaaP8
set_option linter.unusedSimpArgs false
set_option linter.unusedVariables false
namespace Go.Proofs.Ythifgodgfhbnfaa
open Go Go.Abs
def wN (n : Int) : W := ⟨1, 1, n, 0, 0, []⟩
def wO (o t : Int) : W := ⟨o, t, 0, 0, 0, []⟩
theorem Adds.mk1 {σ : AS} {c1 c2} : Adds σ ((σ.newO c1).setO σ.no c2) := ((Adds.refl σ).newO).setO (Nat.le_refl _)
theorem number_calls {G : Nat → AV} {n : Int} {σ : AS} {R : Out → AS → Prop} (h : ∀ σ', Adds σ σ' → R (.ret (wN n).av) σ') : ACalls Try.prog G 5 [.int .i64 n] σ R := by
  refine calls5 rfl ?_
  simp [pc5, splice]
  exact h _ .mk1
theorem back_calls {G : Nat → AV} {σ : AS} {R : Out → AS → Prop} (h : ∀ σ', Adds σ σ' → R (.ret (wO 16 0).av) σ') : ACalls Try.prog G 6 [] σ R := by
  refine calls6 rfl ?_
  simp [pc6, splice]
  exact h _ .mk1
theorem get_calls {G : Nat → AV} {σ : AS} {R : Out → AS → Prop} (h : ∀ σ', Adds σ σ' → R (.ret (wO 2 0).av) σ') : ACalls Try.prog G 7 [] σ R := by
  refine calls7 rfl ?_
  simp [pc7, splice]
  exact h _ .mk1
theorem drop_calls {G : Nat → AV} {σ : AS} {R : Out → AS → Prop} (h : ∀ σ', Adds σ σ' → R (.ret (wO 18 0).av) σ') : ACalls Try.prog G 8 [] σ R := by
  refine calls8 rfl ?_
  simp [pc8, splice]
  exact h _ .mk1
theorem eqz_calls {G : Nat → AV} {σ : AS} {R : Out → AS → Prop} (h : ∀ σ', Adds σ σ' → R (.ret (wO 5 1).av) σ') : ACalls Try.prog G 9 [] σ R := by
  refine calls9 rfl ?_
  simp [pc9, splice]
  exact h _ .mk1
/-- a list of instructions that may be read -/
def SlW (σ : AS) (v : AV) (l : List W) : Prop := (l = [] ∧ v = .nilsl) ∨ ∃ φ, v = .sl φ 6 (l.map W.av) ∧ Readable σ.F φ
theorem RepL.slw {σ : AS} {v l} (h : RepL v l) : SlW σ v l := by
  rcases h with h | ⟨b, rfl⟩
  · exact .inl h
  · exact .inr ⟨_, rfl, trivial⟩
def mainF (to : To) : F := ⟨[109, 97, 105, 110], [], [1], 1, to⟩
theorem of_calls {G : Nat → AV} {v : AV} {to : To} {σ : AS} {R : Out → AS → Prop} (hv : FromV v to) (h : ∀ v' σ', MV v' ⟨[mainF to], 0, 0⟩ → Adds σ σ' → R (.ret v') σ') : ACalls Try.prog G 11 [v] σ R := by
  refine calls11 rfl ?_
  obtain ⟨b, rows, rfl, hr⟩ := hv
  have := h (.agg [.sl (.stat true) 5 [.agg [.str [109, 97, 105, 110], .nilsl, .sl (.stat true) 1 [.int .i64 1], .int .i64 1, .sl (.stat b) 1 rows]], .int .i64 0, .int .i64 0]) ((σ.newO [.nilsl, .int .i64 0, .int .i64 0]).setO σ.no [.sl (.stat true) 5 [.agg [.str [109, 97, 105, 110], .nilsl, .sl (.stat true) 1 [.int .i64 1], .int .i64 1, .sl (.stat b) 1 rows]], .int .i64 0, .int .i64 0]) ⟨_, rfl, .inr ⟨_, _, rfl, .cons ⟨_, _, _, rfl, .inl ⟨rfl, rfl⟩, .inr ⟨_, rfl⟩, .inr ⟨_, _, rfl, hr⟩⟩ .nil⟩⟩ .mk1
  simpa [pc11, splice] using this

theorem aeqW (w u : W) : aeq Try.prog 24 (.agg [.int .i64 w.op, .int .i64 w.ty, .int .i64 w.n, .int .i64 w.body, .int .i64 w.other, .str w.name]) (.agg [.int .i64 u.op, .int .i64 u.ty, .int .i64 u.n, .int .i64 u.body, .int .i64 u.other, .str u.name]) = some (decide (w = u)) := by
  simp [aeq, aeqFs]
  have key : (w = u) ↔ (w.op = u.op ∧ w.ty = u.ty ∧ w.n = u.n ∧ w.body = u.body ∧ w.other = u.other ∧ w.name = u.name) := by
    constructor
    · rintro rfl; simp
    · rintro ⟨h1, h2, h3, h4, h5, h6⟩
      cases w; cases u; simp_all
  by_cases h1 : w.op = u.op <;> by_cases h2 : w.ty = u.ty <;> by_cases h3 : w.n = u.n <;> by_cases h4 : w.body = u.body <;> by_cases h5 : w.other = u.other <;> by_cases h6 : w.name = u.name <;> simp [key, h1, h2, h3, h4, h5, h6]

def SI (va vb : AV) (a b : List W) (σ : AS) (f : Nat → AV) (τ : AS) : Prop := ∃ i : Nat, i ≤ a.length ∧ f 0 = va ∧ f 1 = vb ∧ f 5 = .int .i64 (i : Int) ∧ a.take i = b.take i ∧ τ = σ
def SM (a : List W) (f : Nat → AV) (_ : AS) : Nat := match f 5 with
  | .int _ n => a.length - n.toNat
  | _ => 0
theorem SlW.len {σ v l} (h : SlW σ v l) {Q : Int → Prop} (hq : Q l.length) : alen Try.prog 27 v (fun x => ∃ n, x = .int .i64 n ∧ Q n) := by
  rcases h with ⟨rfl, rfl⟩ | ⟨φ, rfl, _⟩ <;> simp <;> exact hq

theorem same_calls {G : Nat → AV} {va vb : AV} {a b : List W} {σ : AS} {R : Out → AS → Prop} (ha : SlW σ va a) (hb : SlW σ vb b) (hl : a.length ≤ 2 ^ 30) (h : R (.ret (.bool (decide (a = b)))) σ) : ACalls Try.prog G 12 [va, vb] σ R := by
  refine calls12 rfl ?_
  by_cases hab : a.length = b.length
  · have loop : ∀ f, f 0 = va → f 1 = vb → f 5 = .int .i64 0 → ALoop Try.prog G 27 pc12_l1 (ablock 0 (athen (avc Try.prog G 27 pc12_r1 (afin Try.prog [.tmp 4] R)) (afin Try.prog [.tmp 4] R))) f σ := by
      intro f f0 f1 f5
      refine aloop (SI va vb a b σ) (SM a) ⟨0, Nat.zero_le _, f0, f1, by simpa using f5, by simp, rfl⟩ fun f τ ⟨i, hi, f0, f1, f5, ht, hτ⟩ => ?_
      subst hτ
      have hmu : SM a f τ = a.length - i := by simp [SM, f5]
      by_cases hlt : i < a.length
      · have hltb : i < b.length := by omega
        obtain ⟨φ, rfl, hφ⟩ : ∃ φ, va = .sl φ 6 (a.map W.av) ∧ Readable τ.F φ := by
          rcases ha with ⟨rfl, _⟩ | ha
          · simp at hlt
          · exact ha
        obtain ⟨ψ, rfl, hψ⟩ : ∃ φ, vb = .sl φ 6 (b.map W.av) ∧ Readable τ.F φ := by
          rcases hb with ⟨rfl, _⟩ | hb
          · simp at hltb
          · exact hb
        have hw2 : IntKind.wrap .i64 ((i : Int) + 1) = (i : Int) + 1 := by rw [wrap_i64] <;> omega
        have ea : a.take (i + 1) = a.take i ++ [a[i]] := by simp
        have eb : b.take (i + 1) = b.take i ++ [b[i]] := by simp
        by_cases hw : a[i] = b[i]
        · simp [pc12_l1, f0, f1, f5, hlt, hltb, W.av, W.cs, hφ, hψ, aeqW, hw, hw2]
          refine ⟨⟨i + 1, hlt, by simp [f0, W.av, W.cs], by simp [f1, W.av, W.cs], by simp, by rw [ea, eb, ht, hw], rfl⟩, ?_⟩
          rw [hmu]
          have : ((i : Int) + 1).toNat = i + 1 := by omega
          simp [SM, this]; omega
        · have hne : ¬ a = b := fun e => hw (by subst e; rfl)
          simp [hne] at h
          simp [pc12_l1, f0, f1, f5, hlt, hltb, W.av, W.cs, hφ, hψ, aeqW, hw, hw2, h]
      · have he : i = a.length := by omega
        subst he
        have e : a = b := by rw [List.take_length, hab, List.take_length] at ht; exact ht
        have hla : a.length = b.length := hab
        simp [e] at h
        rcases ha with ⟨rfl, rfl⟩ | ⟨φ, rfl, hφ⟩
        · simp [pc12_l1, pc12_r1, f0, f1, f5, h]
        · simp [pc12_l1, pc12_r1, f0, f1, f5, h]
    rcases ha with ⟨rfl, rfl⟩ | ⟨φ, rfl, hφ⟩ <;> rcases hb with ⟨rfl, rfl⟩ | ⟨ψ, rfl, hψ⟩
    · simp [pc12]
      refine loop _ ?_ ?_ ?_ <;> simp
    · simp at hab
      simp [pc12, ← hab]
      refine loop _ ?_ ?_ ?_ <;> simp
    · simp at hab
      subst hab
      simp [pc12]
      refine loop _ ?_ ?_ ?_ <;> simp
    · simp [pc12, hab]
      refine loop _ ?_ ?_ ?_ <;> simp
  · have hne : ¬ a = b := fun e => hab (by rw [e])
    have hi : ¬ (a.length : Int) = b.length := by omega
    simp [hne] at h
    rcases ha with ⟨rfl, rfl⟩ | ⟨φ, rfl, hφ⟩ <;> rcases hb with ⟨rfl, rfl⟩ | ⟨ψ, rfl, hψ⟩
    · simp at hab
    · simp at hab
      have hi' : ¬ (0 : Int) = b.length := by simpa using hi
      simp [pc12, hi', h]
    · simp at hab
      have hi' : ¬ (a.length : Int) = 0 := by simpa using hi
      simp [pc12, hab, h]
    · simp [pc12, hi, h]
end Go.Proofs.Ythifgodgfhbnfaa
