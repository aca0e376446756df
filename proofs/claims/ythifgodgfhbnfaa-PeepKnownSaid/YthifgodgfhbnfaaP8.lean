/- Part of the proofs of layer 22's statements: P8 (what peep's functions do, in lists of instructions, under the conditions that each theorem names). -/
import Derived.Test.YthifgodgfhbnfaaP7
set_option linter.unusedSimpArgs false
set_option linter.unusedVariables false
namespace Go.Proofs.Ythifgodgfhbnfaa
open Go Go.Abs
theorem FsV.one {v l} (h : FsV v l) : v.known = true ∧ v.one = true ∧ v.cells = [v] := by
  rcases h with ⟨_, rfl⟩ | ⟨b, _, rfl, _⟩ <;> simp
/-- PEEP's CONTRACT. -/
theorem peep_calls {G : Nat → AV} {k : Nat} {m : M} {mv : AV} {fs' : List F} {σ : AS} {R : Out → AS → Prop} (hm : MV mv m) (hlen : m.funcs.length ≤ 2 ^ 30) (hok : ∀ f ∈ m.funcs, FOk k f) (hp : peepFs k m.funcs = some fs')
    (h : ∀ v' σ', MV v' ⟨fs', m.memory, m.main⟩ → Adds σ σ' → R (.ret v') σ') : ACalls Try.prog G 10 [mv] σ R := by
  refine freezing (calls10 rfl ?_)
  obtain ⟨fsv, rfl, hfs⟩ := hm
  have h1 := hfs.one
  have fin : ∀ (rc : List AV) (a : Nat → AV) (τ : AS) (ov : AV), rc.length = 3 → a 2 = .ptr (σ.no + 1) 0 → a 3 = .ptr (σ.no + 1 + 1) 0 → τ.objs (σ.no + 1) = some rc → τ.objs (σ.no + 1 + 1) = some [ov, .int .i64 m.memory, .int .i64 m.main] → OutV τ σ.nf ov fs' → Adds σ τ →
      avc Try.prog G 50 pc10_r1 (afin Try.prog [.cell 2 30] (FrzOr R)) a τ := by
    intro rc a τ ov hrc a2 a3 o1 o2 hov hA
    obtain ⟨x, y, z, rfl⟩ : ∃ x y z, rc = [x, y, z] := by
      match rc, hrc with
      | [x, y, z], _ => exact ⟨x, y, z, rfl⟩
    rcases hov with ⟨rfl, rfl⟩ | ⟨g, orows, rfl, g1, g2, g3, g4⟩
    · simp [pc10_r1, a2, a3, o1, o2, splice]
      exact .inl (h _ _ ⟨_, rfl, .inl ⟨rfl, rfl⟩⟩ (hA.setO (by omega)))
    · simp [pc10_r1, a2, a3, o1, o2, splice]
      refine .froze g (fun _ => false) (by simpa using g3) ?_
      have := h (.agg [.sl (.stat false) 5 orows, .int .i64 m.memory, .int .i64 m.main]) _ ⟨_, rfl, .inr ⟨_, _, rfl, g4⟩⟩ ((hA.setO (o := σ.no + 1) (cs := [.sl (.fam g false) 5 orows, .int .i64 m.memory, .int .i64 m.main]) (by omega)).frz (f := g) (p := fun _ => false) g1 (fun _ _ => rfl))
      simpa [frz_FVs g4] using this
  have start : ∀ a rc τ, τ.objs (σ.no + 1) = some rc → rc.length = 3 → τ.objs (σ.no + 1 + 1) = some [.nilsl, .int .i64 m.memory, .int .i64 m.main] → σ.no + 1 + 1 < τ.no → Adds σ τ → a 2 = .ptr (σ.no + 1) 0 → a 3 = .ptr (σ.no + 1 + 1) 0 → a 13 = fsv → a 14 = .int .i64 (m.funcs.length : Int) → a 15 = .int .i64 0 →
      ALoop Try.prog G 50 pc10_l1 (ablock 0 (athen (avc Try.prog G 50 pc10_r1 (afin Try.prog [.cell 2 30] (FrzOr R))) (afin Try.prog [.cell 2 30] (FrzOr R)))) a τ := by
    intro a rc τ o1 hrc o2 o3 hA a2 a3 a13 a14 a15
    exact peep_loop (r := σ.no + 1) (o := σ.no + 1 + 1) (σ := σ) (rc := rc) (k := k) (by omega) (by omega) (by omega) hfs hlen hok (fun a τ ov b2 b3 c1 c2 c3 c4 => fin rc a τ ov hrc b2 b3 c1 c2 c3 c4)
      ⟨0, [], fs', .nilsl, by omega, rfl, a2, a3, a13, a14, by simpa using a15, o1, o2, by omega, o3, .inl ⟨rfl, rfl⟩, by simpa using hp, by simp, hA⟩
  clear fin
  have A0 : ∀ c1 c2 c3 c4, Adds σ ((((σ.newO c1).newO c2).newO c3).setO (σ.no + 1 + 1) c4) := fun _ _ _ _ => ((((Adds.refl σ).newO).newO).newO).setO (by omega)
  have e2 : ¬ σ.no = σ.no + 1 + 1 := by omega
  have e1 : ¬ σ.no + 1 = σ.no + 1 + 1 := by omega
  rcases hfs with ⟨e, rfl⟩ | ⟨b, rows, rfl, hr⟩
  · simp [pc10, splice, e1, e2]
    refine start _ [.nilsl, .int .i64 0, .int .i64 0] _ ?_ rfl ?_ ?_ (A0 _ _ _ _) ?_ ?_ ?_ ?_ ?_ <;> simp [e]
  · have hl := hr.length
    simp [pc10, splice, e1, e2]
    refine start _ [.nilsl, .int .i64 0, .int .i64 0] _ ?_ rfl ?_ ?_ (A0 _ _ _ _) ?_ ?_ ?_ ?_ ?_ <;> simp [hl]
end Go.Proofs.Ythifgodgfhbnfaa
