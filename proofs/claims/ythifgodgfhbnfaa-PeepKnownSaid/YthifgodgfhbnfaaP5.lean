/- Part of the proofs of layer 22's statements: P5 (what peep's functions do, in lists of instructions, under the conditions that each theorem names). -/
import Derived.Test.YthifgodgfhbnfaaP4
set_option linter.unusedSimpArgs false
set_option linter.unusedVariables false
namespace Go.Proofs.Ythifgodgfhbnfaa
open Go Go.Abs
theorem list_row {G : Nat → AV} {x b rows rec} (IH : RecOk G x (.sl (.stat b) 1 rows) rec) (gr : Grows rec)
    {σ : AS} {at_ : Int} {to to1 : To} {ws l : List W} {row : AV} {R : Out → AS → Prop} (hm : Maker σ x (.sl (.stat b) 1 rows) to) (h0 : 0 ≤ at_) (hr : rows[at_.toNat]? = some row) (hrow : RepL row ws) (hlen : ws.length ≤ 2 ^ 30) (hp : ploop rec ws [] to = some (l, to1)) (hb : to1.length + 1 ≤ 2 ^ 30)
    (fin : ∀ a τ, a 0 = .ptr x 0 → RL τ x σ.nf (a 5) l → Keep x σ τ → Maker τ x (.sl (.stat b) 1 rows) to1 → avc Try.prog G 78 pc14_r1 (afin Try.prog [.tmp 4] R) a τ) : ACalls Try.prog G 14 [.ptr x 0, .int .i64 at_] σ R := by
  refine calls14 rfl ?_
  have hM := hm
  obtain ⟨hx, tv, ho, ht⟩ := hm
  have start : ∀ a, a 0 = .ptr x 0 → a 17 = row → a 18 = .int .i64 (ws.length : Int) → a 19 = .int .i64 0 → a 5 = .nilsl → LI rec σ x (.sl (.stat b) 1 rows) row ws l to1 a σ := by
    intro a a0 a17 a18 a19 a5
    exact ⟨0, [], to, Nat.zero_le _, Nat.le_refl _, a0, a17, a18, by simpa using a19, .inl ⟨rfl, a5⟩, .refl .., hM, by simpa using hp⟩
  have go : ∀ a, a 0 = .ptr x 0 → a 17 = row → a 18 = .int .i64 (ws.length : Int) → a 19 = .int .i64 0 → a 5 = .nilsl →
      ALoop Try.prog G 78 pc14_l1 (ablock 0 (athen (avc Try.prog G 78 pc14_r1 (afin Try.prog [.tmp 4] R)) (afin Try.prog [.tmp 4] R))) a σ :=
    fun a a0 a17 a18 a19 a5 => list_loop IH gr hrow hlen hb hx fin (start a a0 a17 a18 a19 a5)
  clear start fin
  rcases hrow with ⟨rfl, rfl⟩ | ⟨b2, rfl⟩
  · simp [pc14, ho, hr, h0]
    refine go _ ?_ ?_ ?_ ?_ ?_ <;> simp
  · simp [pc14, ho, hr, h0]
    refine go _ ?_ ?_ ?_ ?_ ?_ <;> simp

theorem list_calls {G : Nat → AV} {x fv rec} (IH : RecOk G x fv rec) (gr : Grows rec) {frm : To} (hf : FromV fv frm) (hl : ∀ ws ∈ frm, ws.length ≤ 2 ^ 30)
    {σ : AS} {at_ : Int} {to to1 : To} {ws l : List W} {R : Out → AS → Prop} (hm : Maker σ x fv to) (h0 : 0 ≤ at_) (hw : frm[at_.toNat]? = some ws) (hp : ploop rec ws [] to = some (l, to1)) (hb : to1.length + 1 ≤ 2 ^ 30)
    (h : ∀ σ', Keep x σ σ' → Maker σ' x fv (to1 ++ [l]) → R (.ret (.int .i64 to1.length)) σ') : ACalls Try.prog G 14 [.ptr x 0, .int .i64 at_] σ R := by
  refine freezeOr ?_
  have hf' := hf
  obtain ⟨b, rows, rfl, hrows⟩ := hf
  obtain ⟨row, hr, hrow⟩ := hrows.get hw
  have hlen := hl ws (List.mem_of_getElem? hw)
  refine list_row IH gr hm h0 hr hrow hlen hp hb fun a τ a0 a5 k m => ?_
  have key : (a 5).cells = [a 5] ∧ (a 5).known = true ∧ (a 5).one = true := by
    rcases a5 with ⟨_, e⟩ | ⟨f, e, _⟩ <;> rw [e] <;> simp
  exact list_fin m a0 rfl key.1 key.2.1 key.2.2 hb fun τ' tos ht e1 e2 e3 e4 e5 => list_end hf' k m a5 ht e1 e2 e3 e4 e5 h

theorem plist_grows (frm : To) : ∀ k, Grows (plist frm k)
  | 0, _, _, _, _, h => by simp [plist] at h
  | k + 1, at_, to, n, to', h => by
    unfold plist at h
    split at h
    · cases h
    split at h
    · cases h
    split at h
    · cases h
    rename_i l to1 h1
    cases h
    have := loop_grows (plist_grows frm k) h1
    simp; omega

/-- THE LIST-MAKER's CONTRACT. -/
theorem plist_ok {G : Nat → AV} {x fv} {frm : To} (hf : FromV fv frm) (hl : ∀ ws ∈ frm, ws.length ≤ 2 ^ 30) : ∀ k, RecOk G x fv (plist frm k)
  | 0, _, _, _, _, _, _, _, h, _, _ => by simp [plist] at h
  | k + 1, σ, at_, to, n, to', R, hm, h, hb, hR => by
    unfold plist at h
    split at h
    · cases h
    rename_i h0
    split at h
    · cases h
    rename_i ws hw
    split at h
    · cases h
    rename_i l to1 h1
    cases h
    exact list_calls (plist_ok hf hl k) (plist_grows frm k) hf hl hm (by omega) hw h1 (by simpa using hb) hR
end Go.Proofs.Ythifgodgfhbnfaa
