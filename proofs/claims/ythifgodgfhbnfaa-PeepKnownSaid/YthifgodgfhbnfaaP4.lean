/- Part of the proofs of layer 22's statements: P4 (what peep's functions do, in lists of instructions, under the conditions that each theorem names). -/
import Derived.Test.YthifgodgfhbnfaaP3
set_option linter.unusedSimpArgs false
set_option linter.unusedVariables false
namespace Go.Proofs.Ythifgodgfhbnfaa
open Go Go.Abs
theorem plists_grows {rec} (gr : Grows rec) {w to w' to'} (h : plists rec w to = some (w', to')) : to.length ≤ to'.length := by
  unfold plists at h
  split at h
  · split at h
    · cases h
    · rename_i b to1 h1
      split at h
      · split at h
        · cases h
        · rename_i o to2 h2
          cases h; exact Nat.le_trans (gr _ _ _ _ h1) (gr _ _ _ _ h2)
      · cases h; exact gr _ _ _ _ h1
  · split at h
    · split at h
      · cases h
      · rename_i b to1 h1
        cases h; exact gr _ _ _ _ h1
    · cases h; exact Nat.le_refl _
theorem chosen_grows {rec} (gr : Grows rec) {n w to l to'} (h : pchosen rec n w to = some (l, to')) : to.length ≤ to'.length := by
  unfold pchosen at h
  simp only at h
  generalize (if n = 0 then w.other else w.body) = t at h
  split at h
  · cases h; exact Nat.le_refl _
  · split at h
    · cases h
    · rename_i b to1 h1
      cases h; exact gr _ _ _ _ h1
theorem together_grows {rec} (gr : Grows rec) {w u to l is to'} (h : ptogether rec w u to = some (l, is, to')) : to.length ≤ to'.length := by
  unfold ptogether at h
  simp only at h
  split at h
  · cases h; exact Nat.le_refl _
  split at h
  · cases h; exact Nat.le_refl _
  split at h
  · split at h <;> cases h <;> exact Nat.le_refl _
  split at h
  · split at h
    · split at h
      · cases h
      · rename_i l1 to1 hc
        cases h; exact chosen_grows gr hc
    · cases h; exact Nat.le_refl _
  · cases h; exact Nat.le_refl _
theorem loop_grows {rec} (gr : Grows rec) : ∀ {ws l to l' to'}, ploop rec ws l to = some (l', to') → to.length ≤ to'.length := by
  intro ws
  induction ws with
  | nil => intro l to l' to' h; simp [ploop] at h; rw [h.2]; exact Nat.le_refl _
  | cons w ws ih =>
    intro l to l' to' h
    unfold ploop at h
    split at h
    · split at h
      · cases h
      · rename_i w' to2 h1
        exact Nat.le_trans (plists_grows gr h1) (ih h)
    · split at h
      · cases h; exact Nat.le_refl _
      · split at h
        · cases h
        · rename_i two is to1 h1
          split at h
          · exact Nat.le_trans (together_grows gr h1) (ih h)
          · split at h
            · cases h
            · rename_i w' to2 h2
              exact Nat.le_trans (Nat.le_trans (together_grows gr h1) (plists_grows gr h2)) (ih h)

def LI (rec : Rec) (σ : AS) (x : Nat) (fv row : AV) (ws lfin : List W) (tofin : To) (a : Nat → AV) (τ : AS) : Prop := ∃ (i : Nat) (l : List W) (to : To),
  i ≤ ws.length ∧ l.length ≤ i ∧ a 0 = .ptr x 0 ∧ a 17 = row ∧ a 18 = .int .i64 (ws.length : Int) ∧ a 19 = .int .i64 (i : Int) ∧ RL τ x σ.nf (a 5) l ∧ Keep x σ τ ∧ Maker τ x fv to ∧ ploop rec (ws.drop i) l to = some (lfin, tofin)
def LM (ws : List W) (a : Nat → AV) (_ : AS) : Nat := match a 19 with
  | .int _ n => ws.length - n.toNat
  | _ => 0

theorem list_loop {G : Nat → AV} {x fv rec} (IH : RecOk G x fv rec) (gr : Grows rec) {σ : AS} {row : AV} {ws lfin : List W} {tofin : To} {R : Out → AS → Prop} (hrow : RepL row ws) (hlen : ws.length ≤ 2 ^ 30) (hb : tofin.length + 1 ≤ 2 ^ 30) (hxs : x < σ.no)
    (fin : ∀ a τ, a 0 = .ptr x 0 → RL τ x σ.nf (a 5) lfin → Keep x σ τ → Maker τ x fv tofin → avc Try.prog G 78 pc14_r1 (afin Try.prog [.tmp 4] R) a τ)
    {a : Nat → AV} {τ : AS} (hI : LI rec σ x fv row ws lfin tofin a τ) :
    ALoop Try.prog G 78 pc14_l1 (ablock 0 (athen (avc Try.prog G 78 pc14_r1 (afin Try.prog [.tmp 4] R)) (afin Try.prog [.tmp 4] R))) a τ := by
  refine aloop (LI rec σ x fv row ws lfin tofin) (LM ws) hI fun a τ hI => ?_
  obtain ⟨i, l, to, hi, hli, h0, h17, h18, h19, hR, hK, hM, hp⟩ := hI
  have hx := hM.1
  have hmu : LM ws a τ = ws.length - i := by simp [LM, h19]
  by_cases hlt : i < ws.length
  · obtain ⟨w, hw'⟩ : ∃ w, ws[i] = w := ⟨ws[i], rfl⟩
    have hd : ws.drop i = w :: ws.drop (i + 1) := by
      rw [List.drop_eq_getElem_cons hlt, hw']
    rw [hd] at hp
    have K1 : ∀ c1 c2, Keep x σ ((τ.newO c1).setO τ.no c2) := fun _ _ => (hK.addO hxs).setO hK.no hxs
    have M1 : ∀ c1 c2, Maker ((τ.newO c1).setO τ.no c2) x fv to := fun _ _ => hM.mono_newO.setO (by omega)
    have R1 : ∀ c1 c2, RL ((τ.newO c1).setO τ.no c2) x σ.nf (a 5) l := fun c1 c2 => hR.mono ((Keep.newO hx).setO (Nat.le_refl _) hx)
    have KR : ∀ c1 c2, Keep x τ ((τ.newO c1).setO τ.no c2) := fun _ _ => (Keep.newO hx).setO (Nat.le_refl _) hx
    -- the round's end
    have next : ∀ (a' : Nat → AV) (τ' : AS) (l' : List W) (to' : To), a' 0 = .ptr x 0 → a' 17 = a 17 → a' 18 = a 18 → a' 19 = .int .i64 ((i : Int) + 1) → RL τ' x σ.nf (a' 5) l' → l'.length ≤ i + 1 → Keep x σ τ' → Maker τ' x fv to' →
        ploop rec (ws.drop (i + 1)) l' to' = some (lfin, tofin) → LI rec σ x fv row ws lfin tofin a' τ' ∧ LM ws a' τ' < LM ws a τ := by
      intro a' τ' l' to' b0 b17 b18 b19 b5 bl bK bM bp
      refine ⟨⟨i + 1, l', to', hlt, bl, b0, by rw [b17, h17], by rw [b18, h18], by rw [b19]; simp, b5, bK, bM, bp⟩, ?_⟩
      rw [hmu]
      simp only [LM, b19]
      have : ((i : Int) + 1).toNat = i + 1 := by omega
      rw [this]; omega
    -- one instruction more
    have more : ∀ (σ2 : AS) (lv : AV), RL σ2 x σ.nf lv l → Keep x σ σ2 → lv = .nilsl ∧ l = [] ∨ ∃ f, lv = .sl (.fam f false) 6 (l.map W.av) ∧ σ.nf ≤ f ∧ f < σ2.nf ∧ σ2.F f = .alive ∧ ¬ Uses σ2 x f := by
      intro σ2 lv h1 h2
      rcases h1 with ⟨h1, h3⟩ | h1
      · exact .inl ⟨h3, h1⟩
      · exact .inr h1
    rcases hrow with ⟨rfl, rfl⟩ | ⟨b2, rfl⟩
    · simp at hlt
    have hi1 : IntKind.wrap .i64 ((i : Int) + 1) = (i : Int) + 1 := by rw [wrap_i64] <;> omega
    cases hl : l.getLast? with
    | none =>
      have hnil : l = [] := by simpa using hl
      subst hnil
      rw [ploop] at hp
      simp only [List.getLast?_nil] at hp
      split at hp
      · cases hp
      rename_i w' to2 hw2
      have hg := loop_grows gr hp
      rcases hR with ⟨_, h5⟩ | ⟨f, h5, hf1, hf2, hf3, hf4⟩
      · simp [pc14_l1, h0, h17, h18, h19, h5, hlt, hw', W.av, W.cs, splice]
        refine lists_calls IH gr (w := w) (M1 _ _) hw2 (by omega) fun σ2 k2 m2 => ?_
        simp [W.av, W.cs, h19, hi1]
        refine next _ _ [w'] to2 (by simp [h0]) (by simp [h17]) (by simp [h18]) (by simp) (.inr ⟨σ2.nf, by simp [W.av, W.cs], ?_, by simp, by simp, m2.fresh rfl⟩) (by simp) ((K1 _ _).trans k2).newF m2.newF hp
        exact ((K1 _ _).trans k2).nf
      · simp [pc14_l1, h0, h17, h18, h19, h5, hlt, hw', W.av, W.cs, splice]
        refine lists_calls IH gr (w := w) (M1 _ _) hw2 (by omega) fun σ2 k2 m2 => ?_
        have k := (KR _ _).trans k2
        have ha : σ2.F f = .alive := by rw [k.fam f hf2 hf4, hf3]
        have hu : ¬ Uses σ2 x f := fun u => hf4 (k.use f hf2 u)
        simp [W.av, W.cs, h19, hi1, ha]
        refine next _ _ [w'] to2 (by simp [h0]) (by simp [h17]) (by simp [h18]) (by simp) (.inr ⟨σ2.nf, by simp [W.av, W.cs], ?_, by simp, by simp, m2.fresh rfl⟩) (by simp) (((K1 _ _).trans k2).grow f hf1) (m2.grow hu) hp
        exact ((K1 _ _).trans k2).nf
    | some p =>
      obtain ⟨l0, rfl⟩ : ∃ l0, l = l0 ++ [p] := by
        obtain ⟨h1, h2⟩ := List.getLast?_eq_some_iff.1 hl
        exact ⟨h1, h2⟩
      rw [ploop] at hp
      simp only [List.getLast?_append, List.getLast?_singleton, Option.some_or] at hp
      rcases hR with ⟨hc, _⟩ | ⟨f, h5, hf1, hf2, hf3, hf4⟩
      · simp at hc
      have hpos : (0 : Int) < l0.length + 1 := by omega
      simp at hli
      have hwl : IntKind.wrap .i64 (l0.length : Int) = l0.length := by rw [wrap_i64] <;> omega
      have hget : (List.map W.av l0 ++ [AV.agg [.int .i64 p.op, .int .i64 p.ty, .int .i64 p.n, .int .i64 p.body, .int .i64 p.other, .str p.name]])[l0.length]? = some (AV.agg [.int .i64 p.op, .int .i64 p.ty, .int .i64 p.n, .int .i64 p.body, .int .i64 p.other, .str p.name]) := by simp
      have K2 : ∀ c1 c2 c3, Keep x σ (((τ.newO c1).setO τ.no c2).newO c3) := fun _ _ _ => (K1 _ _).addO hxs
      have M2 : ∀ c1 c2 c3, Maker (((τ.newO c1).setO τ.no c2).newO c3) x fv to := fun _ _ _ => (M1 _ _).mono_newO
      have KR2 : ∀ c1 c2 c3, Keep x τ (((τ.newO c1).setO τ.no c2).newO c3) := fun _ _ _ => (KR _ _).addO hx
      have R2 : ∀ c1 c2 c3, RL (((τ.newO c1).setO τ.no c2).newO c3) x σ.nf (a 5) (l0 ++ [p]) := fun c1 c2 c3 => RL.mono (.inr ⟨f, h5, hf1, hf2, hf3, hf4⟩) (KR2 c1 c2 c3)
      by_cases hle : leavesW p = true
      · rw [if_pos hle] at hp
        simp at hp
        obtain ⟨rfl, rfl⟩ := hp
        simp [pc14_l1, h0, h17, h18, h19, h5, hlt, hw', W.av, W.cs, splice, hf3, hpos, hwl, hget]
        refine leaves_calls (w := p) ?_
        simp [hle]
        exact fin _ _ (by simp [h0]) (by simpa [h5] using R2 _ _ _) (K2 _ _ _) (M2 _ _ _)
      · rw [if_neg hle] at hp
        split at hp
        · cases hp
        rename_i two is to1 hto
        have htl := two_length hto
        have hg1 : to1.length ≤ tofin.length := by
          split at hp
          · exact loop_grows gr hp
          · split at hp
            · cases hp
            · rename_i w' to2 hw2
              exact Nat.le_trans (plists_grows gr hw2) (loop_grows gr hp)
        simp [pc14_l1, h0, h17, h18, h19, h5, hlt, hw', W.av, W.cs, splice, hf3, hpos, hwl, hget]
        refine leaves_calls (w := p) ?_
        simp [hle, h0, h5, hf3, hpos, hwl, hget, W.av, W.cs]
        refine together_calls IH (w := p) (u := w) (M2 _ _ _) hto (by omega) fun σ2 v k2 m2 hv => ?_
        have k := (KR2 _ _ _).trans k2
        have ha : σ2.F f = .alive := by rw [k.fam f hf2 hf4, hf3]
        have hu : ¬ Uses σ2 x f := fun u => hf4 (k.use f hf2 u)
        cases is with
        | true =>
          simp at hp
          rcases hv with ⟨rfl, rfl⟩ | ⟨bb, rfl⟩
          · simp [h0, h5, hwl, ha, h19, hi1]
            refine ⟨by omega, by omega, next _ _ l0 to1 (by simp [h0]) (by simp [h17]) (by simp [h18]) (by simp) (.inr ⟨σ2.nf, by simp, ?_, by simp, by simp, m2.fresh rfl⟩) (by omega) (((K2 _ _ _).trans k2).grow f hf1) (m2.grow hu) (by simpa using hp)⟩
            exact ((K2 _ _ _).trans k2).nf
          · simp [h0, h5, hwl, ha, h19, hi1]
            refine ⟨by omega, fun t _ => by simp [W.av, W.cs], by omega, next _ _ (l0 ++ two) to1 (by simp [h0]) (by simp [h17]) (by simp [h18]) (by simp) (.inr ⟨σ2.nf, by simp, ?_, by simp, by simp, m2.fresh rfl⟩) (by simp; omega) (((K2 _ _ _).trans k2).grow f hf1) (m2.grow hu) (by simpa using hp)⟩
            exact ((K2 _ _ _).trans k2).nf
        | false =>
          simp at hp
          split at hp
          · cases hp
          rename_i w' to2 hw2
          have hg2 := loop_grows gr hp
          have eo := k2.obj τ.no (by simp; omega) (by omega)
          simp at eo
          simp [h0, h5, hwl, ha, h19, hi1, eo]
          refine lists_calls IH gr (w := w) m2 hw2 (by omega) fun σ3 k3 m3 => ?_
          have k' := k.trans k3
          have ha3 : σ3.F f = .alive := by rw [k'.fam f hf2 hf4, hf3]
          have hu3 : ¬ Uses σ3 x f := fun u => hf4 (k'.use f hf2 u)
          simp [h5, W.av, W.cs, h19, hi1, ha3]
          refine ⟨by omega, next _ _ (l0 ++ [p, w']) to2 (by simp [h0]) (by simp [h17]) (by simp [h18]) (by simp) (.inr ⟨σ3.nf, by simp [W.av, W.cs], ?_, by simp, by simp, m3.fresh rfl⟩) (by simp; omega) ((((K2 _ _ _).trans k2).trans k3).grow f hf1) (m3.grow hu3) (by simpa using hp)⟩
          exact (((K2 _ _ _).trans k2).trans k3).nf
  · have he : i = ws.length := by omega
    subst he
    simp [ploop] at hp
    obtain ⟨rfl, rfl⟩ := hp
    simp [pc14_l1, h18, h19]
    exact fin _ _ (by simpa using h0) (by simpa using hR) hK hM
end Go.Proofs.Ythifgodgfhbnfaa
