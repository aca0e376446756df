/- A step that no code takes: a list of one's own, held in an object's cell, becomes an object that is written in place; no condition. -/
import Derived.Test.YthifgodgfhbnfaaDoorAbs28
namespace Go.Abs
open Go
open Classical in
noncomputable def Mp.own (M : Mp) (f B off : Nat) : Mp := { M with role := fun C => if M.role C = some (.fam f) then some .obj else M.role C, obj := upd M.obj M.no (B, off), no := M.no + 1 }
/-- the state behind the step -/
def AS.own (σ : AS) (f fo : Nat) (cs xs : List AV) : AS :=
  { σ with F := upd σ.F f .dead, objs := upd (upd σ.objs fo (some cs)) σ.no (some xs), no := σ.no + 1 }
theorem ext_own {M : Mp} {F : Nat → FSt} {w : World} {f B off : Nat} (h : F f = .alive) : Ext M F w (M.own f B off) (upd F f .dead) w where
  io := .refl _
  no := by simp [Mp.own]
  nf := Nat.le_refl _
  obj o ho := by simp only [Mp.own]; rw [upd_ne _ _ (by omega)]
  dead g _ hd := by simp only [upd_at]; split <;> simp_all
  spoil g _ hs := by simp only [upd_at]; split <;> simp_all
  size := Nat.le_refl _
  shape _ c _ _ h := ⟨c, h, rfl⟩
  stat B hB := ⟨by simp [Mp.own, hB], rfl⟩
  free B _ hB := ⟨by simp [Mp.own, hB], rfl⟩
  famr B g _ hB hd := by
    have hg : g ≠ f := by intro e; subst e; simp at hd
    exact (if_neg (by rw [hB]; simpa using hg)).trans hB
  famc _ _ _ _ _ := rfl
theorem Sim.own {M : Mp} {σ : AS} {w : World} {f fo : Nat} {cs xs : List AV} {b : Bool} {sz j : Nat} (S : Sim M σ w) (ha : σ.F f = .alive) (ho : σ.objs fo = some cs) (hj : cs[j]? = some (.sl (.fam f b) sz xs)) :
    ∃ B off, Sim (M.own f B off) (σ.own f fo (cs.set j (.slm σ.no 0 sz xs.length)) (flat xs)) w := by
  obtain ⟨h1, h2, h3⟩ := S.obj fo cs ho
  obtain ⟨hjl, hje⟩ := List.getElem?_eq_some_iff.1 hj
  obtain ⟨c, hc1, hc2, hc3⟩ := h3 j hjl
  rw [hje] at hc3
  cases hc3 with
  | sl _ _ _ B off cap vs hcap hlit hsz hm hc hv =>
  have E := ext_own (M := M) (w := w) (B := B) (off := off) ha
  obtain ⟨hf, hmem⟩ := hm
  obtain ⟨hrole, hcell⟩ := hmem (by rw [ha]; simp)
  have hno := S.no
  have hfl := flat_length sz xs hsz
  refine ⟨B, off, ⟨by simp [Mp.own, AS.own, S.no], S.nf, fun C r h => ?_, fun o cs' h => ?_, fun o o' h h' => ?_⟩⟩
  · simp only [Mp.own] at h
    split at h
    · rename_i h1; exact S.role C _ h1
    · exact S.role C r h
  · simp only [AS.own, upd_at] at h
    split at h
    · rename_i he
      subst he
      cases h
      refine ⟨by simp [AS.own], ?_, fun i hi => ?_⟩
      · simp [Mp.own, hno, upd_at, hrole]
      · refine ⟨vs i, ?_, ?_, ?_⟩
        · simp only [Mp.own, hno, upd_same]; exact hc ha i hi
        · simp only [Mp.own, hno, upd_same]; exact (hcell i (by rw [hfl] at hi; have := Nat.mul_le_mul_right sz hcap; omega)).2
        · exact (hv ha i hi).mono E
    · rename_i hne
      split at h
      · rename_i he
        subst he
        cases h
        refine ⟨by simp [AS.own]; omega, ?_, fun i hi => ?_⟩
        · simp only [Mp.own]; rw [upd_ne _ _ (by omega)]; simp [h2]
        · have hi' : i < cs.length := by simpa using hi
          obtain ⟨d, d1, d2, d3⟩ := h3 i hi'
          refine ⟨d, ?_, ?_, ?_⟩
          · simp only [Mp.own]; rw [upd_ne _ _ (by omega)]; exact d1
          · simp only [Mp.own]; rw [upd_ne _ _ (by omega)]; exact d2
          · by_cases hij : j = i
            · subst hij
              rw [hc1] at d1
              cases d1
              simp only [List.getElem_set_self]
              have := VR.slm (M := M.own f B off) (F := (σ.own f o (cs.set j (.slm σ.no 0 sz xs.length)) (flat xs)).F) (w := w) σ.no 0 sz xs.length cap (by simp [Mp.own, hno]) hcap
              simpa [Mp.own, hno] using this
            · rw [List.getElem_set_ne hij]
              exact d3.mono E
      · obtain ⟨g1, g2, g3⟩ := S.obj o cs' h
        refine ⟨by simp [AS.own]; omega, ?_, fun i hi => ?_⟩
        · simp only [Mp.own]; rw [upd_ne _ _ (by omega)]; simp [g2]
        · obtain ⟨d, d1, d2, d3⟩ := g3 i hi
          refine ⟨d, ?_, ?_, d3.mono E⟩
          · simp only [Mp.own]; rw [upd_ne _ _ (by omega)]; exact d1
          · simp only [Mp.own]; rw [upd_ne _ _ (by omega)]; exact d2
  · have key : ∀ p, (((σ.own f fo (cs.set j (.slm σ.no 0 sz xs.length)) (flat xs)).objs p).isSome = true) → p ≠ σ.no → (σ.objs p).isSome = true := fun p hp hne => by
      simp only [AS.own, upd_at] at hp
      rw [if_neg hne] at hp
      split at hp
      · rename_i he; subst he; simp [ho]
      · exact hp
    have blk : ∀ p, p ≠ σ.no → ((M.own f B off).obj p).1 = (M.obj p).1 := fun p hp => by simp only [Mp.own]; rw [upd_ne _ _ (by omega)]
    have blk0 : ((M.own f B off).obj σ.no).1 = B := by simp [Mp.own, hno]
    have no' : ∀ p, (σ.objs p).isSome = true → (M.obj p).1 ≠ B := fun p hp e => by
      obtain ⟨ds, hds⟩ := Option.isSome_iff_exists.1 hp
      have := (S.obj p ds hds).2.1
      rw [e, hrole] at this
      cases this
    by_cases e1 : o = σ.no <;> by_cases e2 : o' = σ.no
    · omega
    · intro hh; subst e1; rw [blk0, blk o' e2] at hh; exact absurd hh.symm (no' o' (key o' h' e2))
    · intro hh; subst e2; rw [blk0, blk o e1] at hh; exact absurd hh (no' o (key o h e1))
    · intro hh; rw [blk o e1, blk o' e2] at hh; exact S.inj o o' (key o h e1) (key o' h' e2) hh
/-- A LIST OF ONE's OWN IS WRITTEN IN PLACE FROM HERE ON. -/
theorem ACalls.own {P : Program} {G : Env} {k : FuncId} {args : List AV} {σ : AS} {R : Out → AS → Prop} {f fo j sz : Nat} {b : Bool} {cs xs : List AV}
    (ha : σ.F f = .alive) (ho : σ.objs fo = some cs) (hj : cs[j]? = some (.sl (.fam f b) sz xs)) (h : ACalls P G k args (σ.own f fo (cs.set j (.slm σ.no 0 sz xs.length)) (flat xs)) R) : ACalls P G k args σ R := by
  intro M w cargs S g c
  obtain ⟨B, off, S'⟩ := S.own ha ho hj
  have E := ext_own (M := M) (w := w) (B := B) (off := off) ha
  refine (h _ w cargs S' (g.mono E) (c.mono' E)).mono fun e w' ⟨o, σ', M', h1, h2, h3, h4⟩ => ⟨o, σ', M', h1, h2, h3, E.trans h4⟩
end Go.Abs
