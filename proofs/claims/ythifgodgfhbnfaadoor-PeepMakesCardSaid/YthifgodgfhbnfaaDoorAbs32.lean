/- Steps that no code takes, behind a call: a list of one's own becomes an object; an object becomes memory that nobody writes; no condition. -/
import Derived.Test.YthifgodgfhbnfaaDoorAbs31
namespace Go.Abs
open Go
/-- the state behind the step -/
def AS.ownV (σ : AS) (f : Nat) (xs : List AV) : AS :=
  { σ with F := upd σ.F f .dead, objs := upd σ.objs σ.no (some xs), no := σ.no + 1 }
theorem Sim.ownV {M : Mp} {σ : AS} {w : World} {f : Nat} {xs : List AV} {b : Bool} {sz : Nat} {c : Value} (S : Sim M σ w) (ha : σ.F f = .alive) (hc3 : VR M σ.F w (.sl (.fam f b) sz xs) c) :
    ∃ B off, Sim (M.own f B off) (σ.ownV f (flat xs)) w ∧ VR (M.own f B off) (upd σ.F f .dead) w (.slm σ.no 0 sz xs.length) c := by
  cases hc3 with
  | sl _ _ _ B off cap vs hcap hlit hsz hm hc hv =>
  have E := ext_own (M := M) (w := w) (B := B) (off := off) ha
  obtain ⟨hf, hmem⟩ := hm
  obtain ⟨hrole, hcell⟩ := hmem (by rw [ha]; simp)
  have hno := S.no
  have hfl := flat_length sz xs hsz
  refine ⟨B, off, ⟨by simp [Mp.own, AS.ownV, S.no], S.nf, fun C r h => ?_, fun o cs' h => ?_, fun o o' h h' => ?_⟩, ?_⟩
  · simp only [Mp.own] at h
    split at h
    · rename_i h1; exact S.role C _ h1
    · exact S.role C r h
  · simp only [AS.ownV, upd_at] at h
    split at h
    · rename_i he
      subst he
      cases h
      refine ⟨by simp [AS.ownV], ?_, fun i hi => ?_⟩
      · simp [Mp.own, hno, upd_at, hrole]
      · refine ⟨vs i, ?_, ?_, ?_⟩
        · simp only [Mp.own, hno, upd_same]; exact hc ha i hi
        · simp only [Mp.own, hno, upd_same]; exact (hcell i (by rw [hfl] at hi; have := Nat.mul_le_mul_right sz hcap; omega)).2
        · exact (hv ha i hi).mono E
    · obtain ⟨g1, g2, g3⟩ := S.obj o cs' h
      refine ⟨by simp [AS.ownV]; omega, ?_, fun i hi => ?_⟩
      · simp only [Mp.own]; rw [upd_ne _ _ (by omega)]; simp [g2]
      · obtain ⟨d, d1, d2, d3⟩ := g3 i hi
        refine ⟨d, ?_, ?_, d3.mono E⟩
        · simp only [Mp.own]; rw [upd_ne _ _ (by omega)]; exact d1
        · simp only [Mp.own]; rw [upd_ne _ _ (by omega)]; exact d2
  · have key : ∀ p, (((σ.ownV f (flat xs)).objs p).isSome = true) → p ≠ σ.no → (σ.objs p).isSome = true := fun p hp hne => by
      simp only [AS.ownV, upd_at] at hp
      rw [if_neg hne] at hp
      exact hp
    have blk : ∀ p, p ≠ σ.no → ((M.own f B off).obj p).1 = (M.obj p).1 := fun p hp => by simp only [Mp.own]; rw [upd_ne _ _ (by omega)]
    have blk0 : ((M.own f B off).obj σ.no).1 = B := by simp [Mp.own, hno]
    have no' : ∀ p, (σ.objs p).isSome = true → (M.obj p).1 ≠ B := fun p hp e => by
      obtain ⟨ds, hds⟩ := Option.isSome_iff_exists.1 hp
      have := (S.obj p ds hds).2.1
      rw [e, hrole] at this
      cases this
    by_cases e1 : o = σ.no <;> by_cases e2 : o' = σ.no
    · omega
    · intro hh; subst e1; rw [blk0, blk o' e2] at hh; exact absurd hh.symm (no' o' (key o' h' e2))
    · intro hh; subst e2; rw [blk0, blk o e1] at hh; exact absurd hh (no' o (key o h e1))
    · intro hh; rw [blk o e1, blk o' e2] at hh; exact S.inj o o' (key o h e1) (key o' h' e2) hh
  · have := VR.slm (M := M.own f B off) (F := upd σ.F f .dead) (w := w) σ.no 0 sz xs.length cap (by simp [Mp.own, hno]) hcap
    simpa [Mp.own, hno] using this
/-- A LIST OF ONE's OWN, GIVEN BACK, IS WRITTEN IN PLACE FROM HERE ON. -/
theorem ownOr {P : Program} {G : Env} {f : FuncId} {args : List AV} {σ : AS} {R : Out → AS → Prop}
    (h : ACalls P G f args σ fun o σ' => R o σ' ∨ ∃ g b sz xs rest, o = .ret (.agg (.sl (.fam g b) sz xs :: rest)) ∧ σ'.F g = .alive ∧ R (.ret (.agg (.slm σ'.no 0 sz xs.length :: rest))) (σ'.ownV g (flat xs))) : ACalls P G f args σ R := by
  intro M w cargs S g c
  refine (h M w cargs S g c).mono fun e w' ⟨o, σ', M', hR, h2, h3, h4⟩ => ?_
  rcases hR with hR | ⟨k, b, sz, xs, rest, ho, ha, hR⟩
  · exact ⟨o, σ', M', hR, h2, h3, h4⟩
  subst ho
  cases e <;> simp only [OutRel] at h2
  cases h2 with
  | agg _ A ha' va =>
  have q0 := va 0 (by simp) (by simp [ha'])
  simp only [List.getElem_cons_zero] at q0
  obtain ⟨B, off, S', v'⟩ := h3.ownV ha q0
  have E := ext_own (M := M') (w := w') (B := B) (off := off) ha
  refine ⟨_, _, M'.own k B off, hR, ?_, S', h4.trans E⟩
  simp only [OutRel]
  refine .agg _ A (by simpa using ha') fun j hj hj' => ?_
  cases j with
  | zero => exact v'
  | succ j => exact VR.mono E (va (j + 1) (by simpa using hj) hj')
/-- the state behind the step -/
def AS.still (σ : AS) (ob : Nat) : AS := { σ with objs := upd σ.objs ob none }
open Classical in
noncomputable def Mp.still (M : Mp) (B : Nat) : Mp := { M with role := fun C => if C = B then some .stat else M.role C }
theorem ext_still {M : Mp} {F : Nat → FSt} {w : World} {B : Nat} (h : M.role B = some .obj) : Ext M F w (M.still B) F w where
  io := .refl _
  no := Nat.le_refl _
  nf := Nat.le_refl _
  obj _ _ := rfl
  dead _ _ h := h
  spoil _ _ h := by rw [h]; simp
  size := Nat.le_refl _
  shape _ c _ _ h := ⟨c, h, rfl⟩
  stat C hC := ⟨by simp only [Mp.still]; split <;> simp_all, rfl⟩
  free C _ hC := ⟨by simp only [Mp.still]; rw [if_neg (fun e => by rw [e, h] at hC; cases hC)]; exact hC, rfl⟩
  famr C g _ hC hd := by simp only [Mp.still]; rw [if_neg (fun e => by rw [e, h] at hC; cases hC)]; exact hC
  famc _ _ _ _ _ := rfl
theorem Sim.still {M : Mp} {σ : AS} {w : World} {ob sz cap len : Nat} {rows : List AV} (S : Sim M σ w) (ho : σ.objs ob = some (flat rows)) (hsz : ∀ x ∈ rows, x.cells.length = sz) (hcap : rows.length ≤ cap) :
    Sim (M.still (M.obj ob).1) (σ.still ob) w ∧ VR (M.still (M.obj ob).1) σ.F w (.sl (.stat false) sz rows) (.slice (some ⟨(M.obj ob).1, (M.obj ob).2, none⟩) rows.length cap) := by
  obtain ⟨h1, h2, h3⟩ := S.obj ob _ ho
  have E := ext_still (M := M) (F := σ.F) (w := w) h2
  refine ⟨⟨S.no, S.nf, fun C r h => ?_, fun o cs h => ?_, fun o o' h h' => ?_⟩, ?_⟩
  · simp only [Mp.still] at h
    split at h
    · rename_i e
      subst e
      exact S.role _ _ h2
    · exact S.role C r h
  · simp only [AS.still, upd_at] at h
    split at h
    · cases h
    rename_i hne
    obtain ⟨g1, g2, g3⟩ := S.obj o cs h
    have hb : (M.obj o).1 ≠ (M.obj ob).1 := fun e => hne (S.inj o ob (by simp [h]) (by simp [ho]) e)
    refine ⟨g1, ?_, fun i hi => ?_⟩
    · show (M.still (M.obj ob).1).role (M.obj o).1 = some .obj
      simp only [Mp.still]
      rw [if_neg hb]
      exact g2
    · obtain ⟨d, d1, d2, d3⟩ := g3 i hi
      exact ⟨d, d1, d2, d3.mono E⟩
  · have key : ∀ p, ((σ.still ob).objs p).isSome = true → (σ.objs p).isSome = true := fun p hp => by
      simp only [AS.still, upd_at] at hp
      split at hp
      · cases hp
      · exact hp
    exact S.inj o o' (key o h) (key o' h')
  · refine .sl (.stat false) sz rows _ _ cap (fun j => if hj : j < (flat rows).length then (h3 j hj).choose else .nilFunc) hcap (by simp [Own.full]) hsz ?_ (fun _ j hj => ?_) (fun _ j hj => ?_)
    · show (M.still (M.obj ob).1).role (M.obj ob).1 = some .stat
      simp [Mp.still]
    · simp only [hj, dif_pos]
      exact (h3 j hj).choose_spec.1
    · simp only [hj, dif_pos]
      exact (h3 j hj).choose_spec.2.2.mono E
/-- AN OBJECT, GIVEN BACK, IS NOT WRITTEN ANY MORE. -/
theorem stillOr {P : Program} {G : Env} {f : FuncId} {args : List AV} {σ : AS} {R : Out → AS → Prop}
    (h : ACalls P G f args σ fun o σ' => R o σ' ∨ ∃ ob sz rows rest, o = .ret (.agg (.slm ob 0 sz rows.length :: rest)) ∧ σ'.objs ob = some (flat rows) ∧ (∀ x ∈ rows, x.cells.length = sz) ∧ R (.ret (.agg (.sl (.stat false) sz rows :: rest))) (σ'.still ob)) : ACalls P G f args σ R := by
  intro M w cargs S g c
  refine (h M w cargs S g c).mono fun e w' ⟨o, σ', M', hR, h2, h3, h4⟩ => ?_
  rcases hR with hR | ⟨ob, sz, rows, rest, ho, hob, hsz, hR⟩
  · exact ⟨o, σ', M', hR, h2, h3, h4⟩
  subst ho
  cases e <;> simp only [OutRel] at h2
  cases h2 with
  | agg _ A ha' va =>
  have q0 := va 0 (by simp) (by simp [ha'])
  simp only [List.getElem_cons_zero] at q0
  have hrole := (h3.obj ob _ hob).2.1
  have E := ext_still (M := M') (F := σ'.F) (w := w') hrole
  generalize hA0 : A[0]'(by simp [ha']) = c0 at q0
  cases q0 with
  | slm _ _ _ _ cap hob' hcap =>
  obtain ⟨S', v'⟩ := h3.still (len := rows.length) hob hsz hcap
  refine ⟨_, _, M'.still (M'.obj ob).1, hR, ?_, S', h4.trans E⟩
  simp only [OutRel]
  refine .agg _ A (by simpa using ha') fun j hj hj' => ?_
  cases j with
  | zero =>
    rw [hA0]
    exact v'
  | succ j => exact VR.mono E (va (j + 1) (by simpa using hj) hj')
end Go.Abs
