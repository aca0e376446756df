/- A step that no code takes: a family that nobody grows any more becomes memory that nobody writes; no condition. -/
import Derived.Test.YthifgodgfhbnfaaDoorAbs19
namespace Go.Abs
open Go

mutual
/-- the family's slices become slices that nobody writes -/
def frz (f : Nat) : AV → AV
  | .sl φ sz xs => match φ with
    | .fam g b => if g = f then .sl (.stat b) sz (frzL f xs) else .sl (.fam g b) sz (frzL f xs)
    | .stat b => .sl (.stat b) sz (frzL f xs)
  | .agg cs => .agg (frzL f cs)
  | .tuple vs => .tuple (frzL f vs)
  | .iface t v => .iface t (frz f v)
  | v => v
def frzL (f : Nat) : List AV → List AV
  | [] => []
  | v :: vs => frz f v :: frzL f vs
end

theorem frzL_eq (f : Nat) : ∀ l, frzL f l = l.map (frz f)
  | [] => by simp [frzL]
  | v :: l => by simp [frzL, frzL_eq f l]
theorem frzL_length (f : Nat) (l) : (frzL f l).length = l.length := by simp [frzL_eq]
@[simp] theorem frz_sl_fam (f g b sz xs) : frz f (.sl (.fam g b) sz xs) = .sl (if g = f then .stat b else .fam g b) sz (xs.map (frz f)) := by
  by_cases h : g = f <;> simp [frz, frzL_eq, h]
@[simp] theorem frz_sl_stat (f b sz xs) : frz f (.sl (.stat b) sz xs) = .sl (.stat b) sz (xs.map (frz f)) := by simp [frz, frzL_eq]
@[simp] theorem frz_agg (f cs) : frz f (.agg cs) = .agg (cs.map (frz f)) := by simp [frz, frzL_eq]
@[simp] theorem frz_tuple (f cs) : frz f (.tuple cs) = .tuple (cs.map (frz f)) := by simp [frz, frzL_eq]
@[simp] theorem frz_iface (f t v) : frz f (.iface t v) = .iface t (frz f v) := by simp [frz]
@[simp] theorem frz_int (f k n) : frz f (.int k n) = .int k n := by simp [frz]
@[simp] theorem frz_bool (f b) : frz f (.bool b) = .bool b := by simp [frz]
@[simp] theorem frz_str (f b) : frz f (.str b) = .str b := by simp [frz]
@[simp] theorem frz_nilsl (f) : frz f .nilsl = .nilsl := by simp [frz]
@[simp] theorem frz_nilp (f) : frz f .nilp = .nilp := by simp [frz]
@[simp] theorem frz_nilif (f) : frz f .nilif = .nilif := by simp [frz]
@[simp] theorem frz_ptr (f o i) : frz f (.ptr o i) = .ptr o i := by simp [frz]

theorem frz_cells_length (f : Nat) (v : AV) : (frz f v).cells.length = v.cells.length := by
  cases v with
  | agg cs => simp [frz, frzL_eq]
  | sl φ sz xs => cases φ <;> simp [frz] ; split <;> simp
  | _ => simp [frz, AV.cells]
theorem frz_cells (f : Nat) (v : AV) : (frz f v).cells = v.cells.map (frz f) := by
  cases v with
  | agg cs => simp [frz, frzL_eq]
  | sl φ sz xs => cases φ <;> simp [frz] ; split <;> simp
  | _ => simp [frz, AV.cells]
theorem flat_frz (f : Nat) (l : List AV) : flat (l.map (frz f)) = (flat l).map (frz f) := by
  simp [flat, List.flatMap_map, List.map_flatMap, frz_cells]

open Classical in
noncomputable def Mp.frz (M : Mp) (f : Nat) : Mp := { M with role := fun B => if M.role B = some (.fam f) then some .stat else M.role B }
def frzF (F : Nat → FSt) (f : Nat) : Nat → FSt := upd F f .dead

theorem ext_frz {M : Mp} {F : Nat → FSt} {w : World} {f : Nat} (h : F f = .alive) : Ext M F w (M.frz f) (frzF F f) w where
  io := .refl _
  no := Nat.le_refl _
  nf := Nat.le_refl _
  obj _ _ := rfl
  dead g _ hd := by simp only [frzF, upd_at]; split <;> simp_all
  spoil g _ hs := by simp only [frzF, upd_at]; split <;> simp_all
  size := Nat.le_refl _
  shape _ c _ _ h := ⟨c, h, rfl⟩
  stat B hB := ⟨by simp [Mp.frz, hB], rfl⟩
  free B _ hB := ⟨by simp [Mp.frz, hB], rfl⟩
  famr B g _ hB hd := by
    have hg : g ≠ f := by intro e; subst e; simp [frzF] at hd
    exact (if_neg (by rw [hB]; simpa using hg)).trans hB
  famc _ _ _ _ _ := rfl

theorem VR.frz {M : Mp} {F : Nat → FSt} {w : World} {f : Nat} (ha : F f = .alive) {v : AV} {c : Value} (h : VR M F w v c) : VR (M.frz f) (frzF F f) w (frz f v) c := by
  have E := ext_frz (M := M) (w := w) ha
  induction h with
  | slz b sz a => rw [frz_sl_stat]; exact .slz b sz a
  | sl φ sz xs B off cap cs hcap hlit hsz hm hc hv ih =>
    have hrd : Readable (frzF F f) φ → Readable F φ := fun h => (hm.readable E h).1
    have hl : (xs.map (Go.Abs.frz f)).length = xs.length := by simp
    have key : ∀ φ' : Own, φ'.full = φ.full → Mem (M.frz f) (frzF F f) w φ' B off (cap * sz) → (Readable (frzF F f) φ' → Readable F φ) →
        VR (M.frz f) (frzF F f) w (.sl φ' sz (xs.map (Go.Abs.frz f))) (.slice (some ⟨B, off, none⟩) xs.length cap) := by
      intro φ' hfull hm' hr'
      have := VR.sl (M := M.frz f) (F := frzF F f) (w := w) φ' sz (xs.map (Go.Abs.frz f)) B off cap cs (by simpa using hcap) (fun h => by rw [hl]; exact hlit (by rw [← hfull]; exact h))
        (fun x hx => by simp at hx; obtain ⟨y, hy, rfl⟩ := hx; rw [frz_cells_length]; exact hsz y hy) hm' (fun hr j hj => hc (hr' hr) j (by rw [flat_frz] at hj; simpa using hj))
        (fun hr j hj => by
          have hj' : j < (flat xs).length := by rw [flat_frz] at hj; simpa using hj
          have := ih (hr' hr) j hj'
          simp only [flat_frz, List.getElem_map]
          exact this)
      rw [hl] at this
      exact this
    cases φ with
    | stat b => rw [frz_sl_stat]; exact key _ rfl (hm.mono E) hrd
    | fam g b =>
      rw [frz_sl_fam]
      by_cases hg : g = f
      · subst hg
        rw [if_pos rfl]
        refine key _ rfl ?_ (fun _ => ha)
        show (M.frz g).role B = some .stat
        simp [Mp.frz, (hm.2 (by rw [ha]; simp)).1]
      · rw [if_neg hg]; exact key _ rfl (hm.mono E) hrd
  | agg cs A hA va ih => rw [frz_agg]; exact .agg _ _ (by simpa using hA) (fun j h h' => by simpa using ih j (by simpa using h) h')
  | tuple cs A hA va ih => rw [frz_tuple]; exact .tuple _ _ (by simpa using hA) (fun j h h' => by simpa using ih j (by simpa using h) h')
  | iface t v c h ih => rw [frz_iface]; exact .iface t _ _ ih
  | undef c => simpa [Go.Abs.frz] using VR.undef c
  | bool b => simpa using VR.bool b
  | int k n => simpa using VR.int k n
  | str s => simpa using VR.str s
  | nilp => simpa using VR.nilp
  | nilsl => simpa using VR.nilsl
  | nilfn => simpa [Go.Abs.frz] using VR.nilfn
  | nilif => simpa using VR.nilif
  | ptr o off h => simpa using (VR.ptr (M := M) (F := F) (w := w) o off h).mono E
  | pv φ v B off cs hm hc hv _ => simpa [Go.Abs.frz] using (VR.pv φ v B off cs hm hc hv).mono E
  | slm o off sz len cap h hcap => simpa [Go.Abs.frz] using (VR.slm (M := M) (F := F) (w := w) o off sz len cap h hcap).mono E
  | fn g first cap A B ha hb va vb _ _ => simpa [Go.Abs.frz] using (VR.fn g first cap A B ha hb va vb).mono E

/-- the state behind the step; the objects of which p holds are read anew -/
def AS.frz (σ : AS) (f : Nat) (p : Nat → Bool) : AS :=
  { σ with F := frzF σ.F f, objs := fun o => if p o then (σ.objs o).map (List.map (Go.Abs.frz f)) else σ.objs o }

theorem Sim.frz {M : Mp} {σ : AS} {w : World} {f : Nat} {p : Nat → Bool} (S : Sim M σ w) (ha : σ.F f = .alive) : Sim (M.frz f) (σ.frz f p) w where
  no := S.no
  nf := S.nf
  role B r h := by
    simp only [Mp.frz] at h
    split at h
    · rename_i h1; exact S.role B _ h1
    · exact S.role B r h
  obj o cs h := by
    have E := ext_frz (M := M) (w := w) ha
    simp only [AS.frz] at h
    have fin : ∀ cs0, σ.objs o = some cs0 → cs.length = cs0.length → (∀ j (h : j < cs.length) (h' : j < cs0.length), ∀ c, VR M σ.F w cs0[j] c → VR (M.frz f) (frzF σ.F f) w cs[j] c) → _ := fun cs0 h0 hl hk => by
      obtain ⟨h1, h2, h3⟩ := S.obj o cs0 h0
      refine (⟨h1, ?_, fun j hj => ?_⟩ : o < (σ.frz f p).no ∧ (M.frz f).role ((M.frz f).obj o).1 = some .obj ∧ ∀ j (h : j < cs.length), ∃ c, w.cell? ⟨((M.frz f).obj o).1, ((M.frz f).obj o).2 + j, none⟩ = some c ∧ w.frozen? ⟨((M.frz f).obj o).1, ((M.frz f).obj o).2 + j, none⟩ = false ∧ VR (M.frz f) (σ.frz f p).F w cs[j] c)
      · simp [Mp.frz, h2]
      · obtain ⟨c, a, b, d⟩ := h3 j (by omega)
        exact ⟨c, a, b, hk j hj (by omega) c d⟩
    split at h
    · cases h0 : σ.objs o with
      | none => rw [h0] at h; simp at h
      | some cs0 =>
        rw [h0] at h; simp at h; subst h
        exact fin cs0 h0 (by simp) (fun j hj hj' c hc => by simpa using hc.frz ha)
    · exact fin cs h rfl (fun j hj hj' c hc => hc.mono E)
  inj o o' h h' := by
    refine S.inj o o' ?_ ?_
    · simp only [AS.frz] at h; split at h <;> simpa using h
    · simp only [AS.frz] at h'; split at h' <;> simpa using h'

/-- A STEP THAT NO CODE TAKES, BEHIND A CALL. -/
theorem ACalls.freeze {P : Program} {G : Env} {f : FuncId} {args : List AV} {σ : AS} {R : Out → AS → Prop}
    (h : ACalls P G f args σ fun o σ' => ∃ v g p, o = .ret v ∧ σ'.F g = .alive ∧ R (.ret (frz g v)) (σ'.frz g p)) : ACalls P G f args σ R := by
  intro M w cargs S g c
  refine (h M w cargs S g c).mono fun e w' ⟨o, σ', M', ⟨v, k, p, ho, ha, hR⟩, h2, h3, h4⟩ => ?_
  subst ho
  refine ⟨_, _, M'.frz k, hR, ?_, h3.frz ha, h4.trans (ext_frz ha)⟩
  cases e <;> simp only [OutRel] at h2 ⊢
  exact h2.frz ha
end Go.Abs
