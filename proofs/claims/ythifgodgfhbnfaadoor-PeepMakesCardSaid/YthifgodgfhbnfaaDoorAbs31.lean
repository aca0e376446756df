/- A step that no code takes: a family becomes part of the family 0; no condition. -/
import Derived.Test.YthifgodgfhbnfaaDoorAbs30
namespace Go.Abs
open Go

mutual
/-- the family's slices become slices of the family 0 -/
def mrg (f : Nat) : AV → AV
  | .sl φ sz xs => match φ with
    | .fam g b => if g = f then .sl (.fam 0 b) sz (mrgL f xs) else .sl (.fam g b) sz (mrgL f xs)
    | .stat b => .sl (.stat b) sz (mrgL f xs)
  | .agg cs => .agg (mrgL f cs)
  | .tuple vs => .tuple (mrgL f vs)
  | .iface t v => .iface t (mrg f v)
  | v => v
def mrgL (f : Nat) : List AV → List AV
  | [] => []
  | v :: vs => mrg f v :: mrgL f vs
end

theorem mrgL_eq (f : Nat) : ∀ l, mrgL f l = l.map (mrg f)
  | [] => by simp [mrgL]
  | v :: l => by simp [mrgL, mrgL_eq f l]
theorem mrgL_length (f : Nat) (l) : (mrgL f l).length = l.length := by simp [mrgL_eq]
@[simp] theorem mrg_sl_fam (f g b sz xs) : mrg f (.sl (.fam g b) sz xs) = .sl (if g = f then .fam 0 b else .fam g b) sz (xs.map (mrg f)) := by
  by_cases h : g = f <;> simp [mrg, mrgL_eq, h]
@[simp] theorem mrg_sl_stat (f b sz xs) : mrg f (.sl (.stat b) sz xs) = .sl (.stat b) sz (xs.map (mrg f)) := by simp [mrg, mrgL_eq]
@[simp] theorem mrg_agg (f cs) : mrg f (.agg cs) = .agg (cs.map (mrg f)) := by simp [mrg, mrgL_eq]
@[simp] theorem mrg_tuple (f cs) : mrg f (.tuple cs) = .tuple (cs.map (mrg f)) := by simp [mrg, mrgL_eq]
@[simp] theorem mrg_iface (f t v) : mrg f (.iface t v) = .iface t (mrg f v) := by simp [mrg]
@[simp] theorem mrg_int (f k n) : mrg f (.int k n) = .int k n := by simp [mrg]
@[simp] theorem mrg_bool (f b) : mrg f (.bool b) = .bool b := by simp [mrg]
@[simp] theorem mrg_str (f b) : mrg f (.str b) = .str b := by simp [mrg]
@[simp] theorem mrg_nilsl (f) : mrg f .nilsl = .nilsl := by simp [mrg]
@[simp] theorem mrg_nilp (f) : mrg f .nilp = .nilp := by simp [mrg]
@[simp] theorem mrg_nilif (f) : mrg f .nilif = .nilif := by simp [mrg]
@[simp] theorem mrg_ptr (f o i) : mrg f (.ptr o i) = .ptr o i := by simp [mrg]

theorem mrg_cells_length (f : Nat) (v : AV) : (mrg f v).cells.length = v.cells.length := by
  cases v with
  | agg cs => simp [mrg, mrgL_eq]
  | sl φ sz xs => cases φ <;> simp [mrg] ; split <;> simp
  | _ => simp [mrg, AV.cells]
theorem mrg_cells (f : Nat) (v : AV) : (mrg f v).cells = v.cells.map (mrg f) := by
  cases v with
  | agg cs => simp [mrg, mrgL_eq]
  | sl φ sz xs => cases φ <;> simp [mrg] ; split <;> simp
  | _ => simp [mrg, AV.cells]
theorem flat_mrg (f : Nat) (l : List AV) : flat (l.map (mrg f)) = (flat l).map (mrg f) := by
  simp [flat, List.flatMap_map, List.map_flatMap, mrg_cells]

open Classical in
noncomputable def Mp.mrg (M : Mp) (f : Nat) : Mp := { M with role := fun B => if M.role B = some (.fam f) then some (.fam 0) else M.role B }
def mrgF (F : Nat → FSt) (f : Nat) : Nat → FSt := upd F f .dead

theorem ext_mrg {M : Mp} {F : Nat → FSt} {w : World} {f : Nat} (h : F f = .alive) : Ext M F w (M.mrg f) (mrgF F f) w where
  io := .refl _
  no := Nat.le_refl _
  nf := Nat.le_refl _
  obj _ _ := rfl
  dead g _ hd := by simp only [mrgF, upd_at]; split <;> simp_all
  spoil g _ hs := by simp only [mrgF, upd_at]; split <;> simp_all
  size := Nat.le_refl _
  shape _ c _ _ h := ⟨c, h, rfl⟩
  stat B hB := ⟨by simp [Mp.mrg, hB], rfl⟩
  free B _ hB := ⟨by simp [Mp.mrg, hB], rfl⟩
  famr B g _ hB hd := by
    have hg : g ≠ f := by intro e; subst e; simp [mrgF] at hd
    exact (if_neg (by rw [hB]; simpa using hg)).trans hB
  famc _ _ _ _ _ := rfl

theorem VR.mrg {M : Mp} {F : Nat → FSt} {w : World} {f : Nat} (hn : 0 < M.nf) (ha : F f = .alive) {v : AV} {c : Value} (h : VR M F w v c) : VR (M.mrg f) (mrgF F f) w (mrg f v) c := by
  have E := ext_mrg (M := M) (w := w) ha
  induction h with
  | slz b sz a => rw [mrg_sl_stat]; exact .slz b sz a
  | sl φ sz xs B off cap cs hcap hlit hsz hm hc hv ih =>
    have hrd : Readable (mrgF F f) φ → Readable F φ := fun h => (hm.readable E h).1
    have hl : (xs.map (Go.Abs.mrg f)).length = xs.length := by simp
    have key : ∀ φ' : Own, φ'.full = φ.full → Mem (M.mrg f) (mrgF F f) w φ' B off (cap * sz) → (Readable (mrgF F f) φ' → Readable F φ) →
        VR (M.mrg f) (mrgF F f) w (.sl φ' sz (xs.map (Go.Abs.mrg f))) (.slice (some ⟨B, off, none⟩) xs.length cap) := by
      intro φ' hfull hm' hr'
      have := VR.sl (M := M.mrg f) (F := mrgF F f) (w := w) φ' sz (xs.map (Go.Abs.mrg f)) B off cap cs (by simpa using hcap) (fun h => by rw [hl]; exact hlit (by rw [← hfull]; exact h))
        (fun x hx => by simp at hx; obtain ⟨y, hy, rfl⟩ := hx; rw [mrg_cells_length]; exact hsz y hy) hm' (fun hr j hj => hc (hr' hr) j (by rw [flat_mrg] at hj; simpa using hj))
        (fun hr j hj => by
          have hj' : j < (flat xs).length := by rw [flat_mrg] at hj; simpa using hj
          have := ih (hr' hr) j hj'
          simp only [flat_mrg, List.getElem_map]
          exact this)
      rw [hl] at this
      exact this
    cases φ with
    | stat b => rw [mrg_sl_stat]; exact key _ rfl (hm.mono E) hrd
    | fam g b =>
      rw [mrg_sl_fam]
      by_cases hg : g = f
      · subst hg
        rw [if_pos rfl]
        refine key _ rfl ?_ (fun _ => ha)
        obtain ⟨m1, m2⟩ := hm.2 (by rw [ha]; simp)
        exact ⟨hn, fun _ => ⟨by simp [Mp.mrg, m1], m2⟩⟩
      · rw [if_neg hg]; exact key _ rfl (hm.mono E) hrd
  | agg cs A hA va ih => rw [mrg_agg]; exact .agg _ _ (by simpa using hA) (fun j h h' => by simpa using ih j (by simpa using h) h')
  | tuple cs A hA va ih => rw [mrg_tuple]; exact .tuple _ _ (by simpa using hA) (fun j h h' => by simpa using ih j (by simpa using h) h')
  | iface t v c h ih => rw [mrg_iface]; exact .iface t _ _ ih
  | undef c => simpa [Go.Abs.mrg] using VR.undef c
  | bool b => simpa using VR.bool b
  | int k n => simpa using VR.int k n
  | str s => simpa using VR.str s
  | nilp => simpa using VR.nilp
  | nilsl => simpa using VR.nilsl
  | nilfn => simpa [Go.Abs.mrg] using VR.nilfn
  | nilif => simpa using VR.nilif
  | ptr o off h => simpa using (VR.ptr (M := M) (F := F) (w := w) o off h).mono E
  | pv φ v B off cs hm hc hv _ => simpa [Go.Abs.mrg] using (VR.pv φ v B off cs hm hc hv).mono E
  | slm o off sz len cap h hcap => simpa [Go.Abs.mrg] using (VR.slm (M := M) (F := F) (w := w) o off sz len cap h hcap).mono E
  | fn g first cap A B ha hb va vb _ _ => simpa [Go.Abs.mrg] using (VR.fn g first cap A B ha hb va vb).mono E

/-- the state behind the step; the objects of which p holds are read anew -/
def AS.mrg (σ : AS) (f : Nat) (p : Nat → Bool) : AS :=
  { σ with F := mrgF σ.F f, objs := fun o => if p o then (σ.objs o).map (List.map (Go.Abs.mrg f)) else σ.objs o }

theorem Sim.mrg {M : Mp} {σ : AS} {w : World} {f : Nat} {p : Nat → Bool} (S : Sim M σ w) (hn : 0 < σ.nf) (ha : σ.F f = .alive) : Sim (M.mrg f) (σ.mrg f p) w where
  no := S.no
  nf := S.nf
  role B r h := by
    simp only [Mp.mrg] at h
    split at h
    · rename_i h1; exact S.role B _ h1
    · exact S.role B r h
  obj o cs h := by
    have E := ext_mrg (M := M) (w := w) ha
    simp only [AS.mrg] at h
    have fin : ∀ cs0, σ.objs o = some cs0 → cs.length = cs0.length → (∀ j (h : j < cs.length) (h' : j < cs0.length), ∀ c, VR M σ.F w cs0[j] c → VR (M.mrg f) (mrgF σ.F f) w cs[j] c) → _ := fun cs0 h0 hl hk => by
      obtain ⟨h1, h2, h3⟩ := S.obj o cs0 h0
      refine (⟨h1, ?_, fun j hj => ?_⟩ : o < (σ.mrg f p).no ∧ (M.mrg f).role ((M.mrg f).obj o).1 = some .obj ∧ ∀ j (h : j < cs.length), ∃ c, w.cell? ⟨((M.mrg f).obj o).1, ((M.mrg f).obj o).2 + j, none⟩ = some c ∧ w.frozen? ⟨((M.mrg f).obj o).1, ((M.mrg f).obj o).2 + j, none⟩ = false ∧ VR (M.mrg f) (σ.mrg f p).F w cs[j] c)
      · simp [Mp.mrg, h2]
      · obtain ⟨c, a, b, d⟩ := h3 j (by omega)
        exact ⟨c, a, b, hk j hj (by omega) c d⟩
    split at h
    · cases h0 : σ.objs o with
      | none => rw [h0] at h; simp at h
      | some cs0 =>
        rw [h0] at h; simp at h; subst h
        exact fin cs0 h0 (by simp) (fun j hj hj' c hc => by simpa using hc.mrg (by rw [S.nf]; exact hn) ha)
    · exact fin cs h rfl (fun j hj hj' c hc => hc.mono E)
  inj o o' h h' := by
    refine S.inj o o' ?_ ?_
    · simp only [AS.mrg] at h; split at h <;> simpa using h
    · simp only [AS.mrg] at h'; split at h' <;> simpa using h'

/-- A STEP THAT NO CODE TAKES, BEHIND A CALL, IF WANTED. -/
theorem mergeOr {P : Program} {G : Env} {f : FuncId} {args : List AV} {σ : AS} {R : Out → AS → Prop}
    (h : ACalls P G f args σ fun o σ' => R o σ' ∨ ∃ v g p, o = .ret v ∧ 0 < σ'.nf ∧ σ'.F g = .alive ∧ R (.ret (mrg g v)) (σ'.mrg g p)) : ACalls P G f args σ R := by
  intro M w cargs S g c
  refine (h M w cargs S g c).mono fun e w' ⟨o, σ', M', hR, h2, h3, h4⟩ => ?_
  rcases hR with hR | ⟨v, k, p, ho, hn, ha, hR⟩
  · exact ⟨o, σ', M', hR, h2, h3, h4⟩
  subst ho
  refine ⟨_, _, M'.mrg k, hR, ?_, h3.mrg hn ha, h4.trans (ext_mrg ha)⟩
  cases e <;> simp only [OutRel] at h2 ⊢
  exact h2.mrg (by rw [h3.nf]; exact hn) ha
/-- a family more, with no memory yet -/
theorem ACalls.newF {P : Program} {G : Env} {f : FuncId} {args : List AV} {σ : AS} {R : Out → AS → Prop} (h : ACalls P G f args σ.newF R) : ACalls P G f args σ R := by
  intro M w cargs S g c
  have E : Ext M σ.F w { M with nf := M.nf + 1 } σ.newF.F w := {
    io := .refl _
    no := Nat.le_refl _
    nf := Nat.le_succ _
    obj := fun _ _ => rfl
    dead := fun k hk hd => by simp only [AS.newF, upd_at]; rw [if_neg (by have := S.nf; omega)]; exact hd
    spoil := fun k hk hs => by simp only [AS.newF, upd_at]; rw [if_neg (by have := S.nf; omega), hs]; simp
    size := Nat.le_refl _
    shape := fun _ c _ _ h => ⟨c, h, rfl⟩
    stat := fun _ h => ⟨h, rfl⟩
    free := fun _ _ h => ⟨h, rfl⟩
    famr := fun _ _ _ h _ => h
    famc := fun _ _ _ _ _ => rfl }
  have S' : Sim { M with nf := M.nf + 1 } σ.newF w := by
    refine ⟨S.no, by simp [AS.newF, S.nf], S.role, fun o cs ho => ?_, S.inj⟩
    obtain ⟨h1, h2, h3⟩ := S.obj o cs ho
    exact ⟨h1, h2, fun j hj => let ⟨c, a, b, d⟩ := h3 j hj; ⟨c, a, b, d.mono E⟩⟩
  refine (h _ w cargs S' (g.mono E) (c.mono' E)).mono fun e w' ⟨o, σ', M', h1, h2, h3, h4⟩ => ⟨o, σ', M', h1, h2, h3, E.trans h4⟩
end Go.Abs
