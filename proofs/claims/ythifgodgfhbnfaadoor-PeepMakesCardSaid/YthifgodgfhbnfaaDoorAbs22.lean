/- A range over a function whose rounds may panic, in the logic over abstract values: rounds by what their text asks, the iterator by its contract; no condition. -/
import Derived.Test.YthifgodgfhbnfaaDoorAbs21
import Derived.RangeFuncLeaves
set_option linter.unusedSimpArgs false
set_option linter.unusedVariables false
namespace Go.Abs
open Go

/-! ### worlds that differ in blocks without cells -/
structure SameCells (w w' : World) : Prop where
  cell : ∀ B i, w'.cell? ⟨B, i, none⟩ = w.cell? ⟨B, i, none⟩
  froz : ∀ B i, w'.frozen? ⟨B, i, none⟩ = w.frozen? ⟨B, i, none⟩
  size : w'.heap.size = w.heap.size
theorem Mem.same {M F w w' φ B off n} (h : Mem M F w φ B off n) (s : SameCells w w') : Mem M F w' φ B off n := by
  cases φ with
  | stat b => exact h
  | fam f b => exact ⟨h.1, fun hd => ⟨(h.2 hd).1, fun j hj => by rw [s.cell, s.froz]; exact (h.2 hd).2 j hj⟩⟩
theorem VR.same {M F w w'} (s : SameCells w w') {v : AV} {c : Value} (h : VR M F w v c) : VR M F w' v c := by
  induction h with
  | undef c => exact .undef c
  | bool b => exact .bool b
  | int k n => exact .int k n
  | str s => exact .str s
  | nilp => exact .nilp
  | ptr o off h => exact .ptr o off h
  | pv φ v B off cs hm hc hv ih => exact .pv φ v B off cs (hm.same s) (fun hr j hj => by rw [s.cell]; exact hc hr j hj) ih
  | nilsl => exact .nilsl
  | slz b sz a => exact .slz b sz a
  | sl φ sz xs B off cap cs hcap hlit hsz hm hc hv ih => exact .sl φ sz xs B off cap cs hcap hlit hsz (hm.same s) (fun hr j hj => by rw [s.cell]; exact hc hr j hj) ih
  | slm o off sz len cap h hcap => exact .slm o off sz len cap h hcap
  | fn f first cap A B ha hb va vb iha ihb => exact .fn f first cap A B ha hb iha ihb
  | nilfn => exact .nilfn
  | iface t v c h ih => exact .iface t v c ih
  | nilif => exact .nilif
  | agg cs A ha va ih => exact .agg cs A ha ih
  | tuple vs A ha va ih => exact .tuple vs A ha ih
theorem Sim.same {M σ w w'} (S : Sim M σ w) (s : SameCells w w') : Sim M σ w' where
  no := S.no
  nf := S.nf
  role B r h := by rw [s.size]; exact S.role B r h
  obj o cs ho := by
    obtain ⟨a, b, c⟩ := S.obj o cs ho
    refine ⟨a, b, fun j hj => ?_⟩
    obtain ⟨x, h1, h2, h3⟩ := c j hj
    exact ⟨x, by rw [s.cell]; exact h1, by rw [s.froz]; exact h2, h3.same s⟩
  inj := S.inj
theorem Fr.same {M F w w' a ac n} (f : Fr M F w a ac n) (s : SameCells w w') : Fr M F w' a ac n := ⟨f.size, fun t => (f.val t).same s⟩
theorem Cells.same {M F w w' cs A} (h : Cells M F w cs A) (s : SameCells w w') : Cells M F w' cs A := ⟨h.1, fun j v hj => let ⟨c, a, b⟩ := h.2 j v hj; ⟨c, a, b.same s⟩⟩

theorem putObj_heap (w : World) (l : Nat) (o : Obj) (B : Nat) : (w.putObj l o).heap[B]? = if B = l ∧ l < w.heap.size then some o else w.heap[B]? := by
  simp only [World.putObj, Array.getElem?_setIfInBounds]
  by_cases h : B = l
  · subst h
    by_cases h2 : B < w.heap.size
    · simp [h2]
    · simp [h2]
  · simp [h, Ne.symm h]
theorem sameCells_put {w : World} {l : Nat} {o o' : Obj} (h : w.heap[l]? = some o) (h1 : o.isCells = false) (h2 : o'.isCells = false) : SameCells w (w.putObj l o') := by
  have hl : l < w.heap.size := (Array.getElem?_eq_some_iff.1 h).1
  refine ⟨fun B i => ?_, fun B i => ?_, by simp⟩
  · simp only [World.cell?, putObj_heap]
    by_cases hB : B = l
    · subst hB
      rw [if_pos ⟨rfl, hl⟩, h]
      cases o <;> cases o' <;> simp_all [Obj.isCells]
    · rw [if_neg (fun e => hB e.1)]
  · simp only [World.frozen?, putObj_heap]
    by_cases hB : B = l
    · subst hB
      rw [if_pos ⟨rfl, hl⟩, h]
      cases o <;> cases o' <;> simp_all [Obj.isCells]
    · rw [if_neg (fun e => hB e.1)]
theorem putObj_io (w : World) (l : Nat) (o : Obj) : SameIO w (w.putObj l o) := ⟨rfl, rfl, rfl⟩

/-- what is put back behind a step was never away -/
theorem Ext.restore {M F w M' F' w'} {l : Nat} {o o1 : Obj} (E : Ext M F (w.putObj l o1) M' F' w') (h : w.heap[l]? = some o) (hc : o.isCells = false) : Ext M F w M' F' (w'.putObj l o) := by
  have hl : l < w.heap.size := (Array.getElem?_eq_some_iff.1 h).1
  have hs := E.size
  simp only [World.putObj_size] at hs
  have key : ∀ B : Nat, w'.heap[B]? = (w.putObj l o1).heap[B]? → (w'.putObj l o).heap[B]? = w.heap[B]? := by
    intro B hB
    rw [putObj_heap]
    by_cases e : B = l
    · subst e; rw [if_pos ⟨rfl, by omega⟩, h]
    · rw [if_neg (fun q => e q.1), hB, putObj_heap, if_neg (fun q => e q.1)]
  refine ⟨E.io, E.no, E.nf, E.obj, E.dead, E.spoil, by simpa using hs, fun B c e z hB => ?_, fun B hB => ⟨(E.stat B hB).1, key B (E.stat B hB).2⟩, fun B hB hn => ?_, E.famr, fun B f hf hr ha => key B (E.famc B f hf hr ha)⟩
  · have hne : B ≠ l := by rintro rfl; rw [h] at hB; cases hB; cases hc
    obtain ⟨c', h1, h2⟩ := E.shape B c e z (by rw [putObj_heap, if_neg (fun q => hne q.1)]; exact hB)
    exact ⟨c', by rw [putObj_heap, if_neg (fun q => hne q.1)]; exact h1, h2⟩
  · obtain ⟨h1, h2⟩ := E.free B (by simpa using hB) hn
    exact ⟨h1, key B h2⟩
/-- a block of a family that ends is written over -/
theorem Ext.putFam {M F w} {l f : Nat} {o o1 : Obj} (h : w.heap[l]? = some o) (hc : o.isCells = false) (hr : M.role l = some (.fam f)) (ha : F f = .alive) : Ext M F w M (upd F f .dead) (w.putObj l o1) := by
  have key : ∀ B : Nat, B ≠ l → (w.putObj l o1).heap[B]? = w.heap[B]? := fun B e => by rw [putObj_heap, if_neg (fun q => e q.1)]
  refine ⟨putObj_io _ _ _, Nat.le_refl _, Nat.le_refl _, fun _ _ => rfl, fun g _ hd => ?_, fun g _ hs => ?_, by simp, fun B c e z hB => ?_, fun B hB => ⟨hB, key B ?_⟩, fun B _ hn => ⟨hn, key B ?_⟩, fun B g _ hB _ => hB, fun B g _ hB hg => key B ?_⟩
  · simp only [upd]; split
    · rfl
    · exact hd
  · simp only [upd]; split
    · simp
    · rw [hs]; simp
  · have hne : B ≠ l := by rintro rfl; rw [h] at hB; cases hB; cases hc
    exact ⟨c, by rw [key B hne]; exact hB, rfl⟩
  · rintro rfl; rw [hr] at hB; cases hB
  · rintro rfl; rw [hr] at hn; cases hn
  · rintro rfl; rw [hr] at hB; cases hB; simp [upd] at hg
theorem Ext.dead_fam {M F w} {f : Nat} (ha : F f = .alive) : Ext M F w M (upd F f .dead) w := by
  refine ⟨.refl _, Nat.le_refl _, Nat.le_refl _, fun _ _ => rfl, fun g _ hd => ?_, fun g _ hs => ?_, Nat.le_refl _, fun B c e z hB => ⟨c, hB, rfl⟩, fun B hB => ⟨hB, rfl⟩, fun B _ hn => ⟨hn, rfl⟩, fun B g _ hB _ => hB, fun B g _ hB hg => rfl⟩
  · simp only [upd]; split
    · rfl
    · exact hd
  · simp only [upd]; split
    · simp
    · rw [hs]; simp
theorem Sim.ext_F {M σ w F'} (S : Sim M σ w) (E : Ext M σ.F w M F' w) : Sim M { σ with F := F' } w where
  no := S.no
  nf := S.nf
  role := S.role
  obj o cs ho := by
    obtain ⟨a, b, c⟩ := S.obj o cs ho
    refine ⟨a, b, fun j hj => ?_⟩
    obtain ⟨x, h1, h2, h3⟩ := c j hj
    exact ⟨x, h1, h2, h3.mono E⟩
  inj := S.inj
end Go.Abs
