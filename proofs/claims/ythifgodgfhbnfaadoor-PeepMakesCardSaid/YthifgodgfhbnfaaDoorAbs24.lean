/- A loop over a function under way: its rounds do what their text asks; no condition. -/
import Derived.Test.YthifgodgfhbnfaaDoorAbs23
set_option linter.unusedSimpArgs false
set_option linter.unusedVariables false
namespace Go.Abs
open Go

theorem Ext.putBehind {M0 F0 w0 M F w} {l : Nat} {o o1 : Obj} (E : Ext M0 F0 w0 M F w) (h : w.heap[l]? = some o) (hc : o.isCells = false) (hl : w0.heap.size ≤ l) (hv : ∀ B r, M0.role B = some r → B < w0.heap.size) :
    Ext M0 F0 w0 M F (w.putObj l o1) := by
  have key : ∀ B : Nat, B < w0.heap.size → (w.putObj l o1).heap[B]? = w.heap[B]? := fun B e => by rw [putObj_heap, if_neg (by omega)]
  refine ⟨E.io, E.no, E.nf, E.obj, E.dead, E.spoil, by simpa using E.size, fun B c e z hB => ?_, fun B hB => ⟨(E.stat B hB).1, (key B (hv B _ hB)).trans (E.stat B hB).2⟩, fun B hB hn => ⟨(E.free B hB hn).1, (key B hB).trans (E.free B hB hn).2⟩, E.famr,
    fun B f hf hr ha => (key B (hv B _ hr)).trans (E.famc B f hf hr ha)⟩
  have hB' : B < w0.heap.size := (Array.getElem?_eq_some_iff.1 hB).1
  obtain ⟨c', h1, h2⟩ := E.shape B c e z hB
  exact ⟨c', by rw [key B hB']; exact h1, h2⟩

theorem Ext.both_dead {M F w M' F' w'} {f : Nat} (E : Ext M F w M' F' w') : Ext M (upd F f .dead) w M' (upd F' f .dead) w' where
  io := E.io
  no := E.no
  nf := E.nf
  obj := E.obj
  dead g hg hd := by
    simp only [upd] at hd ⊢
    split at hd
    · rename_i e; rw [if_pos e]
    · rename_i e; rw [if_neg e]; exact E.dead g hg hd
  spoil g hg hs := by
    simp only [upd] at hs ⊢
    split at hs
    · cases hs
    · rename_i e; rw [if_neg e]; exact E.spoil g hg hs
  size := E.size
  shape := E.shape
  stat := E.stat
  free := E.free
  famr B g hg hr hd := by
    simp only [upd] at hd
    split at hd
    · exact absurd rfl hd
    · exact E.famr B g hg hr hd
  famc B g hg hr ha := by
    simp only [upd] at ha
    split at ha
    · cases ha
    · exact E.famc B g hg hr ha

theorem GOk.detour {P G M F w M2 F2 w2} {l f0 : Nat} {o o1 : Obj} (g : GOk P G M F w) (E : Ext M F w M2 F2 w2) (hl : w.heap.size ≤ l) (hr : M2.role l = some (.fam f0)) (hf0 : M.nf ≤ f0) (h : w2.heap[l]? = some o) (hc : o.isCells = false) (hc1 : o1.isCells = false) :
    GOk P G M2 F2 (w2.putObj l o1) where
  vars x := ((g.vars x).mono E).same (sameCells_put h hc hc1)
  yields x hx := by
    obtain ⟨r, f1, M0, F0, w0, E0, hlt, h1, h2, h3, h4⟩ := g.yields x hx
    refine ⟨r, f1, M0, F0, w0, (E0.trans E).putBehind h hc (Nat.le_trans E0.size hl) h3, Nat.lt_of_lt_of_le hlt E.nf, fun ha => ?_, h2, h3, h4⟩
    obtain ⟨h5, h6⟩ := h1 (E.alive hlt ha)
    have h7 := E.famr x f1 hlt h5 (by rw [ha]; simp)
    have hne : x ≠ l := by
      rintro rfl
      rw [hr] at h7; cases h7; omega
    exact ⟨h7, by rw [putObj_heap, if_neg (fun e => hne e.1), E.famc x f1 hlt h5 ha, h6]⟩
  fixed B cs hB := by
    obtain ⟨hro, t, fr, hh⟩ := g.fixed B cs hB
    obtain ⟨h1, h2⟩ := E.stat B hro
    have hlt := (Array.getElem?_eq_some_iff.1 hh).1
    exact ⟨h1, t, fr, by rw [putObj_heap, if_neg (fun e => by omega), h2, hh]⟩

section
variable {P : Program} {G : Env} {n : Nat} {pa pb : PC} {f : FuncId} {fn : Func} {assign body : Code}
/-- ROUNDS RUN. Me, we: where the loop was entered; M1, w1: behind its record's laying. -/
theorem yrun_under (hm : P.follows .mixedOrders = true) (hf : P.funcs[f]? = some fn) (hpa : plan n assign = some pa) (hpb : plan n body = some pb) {psA : Array Nat} (hps : ∀ p ∈ psA.toList, p < n) {a : Nat → AV}
    {Me : Mp} {Fe : Nat → FSt} {we : World} (ge : GOk P G Me Fe we) {M1 : Mp} {F1 : Nat → FSt} {w1 : World} (Ee : Ext Me Fe we M1 F1 w1) {l d : Nat} (hl : we.heap.size ≤ l) (hnf : Me.nf < M1.nf)
    {tmps : Array Value} (hn : tmps.size = n) (ht : ∀ t, VR M1 F1 w1 (a t) (tmps.getD t undef)) :
    YRun P (G.under P n pa pb psA.toList Me.nf a l) M1 F1 w1 l Me.nf { state := .ready, pending := none, fn := f, tmps := tmps, params := psA, assign := assign, body := body, defers := d } := by
  intro args σ K PK M w cargs hy S E0 hrole hheap hcells
  obtain ⟨_, hargs, hal, hround⟩ := hy
  have hsz : cargs.size = psA.size := by rw [hcells.1, hargs]; simp
  refine ⟨_, _, _, _, run_yield hheap (by simpa using hsz), ?_⟩
  have hfr := Fr.upds (M := M) (F := σ.F) (w := w) hn (fun t => (ht t).mono E0) psA.toList args cargs.toList hps (by simp [hcells.1]) (fun j h h' => by
    have := hcells.get j h (by simpa using h')
    simpa using this)
  have efold : (psA.zip cargs).foldl (fun tmps (x : Nat × Value) => tmps.setIfInBounds x.1 x.2) tmps = (psA.toList.zip cargs.toList).foldl (fun tmps x => tmps.setIfInBounds x.1 x.2) tmps := by
    rw [← Array.foldl_toList, Array.toList_zip]
  rw [← efold] at hfr
  have ge1 := Ee.trans E0
  refine roundIn_any hf (wpIn_mono (avc_sound hm assign pa hpa _ _ σ hround (some l) [] M σ.F w M w { tmps := _, defers := [] } S (ge.mono ge1) (.refl ..) ⟨hfr.1, hfr.2⟩ rfl) fun e ac1 w1' hq => ?_)
  obtain ⟨e', a1, σ1, M2, q, rr, S2, g2, E2, f2, hD2⟩ := hq
  cases e' with
  | exit i => exact q.elim
  | ret => exact q.elim
  | panic v => exact q.elim
  | normal =>
    cases e <;> simp only [ERel] at rr
    obtain ⟨hal1, hbody⟩ := q
    have hMnf : Me.nf < M.nf := Nat.lt_of_lt_of_le hnf E0.nf
    have hrole2 := E2.famr l Me.nf hMnf hrole (by rw [hal1]; simp)
    have hheap2 : w1'.heap[l]? = some (.loop _) := (E2.famc l Me.nf hMnf hrole hal1).trans hheap
    refine ⟨_, run_beginRound hheap2 rfl, ?_⟩
    have sc := sameCells_put (o' := .loop { state := .busy, pending := none, fn := f, tmps := tmps, params := psA, assign := assign, body := body, defers := d }) hheap2 rfl rfl
    have g2b := ge.detour (o1 := .loop { state := .busy, pending := none, fn := f, tmps := tmps, params := psA, assign := assign, body := body, defers := d }) (ge1.trans E2) hl hrole2 (Nat.le_refl _) hheap2 rfl rfl
    refine wpIn_mono (avc_sound hm body pb hpb _ _ σ1 hbody (some l) [] M2 σ1.F _ M2 _ ac1 (S2.same sc) g2b (.refl ..) (f2.same sc) hD2) fun e2 ac2 w3 hq2 => ?_
    obtain ⟨e2', a2, σ2, M3, q2, rr2, S3, g3, E3, f3, hD3⟩ := hq2
    have hMnf2 : Me.nf < M2.nf := Nat.lt_of_lt_of_le hMnf E2.nf
    have hput : (w1'.putObj l (.loop { state := .busy, pending := none, fn := f, tmps := tmps, params := psA, assign := assign, body := body, defers := d })).heap[l]? = some (.loop { state := .busy, pending := none, fn := f, tmps := tmps, params := psA, assign := assign, body := body, defers := d }) := by
      rw [putObj_heap, if_pos ⟨rfl, (Array.getElem?_eq_some_iff.1 hheap2).1⟩]
    cases e2' with
    | exit i => exact q2.elim
    | ret => exact q2.elim
    | normal =>
      cases e2 <;> simp only [ERel] at rr2
      obtain ⟨hal2, hK⟩ := q2
      have hheap3 : w3.heap[l]? = some (.loop _) := (E3.famc l Me.nf hMnf2 hrole2 hal2).trans hput
      refine ⟨_, _, run_endRound none hheap3, ?_⟩
      have sc3 := sameCells_put (o' := .loop { state := .ready, pending := none, fn := f, tmps := tmps, params := psA, assign := assign, body := body, defers := d }) hheap3 rfl rfl
      exact ⟨.bool true, σ2, M3, hK, .bool true, S3.same sc3, E2.trans (E3.restore hheap2 rfl)⟩
    | panic v =>
      cases e2 <;> simp only [ERel] at rr2
      obtain ⟨hal2, hK⟩ := q2
      obtain ⟨v', rfl, hv⟩ := rr2
      have Ed := Ext.dead_fam (M := M3) (w := w3) hal2
      exact ⟨hD3, v', rfl, v, _, M3, hK, hv.mono Ed, S3.ext_F Ed, (E2.trans (Ext.putFam hheap2 rfl hrole2 hal1)).trans E3.both_dead⟩
end
end Go.Abs
