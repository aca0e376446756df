/- Operations that look at the state, or change it: loads, stores, new variables; no condition. -/
import Derived.Test.YthifgodgfhbnfaaDoorAbs6
import Derived.Laws.IdiomCopy
import Derived.Laws.Cells
namespace Go.Abs
open Go

def AS.newO (σ : AS) (cs : List AV) : AS := { σ with objs := upd σ.objs σ.no (some cs), no := σ.no + 1 }
def AS.setO (σ : AS) (o : Nat) (cs : List AV) : AS := { σ with objs := upd σ.objs o (some cs) }
def AS.newF (σ : AS) : AS := { σ with F := upd σ.F σ.nf .alive, nf := σ.nf + 1 }
def AS.setF (σ : AS) (f : Nat) (s : FSt) : AS := { σ with F := upd σ.F f s }

theorem exists_list {n : Nat} {p : Nat → Value → Prop} (h : ∀ j, j < n → ∃ c, p j c) : ∃ l : List Value, l.length = n ∧ ∀ j c, l[j]? = some c → p j c := by
  induction n with
  | zero => exact ⟨[], rfl, by simp⟩
  | succ n ih =>
    obtain ⟨l, hl, hp⟩ := ih (fun j hj => h j (by omega))
    obtain ⟨c, hc⟩ := h n (by omega)
    refine ⟨l ++ [c], by simp [hl], fun j d hd => ?_⟩
    by_cases e : j < n
    · rw [List.getElem?_append_left (by omega)] at hd; exact hp j d hd
    · rw [List.getElem?_append_right (by omega)] at hd
      have : j - l.length = 0 := by
        by_cases h0 : j - l.length = 0
        · exact h0
        · rw [List.getElem?_eq_none (by simp; omega)] at hd; cases hd
      rw [this] at hd
      simp at hd
      subst hd
      rw [show j = n by omega]; exact hc

theorem Sim.cells {M σ w} (S : Sim M σ w) {o cs} (h : σ.objs o = some cs) :
    ∃ l : List Value, l.length = cs.length ∧ (∀ j c, l[j]? = some c → w.cell? ⟨(M.obj o).1, (M.obj o).2 + j, none⟩ = some c ∧ w.frozen? ⟨(M.obj o).1, (M.obj o).2 + j, none⟩ = false) ∧
      ∀ j (h1 : j < cs.length) (h2 : j < l.length), VR M σ.F w cs[j] l[j] := by
  obtain ⟨_, _, hc⟩ := S.obj o cs h
  obtain ⟨l, hl, hp⟩ := exists_list (n := cs.length) (p := fun j c => w.cell? ⟨(M.obj o).1, (M.obj o).2 + j, none⟩ = some c ∧ w.frozen? ⟨(M.obj o).1, (M.obj o).2 + j, none⟩ = false ∧ ∀ h : j < cs.length, VR M σ.F w cs[j] c)
    (fun j hj => by obtain ⟨c, h1, h2, h3⟩ := hc j hj; exact ⟨c, h1, h2, fun _ => h3⟩)
  exact ⟨l, hl, fun j c hj => ⟨(hp j c hj).1, (hp j c hj).2.1⟩, fun j h1 h2 => (hp j _ (List.getElem?_eq_getElem h2)).2.2 h1⟩

/-- a variable's value -/
def aload (P : Program) (t : TypeId) (p : AV) (σ : AS) (K : AV → Prop) : Prop :=
  match p with
  | .ptr o off => ∃ cs n, σ.objs o = some cs ∧ szOf P t = some n ∧ partOf (aggOf P t) n off cs K
  | .pv φ v => Readable σ.F φ ∧ ∃ n, szOf P t = some n ∧ (if aggOf P t then ∃ cs, v = .agg cs ∧ cs.length = n ∧ K v else v.cells = [v] ∧ K v)
  | _ => False

theorem run_loadVar_list {P : Program} {t n} (hn : szOf P t = some n) {w : World} {B off : Nat} {l : List Value} (hl : l.length = n) (hg : aggOf P t = true)
    (h : ∀ j c, l[j]? = some c → w.cell? ⟨B, off + j, none⟩ = some c) : (loadVar t ⟨B, off, none⟩).run P w = .ok (.agg l.toArray) w := by
  obtain ⟨d, hd⟩ := szOf_und hn
  have := run_loadCells_list (P := P) w ⟨B, off, none⟩ l (fun j v hv => by rw [addr_add]; exact h j v hv)
  simp [loadVar, run_isAgg' hd, hg, run_sizeOf' hn, ← hl, this]

theorem run_loadVar_one {P : Program} {t n} (hn : szOf P t = some n) {w : World} {B off : Nat} {c : Value} (hg : aggOf P t = false)
    (h : w.cell? ⟨B, off, none⟩ = some c) : (loadVar t ⟨B, off, none⟩).run P w = .ok c w := by
  obtain ⟨d, hd⟩ := szOf_und hn
  simp [loadVar, run_isAgg' hd, hg, h]

theorem aload_sound {P : Program} {t p σ} {K : AV → Prop} (h : aload P t p σ K) :
    ∃ v, K v ∧ ∀ M w p', Sim M σ w → VR M σ.F w p p' → ∃ v', (Instr.loadAt t p').run P w = .ok v' w ∧ VR M σ.F w v v' := by
  unfold aload at h
  split at h
  · rename_i o off
    obtain ⟨cs, n, ho, hn, hp⟩ := h
    unfold partOf at hp
    split at hp
    · rename_i hg
      refine ⟨_, hp.2, fun M w p' S hv => ?_⟩
      obtain ⟨hlt, rfl⟩ := ptr_inv hv
      obtain ⟨l, hl, hc, hr⟩ := S.cells ho
      have hlen : ((l.drop off).take n).length = n := by simp; omega
      refine ⟨.agg ((l.drop off).take n).toArray, ?_, ?_⟩
      · simp only [Instr.loadAt, Instr.sureAddr, Sem.run_bind, Sem.run_pure, Result.andThen_ok]
        refine run_loadVar_list hn hlen hg (fun j c hj => ?_)
        have hj' : l[off + j]? = some c := by
          rw [List.getElem?_take] at hj
          split at hj
          · rwa [List.getElem?_drop] at hj
          · cases hj
        have := (hc _ _ hj').1
        rwa [← Nat.add_assoc] at this
      · refine .agg _ _ (by simp; omega) (fun j h1 h2 => ?_)
        have h1' : j < n := by simp at h1; omega
        have := hr (off + j) (by have := hp.1; omega) (by have := hp.1; omega)
        simpa using this
    · rename_i hg
      obtain ⟨v, hv, hK⟩ := hp
      refine ⟨v, hK, fun M w p' S hv' => ?_⟩
      obtain ⟨hlt, rfl⟩ := ptr_inv hv'
      obtain ⟨h1, rfl⟩ := List.getElem?_eq_some_iff.1 hv
      obtain ⟨_, _, hc⟩ := S.obj o cs ho
      obtain ⟨c, h2, h3, h4⟩ := hc off h1
      refine ⟨c, ?_, h4⟩
      simp only [Instr.loadAt, Instr.sureAddr, Sem.run_bind, Sem.run_pure, Result.andThen_ok]
      exact run_loadVar_one hn (by simpa using hg) h2
  · rename_i φ v
    obtain ⟨hrd, n, hn, hp⟩ := h
    split at hp
    · rename_i hg
      obtain ⟨cs, rfl, hl, hK⟩ := hp
      refine ⟨_, hK, fun M w p' S hv => ?_⟩
      cases hv with
      | pv _ _ B off c hm hc hv =>
      have hlen : ((List.range n).map c).length = n := by simp
      refine ⟨.agg ((List.range n).map c).toArray, ?_, ?_⟩
      · simp only [Instr.loadAt, Instr.sureAddr, Sem.run_bind, Sem.run_pure, Result.andThen_ok]
        refine run_loadVar_list hn hlen hg (fun j x hj => ?_)
        obtain ⟨h1, rfl⟩ := List.getElem?_eq_some_iff.1 hj
        simp only [List.getElem_map, List.getElem_range]
        simp at h1
        exact hc hrd j (by simp [AV.cells]; omega)
      · refine .agg _ _ (by simp; omega) (fun j h1 h2 => ?_)
        have := hv hrd j (by simpa [AV.cells] using h1)
        simpa [AV.cells] using this
    · rename_i hg
      obtain ⟨hone, hK⟩ := hp
      refine ⟨_, hK, fun M w p' S hv => ?_⟩
      cases hv with
      | pv _ _ B off c hm hc hv =>
      have h0 : 0 < v.cells.length := by rw [hone]; simp
      refine ⟨c 0, ?_, ?_⟩
      · simp only [Instr.loadAt, Instr.sureAddr, Sem.run_bind, Sem.run_pure, Result.andThen_ok]
        exact run_loadVar_one hn (by simpa using hg) (hc hrd 0 h0)
      · have := hv hrd 0 h0
        simp only [hone, List.getElem_cons_zero] at this
        exact this
  · exact h.elim

/-! ### new variables -/
def Mp.newObj (M : Mp) (B : Nat) : Mp := { role := upd M.role B (some .obj), obj := upd M.obj M.no (B, 0), no := M.no + 1, nf := M.nf }

theorem ext_newObj {M F} {w : World} (hM : ∀ B r, M.role B = some r → B < w.heap.size) (o : Obj) : Ext M F w (M.newObj w.heap.size) F { w with heap := w.heap.push o } where
  io := ⟨rfl, rfl, rfl⟩
  no := by simp [Mp.newObj]
  nf := Nat.le_refl _
  obj x h := by simp only [Mp.newObj]; rw [upd_ne _ _ (by omega)]
  dead _ _ h := h
  spoil _ _ h := by rw [h]; simp
  size := by simp
  shape B c e z h := by
    have hB : B < w.heap.size := (Array.getElem?_eq_some_iff.1 h).1
    exact ⟨c, by rw [heap_push_lt hB]; exact h, rfl⟩
  stat B h := by
    have hB := hM B _ h
    exact ⟨by simp only [Mp.newObj]; rw [upd_ne _ _ (by omega)]; exact h, heap_push_lt hB⟩
  free B hB h := ⟨by simp only [Mp.newObj]; rw [upd_ne _ _ (by omega)]; exact h, heap_push_lt hB⟩
  famr B f hf h _ := by
    have hB := hM B _ h
    simp only [Mp.newObj]; rw [upd_ne _ _ (by omega)]; exact h
  famc B f hf h _ := heap_push_lt (hM B _ h)

theorem sim_newObj {M σ} {w : World} (S : Sim M σ w) {A : Array Value} {e : TypeId} {cs : List AV} (hA : Cells M σ.F w cs A) :
    Sim (M.newObj w.heap.size) (σ.newO cs) { w with heap := w.heap.push (.cells A e) } where
  no := by simp [Mp.newObj, AS.newO, S.no]
  nf := S.nf
  role B r' h := by
    simp only [Mp.newObj, upd] at h
    split at h
    · simp; omega
    · have := S.role B r' h
      simp; omega
  obj x cs' hx := by
    have hE := ext_newObj (F := σ.F) S.role (.cells A e)
    by_cases hxn : x = σ.no
    · subst hxn
      simp only [AS.newO, upd_same] at hx
      cases hx
      refine ⟨by simp [AS.newO], by simp only [Mp.newObj]; rw [← S.no, upd_same, upd_same], fun j hj => ?_⟩
      have e1 : (M.newObj w.heap.size).obj σ.no = (w.heap.size, 0) := by simp only [Mp.newObj]; rw [← S.no, upd_same]
      refine ⟨A[j]'(by rw [hA.1]; exact hj), ?_, ?_, (hA.get j hj (by rw [hA.1]; exact hj)).mono hE⟩
      · rw [e1]; simp [World.cell?]
      · rw [e1]; simp [World.frozen?]
    · simp only [AS.newO] at hx
      rw [upd_ne _ _ hxn] at hx
      obtain ⟨a, b, c⟩ := S.obj x cs' hx
      have hB := S.role _ _ b
      have e1 : (M.newObj w.heap.size).obj x = M.obj x := by simp only [Mp.newObj]; rw [upd_ne _ _ (by rw [S.no]; exact hxn)]
      rw [e1]
      refine ⟨by simp [AS.newO]; omega, by simp only [Mp.newObj]; rw [upd_ne _ _ (by omega)]; exact b, fun j hj => ?_⟩
      obtain ⟨v, h1, h2, h3⟩ := c j hj
      have e := heap_push_lt (o := .cells A e) hB
      exact ⟨v, (cell?_of_heap e).trans h1, (frozen?_of_heap e).trans h2, h3.mono hE⟩
  inj x y hx hy hxy := by
    have key : ∀ z, ((σ.newO cs).objs z).isSome = true → z = σ.no ∨ (z ≠ σ.no ∧ (σ.objs z).isSome = true ∧ (M.obj z).1 < w.heap.size) := by
      intro z hz
      by_cases h : z = σ.no
      · exact .inl h
      · simp only [AS.newO] at hz
        rw [upd_ne _ _ h] at hz
        obtain ⟨c, hc⟩ := Option.isSome_iff_exists.1 hz
        exact .inr ⟨h, hz, S.role _ _ (S.obj z c hc).2.1⟩
    have e0 : (M.newObj w.heap.size).obj σ.no = (w.heap.size, 0) := by simp only [Mp.newObj]; rw [← S.no, upd_same]
    have e1 : ∀ z, z ≠ σ.no → (M.newObj w.heap.size).obj z = M.obj z := by intro z hz; simp only [Mp.newObj]; rw [upd_ne _ _ (by rw [S.no]; exact hz)]
    rcases key x hx with rfl | ⟨h1, h2, h3⟩ <;> rcases key y hy with rfl | ⟨h4, h5, h6⟩
    · rfl
    · rw [e0, e1 y h4] at hxy; simp only at hxy; omega
    · rw [e0, e1 x h1] at hxy; simp only at hxy; omega
    · rw [e1 x h1, e1 y h4] at hxy; exact S.inj x y h2 h5 hxy

/-! ### a store into a variable -/
def astore (P : Program) (t : TypeId) (p v : AV) (σ : AS) (K : AS → Prop) : Prop :=
  match p with
  | .ptr o off => ∃ cs, σ.objs o = some cs ∧ v.known = true ∧ szOf P t = some v.cells.length ∧ off + v.cells.length ≤ cs.length ∧ (∀ c ∈ v.cells, c.one = true) ∧ K (σ.setO o (splice cs off v.cells))
  | .pv (.fam f _) u => σ.F f ≠ .dead ∧ v.known = true ∧ szOf P t = some v.cells.length ∧ u.cells.length = v.cells.length ∧ (∀ c ∈ v.cells, c.one = true) ∧ K (σ.setF f .spoiled)
  | _ => False

theorem VR.oneCell {M F w v c} (h : VR M F w v c) (h1 : v.one = true) : c.oneCell' = true := by
  cases h <;> first | rfl | (simp [AV.one] at h1)

theorem setCells_io (b : Nat) : ∀ (vs : List Value) (o : Nat) (w : World), SameIO w (w.setCells b o vs)
  | [], _, _ => ⟨rfl, rfl, rfl⟩
  | v :: r, o, w => by
    rw [World.setCells]
    exact SameIO.trans ⟨rfl, rfl, rfl⟩ (setCells_io b r _ _)

theorem setCells_heap_ne (b : Nat) : ∀ (vs : List Value) (o : Nat) (w : World) (B : Nat), B ≠ b → (w.setCells b o vs).heap[B]? = w.heap[B]?
  | [], _, _, _, _ => rfl
  | v :: r, o, w, B, h => by
    rw [World.setCells, setCells_heap_ne b r _ _ B h]
    simp [World.setCell, Array.getElem?_modify, Ne.symm h]

theorem setCells_heap_eq (b : Nat) : ∀ (vs : List Value) (o : Nat) (w : World) c e z, w.heap[b]? = some (.cells c e z) → ∃ c', (w.setCells b o vs).heap[b]? = some (.cells c' e z) ∧ c'.size = c.size
  | [], _, _, c, _, _, h => ⟨c, h, rfl⟩
  | v :: r, o, w, c, e, z, h => by
    rw [World.setCells]
    obtain ⟨c', h1, h2⟩ := setCells_heap_eq b r (o + 1) (w.setCell ⟨b, o, none⟩ v) (c.setIfInBounds o v) e z (by simp [World.setCell, Array.getElem?_modify, h])
    exact ⟨c', h1, by rw [h2]; simp⟩

theorem setCells_size (b : Nat) : ∀ (vs : List Value) (o : Nat) (w : World), (w.setCells b o vs).heap.size = w.heap.size
  | [], _, _ => rfl
  | v :: r, o, w => by rw [World.setCells, setCells_size b r]; simp [World.setCell]

theorem ext_setCells {M F F'} {w : World} {b : Nat} {r : Role} (hr : M.role b = some r) (hn : r ≠ .stat) (hf : ∀ f, r = .fam f → f < M.nf → F' f ≠ .alive)
    (hd : ∀ f, f < M.nf → F f = .dead → F' f = .dead) (hs : ∀ f, f < M.nf → F f = .spoiled → F' f ≠ .alive) (vs : List Value) (o : Nat) : Ext M F w M F' (w.setCells b o vs) where
  io := setCells_io b vs o w
  no := Nat.le_refl _
  nf := Nat.le_refl _
  obj _ _ := rfl
  dead := hd
  spoil := hs
  size := by rw [setCells_size]; exact Nat.le_refl _
  shape B c e z h := by
    by_cases hB : B = b
    · subst hB; exact setCells_heap_eq B vs o w c e z h
    · exact ⟨c, by rw [setCells_heap_ne b vs o w B hB]; exact h, rfl⟩
  stat B h := ⟨h, setCells_heap_ne b vs o w B (by rintro rfl; rw [h] at hr; cases hr; exact hn rfl)⟩
  free B _ h := ⟨h, setCells_heap_ne b vs o w B (by rintro rfl; rw [h] at hr; cases hr)⟩
  famr _ _ _ h _ := h
  famc B f hlt h ha := setCells_heap_ne b vs o w B (by rintro rfl; rw [h] at hr; cases hr; exact hf f rfl hlt ha)

theorem cells_list {M F w} {v : AV} {c : Value} (h : VR M F w v c) (hk : v.known = true) (h1 : ∀ x ∈ v.cells, x.one = true) :
    c.cells.toList.length = v.cells.length ∧ (∀ x ∈ c.cells.toList, x.oneCell' = true) ∧ ∀ j (h : j < v.cells.length) (h' : j < c.cells.toList.length), VR M F w v.cells[j] c.cells.toList[j] := by
  obtain ⟨e1, e2⟩ := h.cells_rel hk
  refine ⟨by simp [e1], fun x hx => ?_, fun j h h' => by simpa using e2 j h (by simpa using h')⟩
  obtain ⟨j, hj, rfl⟩ := List.getElem_of_mem hx
  have hj' : j < c.cells.size := by simpa using hj
  have := e2 j (by omega) hj'
  simp only [Array.getElem_toList]
  exact this.oneCell (h1 _ (List.getElem_mem _))

theorem astore_sound {P : Program} {t p v σ} {K : AS → Prop} (h : astore P t p v σ K) {M w p' v'} (S : Sim M σ w) (hp : VR M σ.F w p p') (hv : VR M σ.F w v v') :
    ∃ σ' w', (Instr.storeAt t p' v').run P w = .ok () w' ∧ K σ' ∧ Sim M σ' w' ∧ Ext M σ.F w M σ'.F w' := by
  unfold astore at h
  split at h
  · rename_i o off
    obtain ⟨cs, ho, hk, hn, hb, hone, hK⟩ := h
    obtain ⟨hlt, rfl⟩ := ptr_inv hp
    obtain ⟨hol, hor, hoc⟩ := S.obj o cs ho
    obtain ⟨l1, l2, l3⟩ := cells_list hv hk hone
    have hcell : ∀ j, j < v'.cells.toList.length → (w.cell? ⟨(M.obj o).1, (M.obj o).2 + off + 0 + j, none⟩).isSome = true := fun j hj => by
      obtain ⟨c, h1, _⟩ := hoc (off + j) (by omega)
      rw [Nat.add_zero, Nat.add_assoc, h1]; rfl
    have hfz : ∀ j, j < v'.cells.toList.length → w.frozen? ⟨(M.obj o).1, (M.obj o).2 + off + 0 + j, none⟩ = false := fun j hj => by
      obtain ⟨c, _, h2, _⟩ := hoc (off + j) (by omega)
      rw [Nat.add_zero, Nat.add_assoc]; exact h2
    have hrun := run_storeCells_cells (P := P) (M.obj o).1 ((M.obj o).2 + off) v'.cells.toList 0 w hcell hfz l2
    have hE : Ext M σ.F w M σ.F (w.setCells (M.obj o).1 ((M.obj o).2 + off + 0) v'.cells.toList) :=
      ext_setCells (F' := σ.F) hor (by simp) (by intro f hf; cases hf) (fun _ _ h => h) (fun _ _ h => by rw [h]; simp) _ _
    refine ⟨_, _, ?_, hK, ?_, hE⟩
    · have hsz : v'.cells.size = v.cells.length := by simpa using l1
      simp only [Instr.storeAt, Instr.sureAddr, storeVar, Sem.run_bind, Sem.run_pure, Result.andThen_ok, run_sizeOf' hn, Sem.run_ite]
      rw [if_neg (by rw [hsz]; simp)]
      exact hrun
    · refine ⟨S.no, S.nf, fun B r hr => by rw [setCells_size]; exact S.role B r hr, fun x cs' hx => ?_, fun x y hx hy hxy => ?_⟩
      · by_cases hxo : x = o
        · subst hxo
          simp only [AS.setO, upd_same] at hx
          cases hx
          refine ⟨hol, hor, fun j hj => ?_⟩
          have hj' : j < cs.length := by rwa [splice_length hb] at hj
          obtain ⟨c, h1, h2, h3⟩ := hoc j hj'
          by_cases hin : off ≤ j ∧ j < off + v.cells.length
          · obtain ⟨i, rfl⟩ : ∃ i, j = off + i := ⟨j - off, by omega⟩
            refine ⟨v'.cells.toList[i]'(by omega), ?_, ?_, ?_⟩
            · have := World.cell?_setCells_in (M.obj x).1 v'.cells.toList ((M.obj x).2 + off + 0) w hcell i (by omega)
              rw [← Nat.add_assoc]
              exact this
            · rw [World.frozen?_setCells]; exact h2
            · have e : (splice cs off v.cells)[off + i] = v.cells[i]'(by omega) := by
                have := splice_get (cs := cs) (vs := v.cells) (off := off) (j := off + i) hb
                rw [if_pos hin, List.getElem?_eq_getElem hj, List.getElem?_eq_getElem (by omega)] at this
                simp only [Option.some.injEq] at this
                rw [this]; congr 1; omega
              rw [e]
              exact (l3 i (by omega) (by omega)).mono hE
          · refine ⟨c, ?_, ?_, ?_⟩
            · rw [World.cell?_setCells_out]
              · exact h1
              · intro _ _; simp only; omega
            · rw [World.frozen?_setCells]; exact h2
            · have e : (splice cs off v.cells)[j] = cs[j] := by
                have := splice_get (cs := cs) (vs := v.cells) (off := off) (j := j) hb
                rw [if_neg hin, List.getElem?_eq_getElem hj, List.getElem?_eq_getElem hj'] at this
                simpa using this
              rw [e]
              exact h3.mono hE
        · simp only [AS.setO] at hx
          rw [upd_ne _ _ hxo] at hx
          obtain ⟨a, b, c⟩ := S.obj x cs' hx
          refine ⟨a, b, fun j hj => ?_⟩
          obtain ⟨u, h1, h2, h3⟩ := c j hj
          have hne : (M.obj x).1 ≠ (M.obj o).1 := fun e => hxo (S.inj x o (by rw [hx]; rfl) (by rw [ho]; rfl) e)
          have e := setCells_heap_ne (M.obj o).1 v'.cells.toList ((M.obj o).2 + off + 0) w _ hne
          exact ⟨u, (cell?_of_heap e).trans h1, (frozen?_of_heap e).trans h2, h3.mono hE⟩
      · have key : ∀ z, ((σ.setO o (splice cs off v.cells)).objs z).isSome = true → (σ.objs z).isSome = true := by
          intro z hz
          by_cases hzo : z = o
          · subst hzo; rw [ho]; rfl
          · simp only [AS.setO] at hz; rwa [upd_ne _ _ hzo] at hz
        exact S.inj x y (key x hx) (key y hy) hxy
  · rename_i f b u
    obtain ⟨hfd, hk, hn, hu, hone, hK⟩ := h
    cases hp with
    | pv _ _ B off c hm hc hv' =>
    obtain ⟨hfl, hm⟩ := hm
    obtain ⟨hrole, hmem⟩ := hm hfd
    obtain ⟨l1, l2, l3⟩ := cells_list hv hk hone
    have hrun := run_storeCells_cells (P := P) B off v'.cells.toList 0 w (fun j hj => by rw [Nat.add_zero]; exact (hmem j (by omega)).1) (fun j hj => by rw [Nat.add_zero]; exact (hmem j (by omega)).2) l2
    have hE : Ext M σ.F w M (upd σ.F f .spoiled) (w.setCells B (off + 0) v'.cells.toList) := by
      refine ext_setCells hrole (by simp) (by intro g hg _; cases hg; rw [upd_same]; simp) (fun g hg hd => ?_) (fun g hg hd => ?_) _ _
      · by_cases e : g = f
        · subst e; exact absurd hd hfd
        · rw [upd_ne _ _ e]; exact hd
      · by_cases e : g = f
        · subst e; rw [upd_same]; simp
        · rw [upd_ne _ _ e, hd]; simp
    refine ⟨_, _, ?_, hK, ?_, hE⟩
    · have hsz : v'.cells.size = v.cells.length := by simpa using l1
      simp only [Instr.storeAt, Instr.sureAddr, storeVar, Sem.run_bind, Sem.run_pure, Result.andThen_ok, run_sizeOf' hn, Sem.run_ite]
      rw [if_neg (by rw [hsz]; simp)]
      exact hrun
    · refine ⟨S.no, S.nf, fun B r hr => by rw [setCells_size]; exact S.role B r hr, fun x cs' hx => ?_, S.inj⟩
      obtain ⟨a, b', c'⟩ := S.obj x cs' hx
      refine ⟨a, b', fun j hj => ?_⟩
      obtain ⟨q, h1, h2, h3⟩ := c' j hj
      have hne : (M.obj x).1 ≠ B := by rintro e; rw [e, hrole] at b'; cases b'
      have e := setCells_heap_ne B v'.cells.toList (off + 0) w _ hne
      exact ⟨q, (cell?_of_heap e).trans h1, (frozen?_of_heap e).trans h2, h3.mono hE⟩
  · exact h.elim

end Go.Abs
