/- append on abstract slices; no condition. -/
import Derived.Test.YthifgodgfhbnfaaDoorAbs8
namespace Go.Abs
open Go

/-- append; a family that grows gets a new name, and its old slices are not looked at any more -/
def aappend (P : Program) (tS tX : TypeId) (s x : AV) (σ : AS) (K : AV → AS → Prop) : Prop :=
  ∃ sz bs z, elOf P tS = some sz ∧ elBytes P tS = some bs ∧ 0 < bs ∧ elZero P tS = some z ∧ z.known = true ∧ z.cells.length = sz ∧ 0 < sz ∧
    asource P tX z sz x σ.F fun ys => (∀ y ∈ ys, y.cells.length = sz ∧ ∀ c ∈ y.cells, c.one = true) ∧
      match s with
      | .nilsl => ys.length * bs ≤ 2 ^ 47 ∧ (ys = [] → K .nilsl σ) ∧ (ys ≠ [] → K (.sl (.fam σ.nf false) sz ys) σ.newF)
      | .sl (.stat true) s' xs => s' = sz ∧ (xs.length + ys.length) * bs ≤ 2 ^ 47 ∧ (ys = [] → K (.sl (.stat true) s' xs) σ) ∧ (ys ≠ [] → K (.sl (.fam σ.nf false) sz (xs ++ ys)) σ.newF)
      | .sl (.fam f true) s' xs => s' = sz ∧ (xs.length + ys.length) * bs ≤ 2 ^ 47 ∧ σ.F f = .alive ∧ (ys = [] → K (.sl (.fam f true) s' xs) σ) ∧ (ys ≠ [] → K (.sl (.fam σ.nf false) sz (xs ++ ys)) σ.newF)
      | .sl (.fam f false) s' xs => s' = sz ∧ (xs.length + ys.length) * bs ≤ 2 ^ 47 ∧ σ.F f = .alive ∧ K (.sl (.fam σ.nf false) sz (xs ++ ys)) (σ.setF f .dead).newF
      | .sl (.stat false) s' xs => ys = [] ∧ K (.sl (.stat false) s' xs) σ
      | _ => False

def Mp.newFam (M : Mp) (B : Nat) : Mp := { M with role := upd M.role B (some (.fam M.nf)), nf := M.nf + 1 }

/-- a new block becomes a new family's -/
theorem ext_newFam {M F F'} {w w' : World} (hM : ∀ B r, M.role B = some r → B < w.heap.size) (o : Obj) (hw : w'.heap = w.heap.push o) (hio : SameIO w w') (hF : ∀ g, g < M.nf → F' g = F g ∨ F' g = .dead) :
    Ext M F w (M.newFam w.heap.size) F' w' := by
  have hlt : ∀ B, B < w.heap.size → w'.heap[B]? = w.heap[B]? := fun B hB => by rw [hw]; simp [Array.getElem?_push, Nat.ne_of_lt hB]
  refine ⟨hio, Nat.le_refl _, by simp [Mp.newFam], fun _ _ => rfl, fun f hf hd => ?_, fun f hf hd => ?_, by rw [hw]; simp, fun B c e z h => ?_, fun B h => ?_, fun B hB h => ?_, fun B f hf h hd => ?_, fun B f hf h hd => ?_⟩
  · rcases hF f hf with e | e
    · rw [e, hd]
    · exact e
  · rcases hF f hf with e | e
    · rw [e, hd]; simp
    · rw [e]; simp
  · have hB : B < w.heap.size := (Array.getElem?_eq_some_iff.1 h).1
    exact ⟨c, by rw [hlt B hB]; exact h, rfl⟩
  · have hB := hM B _ h
    exact ⟨by simp only [Mp.newFam]; rw [upd_ne _ _ (by omega)]; exact h, hlt B hB⟩
  · exact ⟨by simp only [Mp.newFam]; rw [upd_ne _ _ (by omega)]; exact h, hlt B hB⟩
  · have hB := hM B _ h
    simp only [Mp.newFam]; rw [upd_ne _ _ (by omega)]; exact h
  · exact hlt B (hM B _ h)

theorem sim_newFam {M σ} {w w' : World} (S : Sim M σ w) (o : Obj) (hw : w'.heap = w.heap.push o) (hio : SameIO w w') {F' : Nat → FSt} (hF : ∀ g, g < M.nf → F' g = σ.F g ∨ F' g = .dead) :
    Sim (M.newFam w.heap.size) { σ with F := F', nf := σ.nf + 1 } w' := by
  have hE := ext_newFam (F := σ.F) S.role o hw hio hF
  refine ⟨S.no, by simp [Mp.newFam, S.nf], fun B r h => ?_, fun x cs hx => ?_, S.inj⟩
  · simp only [Mp.newFam, upd] at h
    rw [hw]
    split at h
    · simp; omega
    · have := S.role B r h
      simp; omega
  · obtain ⟨a, b, c⟩ := S.obj x cs hx
    have hB := S.role _ _ b
    refine ⟨a, by simp only [Mp.newFam]; rw [upd_ne _ _ (by omega)]; exact b, fun j hj => ?_⟩
    obtain ⟨v, h1, h2, h3⟩ := c j hj
    have e : w'.heap[(M.obj x).1]? = w.heap[(M.obj x).1]? := by rw [hw]; simp [Array.getElem?_push, Nat.ne_of_lt hB]
    exact ⟨v, (cell?_of_heap e).trans h1, (frozen?_of_heap e).trans h2, h3.mono hE⟩

/-- a family's block becomes a new family's, written behind the slice's end -/
theorem ext_grow {M F F'} {w : World} {B f : Nat} (hr : M.role B = some (.fam f)) (hf : F' f = .dead) (hF : ∀ g, g < M.nf → F' g = F g ∨ F' g = .dead) (vs : List Value) (o : Nat) :
    Ext M F w (M.newFam B) F' (w.setCells B o vs) := by
  refine ⟨setCells_io _ _ _ _, Nat.le_refl _, by simp [Mp.newFam], fun _ _ => rfl, fun f hf hd => ?_, fun f hf hd => ?_, by rw [setCells_size]; exact Nat.le_refl _, fun C c e z h => ?_, fun C h => ?_, fun C hC h => ?_, fun C g hg h hd => ?_, fun C g hg h hd => ?_⟩
  · rcases hF f hf with e | e
    · rw [e, hd]
    · exact e
  · rcases hF f hf with e | e
    · rw [e, hd]; simp
    · rw [e]; simp
  · by_cases hB : C = B
    · subst hB; exact setCells_heap_eq C vs o w c e z h
    · exact ⟨c, by rw [setCells_heap_ne B vs o w C hB]; exact h, rfl⟩
  · have hne : C ≠ B := by rintro rfl; rw [h] at hr; cases hr
    exact ⟨by simp only [Mp.newFam]; rw [upd_ne _ _ hne]; exact h, setCells_heap_ne B vs o w C hne⟩
  · have hne : C ≠ B := by rintro rfl; rw [h] at hr; cases hr
    exact ⟨by simp only [Mp.newFam]; rw [upd_ne _ _ hne]; exact h, setCells_heap_ne B vs o w C hne⟩
  · have hne : C ≠ B := by rintro rfl; rw [h] at hr; cases hr; exact hd hf
    simp only [Mp.newFam]; rw [upd_ne _ _ hne]; exact h
  · have hne : C ≠ B := by rintro rfl; rw [h] at hr; cases hr; rw [hf] at hd; cases hd
    exact setCells_heap_ne B vs o w C hne

theorem sim_grow {M σ} {w : World} (S : Sim M σ w) {B f : Nat} (hr : M.role B = some (.fam f)) {F' : Nat → FSt} (hf : F' f = .dead) (hF : ∀ g, g < M.nf → F' g = σ.F g ∨ F' g = .dead) (vs : List Value) (o : Nat) :
    Sim (M.newFam B) { σ with F := F', nf := σ.nf + 1 } (w.setCells B o vs) := by
  have hE := ext_grow (F := σ.F) (w := w) hr hf hF vs o
  refine ⟨S.no, by simp [Mp.newFam, S.nf], fun C r h => ?_, fun x cs hx => ?_, S.inj⟩
  · rw [setCells_size]
    simp only [Mp.newFam, upd] at h
    split at h
    · rename_i e; subst e; exact S.role C _ hr
    · exact S.role C r h
  · obtain ⟨a, b, c⟩ := S.obj x cs hx
    have hne : (M.obj x).1 ≠ B := by rintro e; rw [e, hr] at b; cases b
    refine ⟨a, by simp only [Mp.newFam]; rw [upd_ne _ _ hne]; exact b, fun j hj => ?_⟩
    obtain ⟨v, h1, h2, h3⟩ := c j hj
    have e := setCells_heap_ne B vs o w _ hne
    exact ⟨v, (cell?_of_heap e).trans h1, (frozen?_of_heap e).trans h2, h3.mono hE⟩

/-- what an operation leaves that yields a value -/
def Post (M : Mp) (F : Nat → FSt) (w : World) (K : AV → AS → Prop) (v' : Value) (w' : World) : Prop :=
  ∃ v σ' M', K v σ' ∧ VR M' σ'.F w' v v' ∧ Sim M' σ' w' ∧ Ext M F w M' σ'.F w'

theorem elBytes_spec {P : Program} {t b e} (h : elBytes P t = some b) (hu : P.underlying t = some (.slice e)) : ∃ i, P.info? e = some i ∧ i.bytes = b := by
  unfold elBytes at h; rw [hu] at h
  cases hi : P.info? e with
  | none => simp [hi] at h
  | some i => simp [hi] at h; exact ⟨i, rfl, h⟩

theorem flat_one {ys : List AV} (h : ∀ y ∈ ys, ∀ c ∈ y.cells, c.one = true) : ∀ c ∈ flat ys, c.one = true := by
  intro c hc
  simp only [flat, List.mem_flatMap] at hc
  obtain ⟨y, hy, hc⟩ := hc
  exact h y hy c hc

theorem post_new {P : Program} {M σ} {w : World} (S : Sim M σ w) {tS tX e : TypeId} {sz : Nat} (hu : P.underlying tS = some (.slice e)) (hs : szOf P e = some sz) {i : TypeInfo} (hi : P.info? e = some i)
    (hb0 : 0 < i.bytes) {zv : Value} (hz : i.zero = some zv) (hzs : zv.cells.size = sz) {x' : Value} {ys : List AV} {zeros new} (hsrc : Src P M σ.F w e tX sz x' ys zeros new) (hys : ∀ y ∈ ys, y.cells.length = sz)
    {base : Option Addr} {xs : List AV} {cap : Nat} (hfit : ¬ xs.length + ys.length ≤ cap) (hbound : (xs.length + ys.length) * i.bytes ≤ 2 ^ 47) (hxs : ∀ y ∈ xs, y.cells.length = sz)
    {old : Array Value} (hold : ∀ w', w'.heap = w.heap → (Builtin.firstCells sz xs.length (.slice base xs.length cap)).run P w' = .ok old w') (hco : Cells M σ.F w (flat xs) old) (ty : TypeId)
    {F' : Nat → FSt} (hF : ∀ g, g < σ.nf → F' g = σ.F g ∨ F' g = .dead) {K : AV → AS → Prop} (hK : K (.sl (.fam σ.nf false) sz (xs ++ ys)) { σ with F := F', nf := σ.nf + 1 }) :
    ∃ v' w', (Builtin.append_ #[tS, tX] ty #[.slice base xs.length cap, x']).run P w = .ok v' w' ∧ Post M σ.F w K v' w' := by
  obtain ⟨newCap, w', hle, hrun, hheap, hio⟩ := run_append_grow hu hs hi hz hsrc hfit hbound (by omega) hold ty
  have hF2 : ∀ g, g < M.nf → F' g = σ.F g ∨ F' g = .dead := by rw [S.nf]; exact hF
  have hE := ext_newFam (F := σ.F) S.role _ hheap hio hF2
  refine ⟨_, _, hrun, _, _, _, hK, ?_, sim_newFam S _ hheap hio hF2, hE⟩
  have hlen : (xs ++ ys).length = xs.length + ys.length := by simp
  have hall : ∀ y ∈ xs ++ ys, y.cells.length = sz := by
    intro y hy; rcases List.mem_append.1 hy with h | h
    · exact hxs y h
    · exact hys y h
  have hflx := flat_length sz xs hxs
  have hfly := flat_length sz ys hys
  have hcell : ∀ j, w'.cell? ⟨w.heap.size, 0 + j, none⟩ = (old ++ new ++ Builtin.zeroCells zv.cells (newCap - (xs.length + ys.length)))[j]? := by
    intro j; simp [World.cell?, hheap]
  have hfz : ∀ j, w'.frozen? ⟨w.heap.size, 0 + j, none⟩ = false := by
    intro j; simp [World.frozen?, hheap]
  have hsz : (old ++ new ++ Builtin.zeroCells zv.cells (newCap - (xs.length + ys.length))).size = newCap * sz := by
    simp only [Array.size_append, size_zeroCells, hzs, hco.1, hsrc.cells.1, hflx, hfly]
    rw [← Nat.add_mul, ← Nat.add_mul]; congr 1; omega
  have hflat : (flat (xs ++ ys)).length = xs.length * sz + ys.length * sz := by rw [flat_append, List.length_append, hflx, hfly]
  have hget : ∀ (j : Nat) v, (flat (xs ++ ys))[j]? = some v → ∃ c, (old ++ new ++ Builtin.zeroCells zv.cells (newCap - (xs.length + ys.length)))[j]? = some c ∧ VR M σ.F w v c := by
    intro j v hj
    rw [flat_append] at hj
    by_cases h : j < (flat xs).length
    · rw [List.getElem?_append_left h] at hj
      obtain ⟨c, h1, h2⟩ := hco.2 j v hj
      refine ⟨c, ?_, h2⟩
      rw [Array.append_assoc, Array.getElem?_append_left (by rw [hco.1]; exact h)]
      exact h1
    · rw [List.getElem?_append_right (by omega)] at hj
      obtain ⟨c, h1, h2⟩ := hsrc.cells.2 _ v hj
      have h3 := (List.getElem?_eq_some_iff.1 hj).1
      refine ⟨c, ?_, h2⟩
      rw [Array.getElem?_append_left (by simp only [Array.size_append, hco.1, hsrc.cells.1]; omega), Array.getElem?_append_right (by rw [hco.1]; omega), hco.1]
      exact h1
  rw [← hlen]
  refine .sl _ sz (xs ++ ys) w.heap.size 0 newCap (fun j => ((old ++ new ++ Builtin.zeroCells zv.cells (newCap - (xs.length + ys.length)))[j]?).getD undef) (by omega) (by simp [Own.full]) hall ?_ (fun _ j hj => ?_) (fun _ j hj => ?_)
  · refine ⟨by simp [Mp.newFam, S.nf], fun _ => ⟨by simp [Mp.newFam, upd, S.nf], fun j hj => ⟨?_, hfz j⟩⟩⟩
    rw [hcell, Array.getElem?_eq_getElem (by rw [hsz]; exact hj)]; rfl
  · obtain ⟨c, h1, h2⟩ := hget j _ (List.getElem?_eq_getElem hj)
    rw [hcell, h1]; rfl
  · obtain ⟨c, h1, h2⟩ := hget j _ (List.getElem?_eq_getElem hj)
    rw [h1]
    exact h2.mono hE

theorem post_grow {P : Program} {M σ} {w : World} (S : Sim M σ w) {tS tX e : TypeId} {sz : Nat} (hu : P.underlying tS = some (.slice e)) (hs : szOf P e = some sz) {i : TypeInfo} (hi : P.info? e = some i)
    {zv : Value} (hz : i.zero = some zv) {x' : Value} {ys : List AV} {zeros new} (hsrc : Src P M σ.F w e tX sz x' ys zeros new) (hys : ∀ y ∈ ys, y.cells.length = sz) (hone : ∀ y ∈ ys, ∀ c ∈ y.cells, c.one = true)
    {xs : List AV} {f B off cap : Nat} (hfit : xs.length + ys.length ≤ cap) (hbound : (xs.length + ys.length) * i.bytes ≤ 2 ^ 47)
    (hv : VR M σ.F w (.sl (.fam f false) sz xs) (.slice (some ⟨B, off, none⟩) xs.length cap)) (hal : σ.F f = .alive) (ty : TypeId)
    {K : AV → AS → Prop} (hK : K (.sl (.fam σ.nf false) sz (xs ++ ys)) (σ.setF f .dead).newF) :
    ∃ v' w', (Builtin.append_ #[tS, tX] ty #[.slice (some ⟨B, off, none⟩) xs.length cap, x']).run P w = .ok v' w' ∧ Post M σ.F w K v' w' := by
  cases hv with
  | sl _ _ _ _ _ _ cs hcap hlit hxs hm hc hv =>
  obtain ⟨hfl, hm⟩ := hm
  obtain ⟨hr, hmem⟩ := hm (by rw [hal]; simp)
  have hfn : f ≠ σ.nf := by rw [← S.nf]; omega
  have hflx := flat_length sz xs hxs
  have hfly := flat_length sz ys hys
  have hnl : new.toList.length = ys.length * sz := by simp [hsrc.cells.1, hfly]
  have hroom : xs.length * sz + ys.length * sz ≤ cap * sz := by rw [← Nat.add_mul]; exact Nat.mul_le_mul_right _ hfit
  have hcell : ∀ j, j < new.toList.length → (w.cell? ⟨B, off + xs.length * sz + j, none⟩).isSome = true := fun j hj => by
    rw [Nat.add_assoc]; exact (hmem _ (by omega)).1
  have hfz : ∀ j, j < new.toList.length → w.frozen? ⟨B, off + xs.length * sz + j, none⟩ = false := fun j hj => by
    rw [Nat.add_assoc]; exact (hmem _ (by omega)).2
  have hnv : ∀ v ∈ new.toList, v.oneCell' = true := by
    intro v hv'
    obtain ⟨j, hj, rfl⟩ := List.getElem_of_mem hv'
    have hj' : j < new.size := by simpa using hj
    have := hsrc.cells.get j (by rw [← hsrc.cells.1]; exact hj') hj'
    simp only [Array.getElem_toList]
    exact this.oneCell (flat_one hone _ (List.getElem_mem _))
  have hrun := run_append_fit hu hs hi hz hsrc (fun _ => Nat.le_trans (Nat.mul_le_mul_right _ (Nat.le_add_left _ _)) hbound) hfit hcell hfz hnv ty
  have hF : ∀ g, g < M.nf → (upd (upd σ.F f .dead) σ.nf .alive) g = σ.F g ∨ (upd (upd σ.F f .dead) σ.nf .alive) g = .dead := by
    intro g hg
    rw [upd_ne _ _ (by rw [← S.nf]; omega)]
    by_cases e : g = f
    · subst e; right; rw [upd_same]
    · left; rw [upd_ne _ _ e]
  have hFf : (upd (upd σ.F f .dead) σ.nf .alive) f = .dead := by rw [upd_ne _ _ hfn, upd_same]
  have hE := ext_grow (F := σ.F) (w := w) hr hFf hF new.toList (off + xs.length * sz)
  refine ⟨_, _, hrun, _, _, _, hK, ?_, sim_grow S hr hFf hF _ _, hE⟩
  have hlen : (xs ++ ys).length = xs.length + ys.length := by simp
  have hall : ∀ y ∈ xs ++ ys, y.cells.length = sz := by
    intro y hy; rcases List.mem_append.1 hy with h | h
    · exact hxs y h
    · exact hys y h
  have hget : ∀ (j : Nat) v, (flat (xs ++ ys))[j]? = some v → ∃ c, (w.setCells B (off + xs.length * sz) new.toList).cell? ⟨B, off + j, none⟩ = some c ∧ VR M σ.F w v c := by
    intro j v hj
    rw [flat_append] at hj
    by_cases h : j < (flat xs).length
    · rw [List.getElem?_append_left h] at hj
      obtain ⟨h1, rfl⟩ := List.getElem?_eq_some_iff.1 hj
      refine ⟨cs j, ?_, hv hal j h1⟩
      rw [World.cell?_setCells_out]
      · exact hc hal j h1
      · intro _ _; left; simp only; omega
    · rw [List.getElem?_append_right (by omega)] at hj
      obtain ⟨c, h1, h2⟩ := hsrc.cells.2 _ v hj
      have h3 := (List.getElem?_eq_some_iff.1 hj).1
      have h4 : j - (flat xs).length < new.toList.length := by omega
      refine ⟨c, ?_, h2⟩
      have := World.cell?_setCells_in B new.toList (off + xs.length * sz) w hcell (j - (flat xs).length) h4
      rw [show off + j = off + xs.length * sz + (j - (flat xs).length) by omega, this]
      rw [← h1, Array.getElem_toList]
      exact (Array.getElem?_eq_getElem (by simpa using h4)).symm
  rw [← hlen]
  refine .sl _ sz (xs ++ ys) B off cap (fun j => (((w.setCells B (off + xs.length * sz) new.toList).cell? ⟨B, off + j, none⟩)).getD undef) (by omega) (by simp [Own.full]) hall ?_ (fun _ j hj => ?_) (fun _ j hj => ?_)
  · refine ⟨by simp [Mp.newFam, S.nf], fun _ => ⟨by simp [Mp.newFam, upd, S.nf], fun j hj => ?_⟩⟩
    exact hE.keeps (hmem j hj).1 (hmem j hj).2
  · obtain ⟨c, h1, h2⟩ := hget j _ (List.getElem?_eq_getElem hj)
    rw [h1]; rfl
  · obtain ⟨c, h1, h2⟩ := hget j _ (List.getElem?_eq_getElem hj)
    rw [h1]
    exact h2.mono hE

theorem Post.same {M σ} {w w' : World} {K : AV → AS → Prop} {v v'} (S : Sim M σ w) (hK : K v σ) (hw : w'.heap = w.heap) (hio : SameIO w w') (hv : VR M σ.F w v v') : Post M σ.F w K v' w' :=
  ⟨v, σ, M, hK, hv.mono (.of_heap hw hio), S.of_heap hw hio, .of_heap hw hio⟩

/-- nothing is appended: the slice as it was -/
theorem run_append_none {P : Program} {tS tX e : TypeId} {sz : Nat} (hu : P.underlying tS = some (.slice e)) (hs : szOf P e = some sz) {i : TypeInfo} (hi : P.info? e = some i) {zv : Value} (hz : i.zero = some zv)
    {M F} {w : World} {x' : Value} {zeros new} (hsrc : Src P M F w e tX sz x' [] zeros new) {ad : Addr} {len cap : Nat} (hfit : len ≤ cap) (ty : TypeId) :
    (Builtin.append_ #[tS, tX] ty #[.slice (some ad) len cap, x']).run P w = .ok (.slice (some ad) len cap) w := by
  have hn : new.toList = [] := by
    have := hsrc.cells.1
    simp [flat] at this
    simp [this]
  have hnew0 : new = #[] := by simpa using hn
  subst hnew0
  have hst : ∀ (a : Addr), (storeCells a (#[] : Array Value).toList).run P w = .ok () w := fun a => rfl
  have hzv : ∀ w', (zeroValue e).run P w' = .ok zv w' := fun w' => by simp [zeroValue, typeInfo, hi, hz]
  have hti : ∀ w', (typeInfo e).run P w' = .ok i w' := fun w' => by simp [typeInfo, hi]
  obtain ⟨d, hd, hzi⟩ := hsrc.typ
  have ea : (#[tS, tX] : Array TypeId)[0]? = some tS := rfl
  have eb : (#[tS, tX] : Array TypeId)[1]? = some tX := rfl
  have ec : (#[Value.slice (some ad) len cap, x'] : Array Value)[0]? = some (.slice (some ad) len cap) := rfl
  have ed : (#[Value.slice (some ad) len cap, x'] : Array Value)[1]? = some x' := rfl
  have hfit' : len + ([] : List AV).length ≤ cap := by simpa using hfit
  unfold Builtin.append_
  rw [ea, eb, ec, ed]
  simp only [Sem.run_bind, run_underlying hu, run_underlying hd, run_sizeOf' hs, Result.andThen_ok, Sem.run_pure]
  cases zeros with
  | false =>
    cases d
    case int k => exact absurd (hzi.2 ⟨_, rfl⟩) (by simp)
    all_goals
      simp only [Bool.false_eq_true, if_false, hsrc.len w rfl, Result.andThen_ok, Sem.run_ite, hfit', if_true, Bool.not_false, Sem.run_bind, hsrc.first w rfl rfl, hst, Sem.run_pure]
      rfl
  | true =>
    obtain ⟨k, rfl⟩ := hzi.1 rfl
    obtain ⟨k', rfl, hlt⟩ := hsrc.num rfl
    have hw : IntKind.i64.wrap (([] : List AV).length : Int) = 0 := wrap_nat (n := 0) (by omega)
    have hnb : ¬ ((0 : Int) * (i.bytes : Int) > 2 ^ 48) := by omega
    simp only [if_true, asInt, asIntOf, Sem.run_bind, Sem.run_pure, Result.andThen_ok, hw, Sem.run_ite, hti, if_neg hnb, show ¬ ((0 : Int) < 0) by omega, if_false, Int.toNat_zero, Nat.add_zero, hfit, Bool.not_true,
      Bool.false_eq_true, Nat.zero_mul]
    rfl

theorem run_append_nil {P : Program} {tS tX e : TypeId} {sz : Nat} (hu : P.underlying tS = some (.slice e)) (hs : szOf P e = some sz) {i : TypeInfo} (hi : P.info? e = some i) {zv : Value} (hz : i.zero = some zv)
    {M F} {w : World} {x' : Value} {zeros new} (hsrc : Src P M F w e tX sz x' [] zeros new) (ty : TypeId) :
    (Builtin.append_ #[tS, tX] ty #[.slice none 0 0, x']).run P w = .ok (.slice none 0 0) w := by
  have hzv : ∀ w', (zeroValue e).run P w' = .ok zv w' := fun w' => by simp [zeroValue, typeInfo, hi, hz]
  have hti : ∀ w', (typeInfo e).run P w' = .ok i w' := fun w' => by simp [typeInfo, hi]
  obtain ⟨d, hd, hzi⟩ := hsrc.typ
  have ea : (#[tS, tX] : Array TypeId)[0]? = some tS := rfl
  have eb : (#[tS, tX] : Array TypeId)[1]? = some tX := rfl
  have ec : (#[Value.slice none 0 0, x'] : Array Value)[0]? = some (.slice none 0 0) := rfl
  have ed : (#[Value.slice none 0 0, x'] : Array Value)[1]? = some x' := rfl
  unfold Builtin.append_
  rw [ea, eb, ec, ed]
  simp only [Sem.run_bind, run_underlying hu, run_underlying hd, run_sizeOf' hs, Result.andThen_ok, Sem.run_pure]
  cases zeros with
  | false =>
    cases d
    case int k => exact absurd (hzi.2 ⟨_, rfl⟩) (by simp)
    all_goals
      simp only [Bool.false_eq_true, if_false, hsrc.len w rfl, List.length_nil, Result.andThen_ok, Sem.run_ite, Nat.add_zero, Nat.le_refl, if_true, Bool.not_false, Sem.run_bind, Sem.run_pure]
      have h1 := hsrc.first w rfl rfl
      simp only [List.length_nil] at h1
      rw [h1]
      rfl
  | true =>
    obtain ⟨k, rfl⟩ := hzi.1 rfl
    obtain ⟨k', rfl, hlt⟩ := hsrc.num rfl
    have hw : IntKind.i64.wrap (([] : List AV).length : Int) = 0 := wrap_nat (n := 0) (by omega)
    have hnb : ¬ ((0 : Int) * (i.bytes : Int) > 2 ^ 48) := by omega
    simp only [if_true, asInt, asIntOf, Sem.run_bind, Sem.run_pure, Result.andThen_ok, hw, Sem.run_ite, hti, if_neg hnb, show ¬ ((0 : Int) < 0) by omega, if_false, Int.toNat_zero, Nat.add_zero, Nat.le_refl, Bool.not_true,
      Bool.false_eq_true, Nat.zero_mul]

theorem aappend_sound {P : Program} {tS tX s x σ} {K : AV → AS → Prop} (h : aappend P tS tX s x σ K) {M w s' x'} (S : Sim M σ w) (hs' : VR M σ.F w s s') (hx' : VR M σ.F w x x') (ty : TypeId) :
    ∃ v' w', (Builtin.append_ #[tS, tX] ty #[s', x']).run P w = .ok v' w' ∧ Post M σ.F w K v' w' := by
  obtain ⟨sz, bs, z, he, hb, hb0, hz, hzk, hzl, hsz0, h⟩ := h
  obtain ⟨e, hu, hs⟩ := elOf_spec he
  obtain ⟨i, hi, rfl⟩ := elBytes_spec hb hu
  have hz' : zeroOf P e = some z := by unfold elZero at hz; rw [hu] at hz; exact hz
  obtain ⟨zv, hzv, hzof⟩ : ∃ zv, i.zero = some zv ∧ z = ofVal zv := by
    unfold zeroOf at hz'
    rw [hi] at hz'
    cases hq : i.zero with
    | none => simp [hq] at hz'
    | some v => simp [hq] at hz'; exact ⟨v, rfl, hz'.symm⟩
  have hzs : zv.cells.size = sz := by
    have := (ofVal_VR M σ.F w zv).cells_rel (by rw [← hzof]; exact hzk)
    rw [this.1, ← hzof, hzl]
  obtain ⟨ys, ⟨hys, hK⟩, hsrc⟩ := asource_sound hz' hzk hzl h
  obtain ⟨zeros, new, hsrc⟩ := hsrc M w x' hx'
  have hy1 : ∀ y ∈ ys, y.cells.length = sz := fun y hy => (hys y hy).1
  have hy2 : ∀ y ∈ ys, ∀ c ∈ y.cells, c.one = true := fun y hy => (hys y hy).2
  have hnew : ∀ g, g < σ.nf → (upd σ.F σ.nf .alive) g = σ.F g ∨ (upd σ.F σ.nf .alive) g = .dead := fun g hg => .inl (upd_ne _ _ (by omega))
  -- a slice that is read
  have hold : ∀ {φ xs c ad cap}, VR M σ.F w (.sl φ sz xs) c → c = .slice (some ad) xs.length cap → Readable σ.F φ → (∀ y ∈ xs, y.cells.length = sz) ∧
      ∃ old, (∀ w', w'.heap = w.heap → (Builtin.firstCells sz xs.length (.slice (some ad) xs.length cap)).run P w' = .ok old w') ∧ Cells M σ.F w (flat xs) old := by
    intro φ xs c ad cap hv hcc hrd
    cases hv with
    | slz b sz a => exact ⟨by simp, #[], fun w' _ => by have := run_loadCells_list (P := P) w' ad [] (by simp); simpa [Builtin.firstCells] using this, ⟨by simp [flat], by simp [flat]⟩⟩
    | sl _ _ _ B off _ cs hcap hlit hsz hm hc hv =>
    cases hcc
    have hfl := flat_length sz xs hsz
    refine ⟨hsz, ((List.range (flat xs).length).map cs).toArray, fun w' hw' => ?_, Cells.of (by simp) (fun j h1 h2 => by simpa using hv hrd j h1)⟩
    simp only [Builtin.firstCells]
    have := run_loadCells_list (P := P) w' ⟨B, off, none⟩ ((List.range (flat xs).length).map cs) (fun j v hj => by
      obtain ⟨h1, rfl⟩ := List.getElem?_eq_some_iff.1 hj
      simp at h1
      rw [addr_add, cell?_of_heap (w := w) (by rw [hw'])]
      simp only [List.getElem_map, List.getElem_range]
      exact hc hrd j h1)
    simp only [List.length_map, List.length_range, hfl] at this
    rw [this, hfl]
  split at hK
  · obtain ⟨hbd, k1, k2⟩ := hK
    rw [nilsl_inv hs']
    by_cases hn : ys = []
    · subst hn
      exact ⟨_, _, run_append_nil hu hs hi hzv hsrc ty, .same S (k1 rfl) rfl (.refl _) .nilsl⟩
    · have hpos : 0 < ys.length := List.length_pos_iff.2 hn
      exact post_new (K := K) S hu hs hi hb0 hzv hzs hsrc hy1 (base := none) (xs := []) (cap := 0) (by simp; omega) (by simpa using hbd) (by simp) (old := #[]) (fun w' _ => by simp [Builtin.firstCells])
        ⟨by simp [flat], by simp [flat]⟩ ty hnew (k2 hn)
  · rename_i s1 xs
    obtain ⟨rfl, hbd, k1, k2⟩ := hK
    obtain ⟨ad, cap, rfl, hcap⟩ := sl_inv hs'
    by_cases hn : ys = []
    · subst hn
      exact ⟨_, _, run_append_none hu hs hi hzv hsrc hcap ty, .same S (k1 rfl) rfl (.refl _) hs'⟩
    · have hpos : 0 < ys.length := List.length_pos_iff.2 hn
      obtain ⟨hx1, old, ho, hco⟩ := hold hs' rfl trivial
      have hl : cap = xs.length := by cases hs' with | slz => rfl | sl _ _ _ _ _ _ _ _ hl => exact hl rfl
      exact post_new (K := K) S hu hs hi hb0 hzv hzs hsrc hy1 (by omega) hbd hx1 ho hco ty hnew (k2 hn)
  · rename_i f s1 xs
    obtain ⟨rfl, hbd, hal, k1, k2⟩ := hK
    obtain ⟨ad, cap, rfl, hcap⟩ := sl_inv hs'
    by_cases hn : ys = []
    · subst hn
      exact ⟨_, _, run_append_none hu hs hi hzv hsrc hcap ty, .same S (k1 rfl) rfl (.refl _) hs'⟩
    · have hpos : 0 < ys.length := List.length_pos_iff.2 hn
      obtain ⟨hx1, old, ho, hco⟩ := hold hs' rfl hal
      have hl : cap = xs.length := by cases hs' with | sl _ _ _ _ _ _ _ _ hl => exact hl rfl
      exact post_new (K := K) S hu hs hi hb0 hzv hzs hsrc hy1 (by omega) hbd hx1 ho hco ty hnew (k2 hn)
  · rename_i f s1 xs
    obtain ⟨rfl, hbd, hal, k⟩ := hK
    obtain ⟨B, off, cap, rfl, hcap⟩ := sl_inv_fam hs'
    by_cases hfit : xs.length + ys.length ≤ cap
    · exact post_grow (K := K) S hu hs hi hzv hsrc hy1 hy2 hfit hbd hs' hal ty k
    · obtain ⟨hx1, old, ho, hco⟩ := hold hs' rfl hal
      refine post_new (K := K) S hu hs hi hb0 hzv hzs hsrc hy1 hfit hbd hx1 ho hco ty (F' := upd (upd σ.F f .dead) σ.nf .alive) (fun g hg => ?_) k
      rw [upd_ne _ _ (by omega)]
      by_cases e : g = f
      · subst e; right; rw [upd_same]
      · left; rw [upd_ne _ _ e]
  · rename_i s1 xs
    obtain ⟨rfl, k⟩ := hK
    obtain ⟨ad, cap, rfl, hcap⟩ := sl_inv hs'
    exact ⟨_, _, run_append_none hu hs hi hzv hsrc hcap ty, .same S k rfl (.refl _) hs'⟩
  · exact hK.elim

end Go.Abs
