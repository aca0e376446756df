/- Abstract values, and when a value of the model's stands for one: the base of a logic over the walk's rules; no condition. -/
import Derived.WalkKit
import Derived.Orders
import Derived.Defers
namespace Go.Abs
open Go

/-- whose memory it is: nobody writes it; a family's, which may grow. 'full': there is no room behind it. -/
inductive Own where
  | stat (full : Bool)
  | fam (f : Nat) (full : Bool)

def Own.full : Own → Bool
  | .stat b | .fam _ b => b

/-- Abstract values. A slice of its own memory is a list; 'sl (fam f)' may be grown while the family f lives. -/
inductive AV where
  | undef
  | bool (b : Bool)
  | int (k : IntKind) (n : Int)
  | str (s : List UInt8)
  | nilp
  | ptr (o off : Nat)
  | pv (φ : Own) (v : AV)
  | nilsl
  | sl (φ : Own) (sz : Nat) (xs : List AV)
  | slm (o off sz len : Nat)
  | fn (f : Fn) (first cap : List AV)
  | nilfn
  | iface (t : TypeId) (v : AV)
  | nilif
  | agg (cs : List AV)
  | tuple (vs : List AV)

def AV.cells : AV → List AV
  | .agg cs => cs
  | v => [v]

/-- one cell, and known -/
def AV.one : AV → Bool
  | .agg _ | .tuple _ | .undef => false
  | _ => true

def flat (xs : List AV) : List AV := xs.flatMap AV.cells

theorem flat_length (sz : Nat) : ∀ (xs : List AV), (∀ x ∈ xs, x.cells.length = sz) → (flat xs).length = xs.length * sz
  | [], _ => by simp [flat]
  | x :: xs, h => by
    have h1 := h x (by simp)
    have h2 := flat_length sz xs (fun y hy => h y (by simp [hy]))
    simp only [flat, List.flatMap_cons, List.length_append, List.length_cons] at *
    rw [h1, h2, Nat.add_mul]; omega

theorem flat_append (xs ys : List AV) : flat (xs ++ ys) = flat xs ++ flat ys := by simp [flat]

theorem flat_drop (sz : Nat) : ∀ (xs : List AV) (i : Nat), (∀ x ∈ xs, x.cells.length = sz) → (flat xs).drop (i * sz) = flat (xs.drop i)
  | xs, 0, _ => by simp
  | [], i + 1, _ => by simp [flat]
  | x :: xs, i + 1, h => by
    have h1 := h x (by simp)
    have h2 := flat_drop sz xs i (fun y hy => h y (by simp [hy]))
    simp only [flat, List.flatMap_cons, List.drop_succ_cons] at *
    rw [← h2, Nat.add_mul, Nat.one_mul, Nat.add_comm, ← h1, ← List.drop_drop]
    simp

inductive Role where
  | stat | fam (f : Nat) | obj

inductive FSt where
  | alive | spoiled | dead

/-- how abstract names are laid in a world: the part of each block; where each object lies -/
structure Mp where
  role : Nat → Option Role
  obj : Nat → Nat × Nat
  no : Nat
  nf : Nat

/-- abstract states: objects (written in place), families -/
structure AS where
  objs : Nat → Option (List AV)
  no : Nat
  F : Nat → FSt
  nf : Nat

def Mem (M : Mp) (F : Nat → FSt) (w : World) : Own → Nat → Nat → Nat → Prop
  | .stat _, B, _, _ => M.role B = some .stat
  | .fam f _, B, off, n => f < M.nf ∧ (F f ≠ .dead → M.role B = some (.fam f) ∧ ∀ j, j < n → (w.cell? ⟨B, off + j, none⟩).isSome = true ∧ w.frozen? ⟨B, off + j, none⟩ = false)

def Readable (F : Nat → FSt) : Own → Prop
  | .stat _ => True
  | .fam f _ => F f = .alive

inductive VR (M : Mp) (F : Nat → FSt) (w : World) : AV → Value → Prop
  | undef (c : Value) : VR M F w .undef c
  | bool (b : Bool) : VR M F w (.bool b) (.bool b)
  | int (k : IntKind) (n : Int) : VR M F w (.int k n) (.int k n)
  | str (s : ByteArray) : VR M F w (.str s.data.toList) (.string s)
  | nilp : VR M F w .nilp (.pointer none)
  | ptr (o off : Nat) (h : o < M.no) : VR M F w (.ptr o off) (.pointer (some ⟨(M.obj o).1, (M.obj o).2 + off, none⟩))
  | pv (φ : Own) (v : AV) (B off : Nat) (cs : Nat → Value) (hm : Mem M F w φ B off v.cells.length)
      (hc : Readable F φ → ∀ j, j < v.cells.length → w.cell? ⟨B, off + j, none⟩ = some (cs j))
      (hv : Readable F φ → ∀ j (h : j < v.cells.length), VR M F w v.cells[j] (cs j)) : VR M F w (.pv φ v) (.pointer (some ⟨B, off, none⟩))
  | nilsl : VR M F w .nilsl (.slice none 0 0)
  | sl (φ : Own) (sz : Nat) (xs : List AV) (B off cap : Nat) (cs : Nat → Value) (hcap : xs.length ≤ cap) (hlit : φ.full = true → cap = xs.length) (hsz : ∀ x ∈ xs, x.cells.length = sz)
      (hm : Mem M F w φ B off (cap * sz))
      (hc : Readable F φ → ∀ j, j < (flat xs).length → w.cell? ⟨B, off + j, none⟩ = some (cs j))
      (hv : Readable F φ → ∀ j (h : j < (flat xs).length), VR M F w (flat xs)[j] (cs j)) : VR M F w (.sl φ sz xs) (.slice (some ⟨B, off, none⟩) xs.length cap)
  | slz (b : Bool) (sz : Nat) (a : Addr) : VR M F w (.sl (.stat b) sz []) (.slice (some a) 0 0)
  | slm (o off sz len cap : Nat) (h : o < M.no) (hcap : len ≤ cap) :
      VR M F w (.slm o off sz len) (.slice (some ⟨(M.obj o).1, (M.obj o).2 + off, none⟩) len cap)
  | fn (f : Fn) (first cap : List AV) (A B : Array Value) (ha : A.size = first.length) (hb : B.size = cap.length)
      (va : ∀ j (h : j < first.length) (h' : j < A.size), VR M F w first[j] A[j])
      (vb : ∀ j (h : j < cap.length) (h' : j < B.size), VR M F w cap[j] B[j]) : VR M F w (.fn f first cap) (.func f A B)
  | nilfn : VR M F w .nilfn .nilFunc
  | iface (t : TypeId) (v : AV) (c : Value) (h : VR M F w v c) : VR M F w (.iface t v) (.iface t c)
  | nilif : VR M F w .nilif .nilIface
  | agg (cs : List AV) (A : Array Value) (ha : A.size = cs.length)
      (va : ∀ j (h : j < cs.length) (h' : j < A.size), VR M F w cs[j] A[j]) : VR M F w (.agg cs) (.agg A)
  | tuple (vs : List AV) (A : Array Value) (ha : A.size = vs.length)
      (va : ∀ j (h : j < vs.length) (h' : j < A.size), VR M F w vs[j] A[j]) : VR M F w (.tuple vs) (.tuple A)

/-- the run's streams stay -/
def SameIO (w w' : World) : Prop := w'.os = w.os ∧ w'.tape = w.tape ∧ w'.output = w.output
theorem SameIO.refl (w) : SameIO w w := ⟨rfl, rfl, rfl⟩
theorem SameIO.trans {a b c} (h : SameIO a b) (k : SameIO b c) : SameIO a c := ⟨k.1.trans h.1, k.2.1.trans h.2.1, k.2.2.trans h.2.2⟩

/-- a step from one state to a later one -/
structure Ext (M : Mp) (F : Nat → FSt) (w : World) (M' : Mp) (F' : Nat → FSt) (w' : World) : Prop where
  io : SameIO w w'
  no : M.no ≤ M'.no
  nf : M.nf ≤ M'.nf
  obj : ∀ o, o < M.no → M'.obj o = M.obj o
  dead : ∀ f, f < M.nf → F f = .dead → F' f = .dead
  spoil : ∀ f, f < M.nf → F f = .spoiled → F' f ≠ .alive
  size : w.heap.size ≤ w'.heap.size
  shape : ∀ (B : Nat) c e z, w.heap[B]? = some (.cells c e z) → ∃ c', w'.heap[B]? = some (.cells c' e z) ∧ c'.size = c.size
  stat : ∀ B, M.role B = some .stat → M'.role B = some .stat ∧ w'.heap[B]? = w.heap[B]?
  free : ∀ B, B < w.heap.size → M.role B = none → M'.role B = none ∧ w'.heap[B]? = w.heap[B]?
  famr : ∀ B f, f < M.nf → M.role B = some (.fam f) → F' f ≠ .dead → M'.role B = some (.fam f)
  famc : ∀ B f, f < M.nf → M.role B = some (.fam f) → F' f = .alive → w'.heap[B]? = w.heap[B]?

theorem cell?_of_heap {w w' : World} {B i : Nat} (h : w'.heap[B]? = w.heap[B]?) : w'.cell? ⟨B, i, none⟩ = w.cell? ⟨B, i, none⟩ := by
  simp [World.cell?, h]
theorem frozen?_of_heap {w w' : World} {B i : Nat} (h : w'.heap[B]? = w.heap[B]?) : w'.frozen? ⟨B, i, none⟩ = w.frozen? ⟨B, i, none⟩ := by
  simp [World.frozen?, h]

theorem cell?_isSome {w : World} {B i : Nat} (h : (w.cell? ⟨B, i, none⟩).isSome = true) : ∃ c e z, w.heap[B]? = some (.cells c e z) ∧ i < c.size := by
  unfold World.cell? at h
  split at h
  · rename_i c e z hc
    refine ⟨c, e, z, hc, ?_⟩
    simpa using h
  · simp at h

theorem Ext.keeps {M F w M' F' w'} (E : Ext M F w M' F' w') {B i : Nat} (h : (w.cell? ⟨B, i, none⟩).isSome = true) (hf : w.frozen? ⟨B, i, none⟩ = false) :
    (w'.cell? ⟨B, i, none⟩).isSome = true ∧ w'.frozen? ⟨B, i, none⟩ = false := by
  obtain ⟨c, e, z, hc, hi⟩ := cell?_isSome h
  obtain ⟨c', hc', hs⟩ := E.shape B c e z hc
  constructor
  · simp [World.cell?, hc', hs, hi]
  · simp only [World.frozen?, hc] at hf
    simp only [World.frozen?, hc']
    exact hf

theorem Ext.alive {M F w M' F' w'} (E : Ext M F w M' F' w') {f : Nat} (hf : f < M.nf) (h : F' f = .alive) : F f = .alive := by
  cases hF : F f with
  | alive => rfl
  | spoiled => exact absurd h (E.spoil f hf hF)
  | dead => rw [E.dead f hf hF] at h; cases h

theorem Ext.undead {M F w M' F' w'} (E : Ext M F w M' F' w') {f : Nat} (hf : f < M.nf) (h : F' f ≠ .dead) : F f ≠ .dead :=
  fun hd => h (E.dead f hf hd)

theorem Mem.mono {M F w M' F' w'} (E : Ext M F w M' F' w') {φ B off n} (h : Mem M F w φ B off n) : Mem M' F' w' φ B off n := by
  cases φ with
  | stat b => exact (E.stat B h).1
  | fam f b =>
    obtain ⟨hf, h⟩ := h
    refine ⟨Nat.lt_of_lt_of_le hf E.nf, fun hd => ?_⟩
    obtain ⟨hr, hk⟩ := h (E.undead hf hd)
    exact ⟨E.famr B f hf hr hd, fun j hj => E.keeps (hk j hj).1 (hk j hj).2⟩

theorem Mem.readable {M F w M' F' w'} (E : Ext M F w M' F' w') {φ B off n} (h : Mem M F w φ B off n) (hr : Readable F' φ) :
    Readable F φ ∧ w'.heap[B]? = w.heap[B]? := by
  cases φ with
  | stat b => exact ⟨trivial, (E.stat B h).2⟩
  | fam f b =>
    have ha := E.alive h.1 hr
    refine ⟨ha, E.famc B f h.1 (h.2 (by rw [ha]; simp)).1 hr⟩

theorem VR.mono {M F w M' F' w'} (E : Ext M F w M' F' w') {v : AV} {c : Value} (h : VR M F w v c) : VR M' F' w' v c := by
  induction h with
  | undef c => exact .undef c
  | bool b => exact .bool b
  | int k n => exact .int k n
  | str s => exact .str s
  | nilp => exact .nilp
  | ptr o off h => rw [← E.obj o h]; exact .ptr o off (Nat.lt_of_lt_of_le h E.no)
  | pv φ v B off cs hm hc hv ih =>
    refine .pv φ v B off cs (hm.mono E) (fun hr j hj => ?_) (fun hr j hj => ?_)
    · obtain ⟨h1, h2⟩ := hm.readable E hr
      rw [cell?_of_heap h2]; exact hc h1 j hj
    · exact ih (hm.readable E hr).1 j hj
  | nilsl => exact .nilsl
  | sl φ sz xs B off cap cs hcap hlit hsz hm hc hv ih =>
    refine .sl φ sz xs B off cap cs hcap hlit hsz (hm.mono E) (fun hr j hj => ?_) (fun hr j hj => ?_)
    · obtain ⟨h1, h2⟩ := hm.readable E hr
      rw [cell?_of_heap h2]; exact hc h1 j hj
    · exact ih (hm.readable E hr).1 j hj
  | slz b sz a => exact .slz b sz a
  | slm o off sz len cap h hcap => rw [← E.obj o h]; exact .slm o off sz len cap (Nat.lt_of_lt_of_le h E.no) hcap
  | fn f first cap A B ha hb va vb iha ihb => exact .fn f first cap A B ha hb iha ihb
  | nilfn => exact .nilfn
  | iface t v c h ih => exact .iface t v c ih
  | nilif => exact .nilif
  | agg cs A ha va ih => exact .agg cs A ha ih
  | tuple vs A ha va ih => exact .tuple vs A ha ih

theorem Ext.refl (M F w) : Ext M F w M F w where
  io := .refl _
  no := Nat.le_refl _
  nf := Nat.le_refl _
  obj _ _ := rfl
  dead _ _ h := h
  spoil _ _ h := by rw [h]; simp
  size := Nat.le_refl _
  shape _ c _ _ h := ⟨c, h, rfl⟩
  stat _ h := ⟨h, rfl⟩
  free _ _ h := ⟨h, rfl⟩
  famr _ _ _ h _ := h
  famc _ _ _ _ _ := rfl

theorem Ext.trans {M F w M' F' w' M2 F2 w2} (E : Ext M F w M' F' w') (E2 : Ext M' F' w' M2 F2 w2) : Ext M F w M2 F2 w2 where
  io := E.io.trans E2.io
  no := Nat.le_trans E.no E2.no
  nf := Nat.le_trans E.nf E2.nf
  obj o h := by rw [E2.obj o (Nat.lt_of_lt_of_le h E.no), E.obj o h]
  dead f h hd := E2.dead f (Nat.lt_of_lt_of_le h E.nf) (E.dead f h hd)
  spoil f h hd := by
    have h' := Nat.lt_of_lt_of_le h E.nf
    have h1 := E.spoil f h hd
    cases hF : F' f with
    | alive => exact absurd hF h1
    | spoiled => exact E2.spoil f h' hF
    | dead => rw [E2.dead f h' hF]; simp
  size := Nat.le_trans E.size E2.size
  shape B c e z h := by
    obtain ⟨c1, h1, s1⟩ := E.shape B c e z h
    obtain ⟨c2, h2, s2⟩ := E2.shape B c1 e z h1
    exact ⟨c2, h2, by rw [s2, s1]⟩
  stat B h := by
    obtain ⟨a, b⟩ := E.stat B h
    obtain ⟨c, d⟩ := E2.stat B a
    exact ⟨c, by rw [d, b]⟩
  free B hB h := by
    obtain ⟨a, b⟩ := E.free B hB h
    obtain ⟨c, d⟩ := E2.free B (Nat.lt_of_lt_of_le hB E.size) a
    exact ⟨c, by rw [d, b]⟩
  famr B f hf h hd := by
    have h' := Nat.lt_of_lt_of_le hf E.nf
    exact E2.famr B f h' (E.famr B f hf h (E2.undead h' hd)) hd
  famc B f hf h ha := by
    have h' := Nat.lt_of_lt_of_le hf E.nf
    have ha' := E2.alive h' ha
    rw [E2.famc B f h' (E.famr B f hf h (by rw [ha']; simp)) ha, E.famc B f hf h ha']

theorem Ext.of_heap {M F w w'} (h : w'.heap = w.heap) (hio : SameIO w w') : Ext M F w M F w' where
  io := hio
  no := Nat.le_refl _
  nf := Nat.le_refl _
  obj _ _ := rfl
  dead _ _ h := h
  spoil _ _ h := by rw [h]; simp
  size := by rw [h]; exact Nat.le_refl _
  shape _ c _ _ h' := ⟨c, by rw [h]; exact h', rfl⟩
  stat _ h' := ⟨h', by rw [h]⟩
  free _ _ h' := ⟨h', by rw [h]⟩
  famr _ _ _ h _ := h
  famc _ _ _ _ _ := by rw [h]

structure Sim (M : Mp) (σ : AS) (w : World) : Prop where
  no : M.no = σ.no
  nf : M.nf = σ.nf
  role : ∀ B r, M.role B = some r → B < w.heap.size
  obj : ∀ o cs, σ.objs o = some cs → o < σ.no ∧ M.role (M.obj o).1 = some .obj ∧
    ∀ j (h : j < cs.length), ∃ c, w.cell? ⟨(M.obj o).1, (M.obj o).2 + j, none⟩ = some c ∧ w.frozen? ⟨(M.obj o).1, (M.obj o).2 + j, none⟩ = false ∧ VR M σ.F w cs[j] c
  inj : ∀ o o', (σ.objs o).isSome = true → (σ.objs o').isSome = true → (M.obj o).1 = (M.obj o').1 → o = o'

theorem Sim.of_heap {M σ w w'} (S : Sim M σ w) (h : w'.heap = w.heap) (hio : SameIO w w') : Sim M σ w' where
  no := S.no
  nf := S.nf
  role B r hr := by rw [h]; exact S.role B r hr
  obj o cs ho := by
    obtain ⟨a, b, c⟩ := S.obj o cs ho
    refine ⟨a, b, fun j hj => ?_⟩
    obtain ⟨x, h1, h2, h3⟩ := c j hj
    exact ⟨x, (cell?_of_heap (w := w) (w' := w') (by rw [h])).trans h1, (frozen?_of_heap (w := w) (w' := w') (by rw [h])).trans h2, h3.mono (.of_heap h hio)⟩
  inj := S.inj

/-- what is there beside the state: the package's variables; which loops over functions are under way, and what their rounds ask -/
structure Env where
  g : Nat → AV
  has : Nat → Prop
  y : Nat → List AV → AS → (AV → AS → Prop) → (AV → AS → Prop) → Prop
  /-- blocks that nobody writes, cell for cell -/
  fix : Nat → Option (Array Value) := fun _ => none

end Go.Abs
