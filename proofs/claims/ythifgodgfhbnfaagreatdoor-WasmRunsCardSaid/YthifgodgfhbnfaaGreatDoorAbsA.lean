/- Parts of the proof of the row WasmRuns: values, states and quiet operations of an abstract layer over the walk rules; no condition. -/
import Derived.WalkKit
import Derived.Orders
import Derived.Defers
import Derived.Laws.StructEq
import Derived.ChangeKeysEq
import Derived.Laws.IdiomCopy
import Derived.Laws.Cells
import Derived.Laws.AppendOwn
import Derived.RangeFuncIn
import Derived.RangeFuncRecord
import Derived.Laws.MakeOwn
import Derived.Laws.IdiomStrings
import Derived.LoopNIn
import Derived.OrdersIn
import Derived.TacticsIn
import Derived.RangeFuncCalls
set_option linter.unusedSimpArgs false
set_option linter.unusedVariables false
namespace Go.Abs
open Go
inductive Own where
 | stat (full : Bool)
 | fam (f : Nat) (full : Bool)
def Own.full : Own → Bool
 | .stat b | .fam _ b => b
inductive AV where
 | undef
 | bool (b : Bool)
 | int (k : IntKind) (n : Int)
 | str (s : List UInt8)
 | nilp
 | ptr (o off : Nat)
 | pv (φ : Own) (v : AV)
 | nilsl
 | sl (φ : Own) (sz : Nat) (xs : List AV)
 | slm (o off sz len : Nat)
 | fn (f : Fn) (first cap : List AV)
 | nilfn
 | iface (t : TypeId) (v : AV)
 | nilif
 | agg (cs : List AV)
 | tuple (vs : List AV)
def AV.cells : AV → List AV
 | .agg cs => cs
 | v => [v]
def AV.one : AV → Bool
 | .agg _ | .tuple _ | .undef => false
 | _ => true
def flat (xs : List AV) : List AV := xs.flatMap AV.cells
theorem flat_length (sz : Nat) : ∀ (xs : List AV), (∀ x ∈ xs, x.cells.length = sz) → (flat xs).length = xs.length * sz
 | [], _ => by simp [flat]
 | x :: xs, h => by
  have h1 := h x (by simp)
  have h2 := flat_length sz xs (fun y hy => h y (by simp [hy]))
  simp only [flat, List.flatMap_cons, List.length_append, List.length_cons] at *
  rw [h1, h2, Nat.add_mul]; omega
theorem flat_append (xs ys : List AV) : flat (xs ++ ys) = flat xs ++ flat ys := by simp [flat]
theorem flat_drop (sz : Nat) : ∀ (xs : List AV) (i : Nat), (∀ x ∈ xs, x.cells.length = sz) → (flat xs).drop (i * sz) = flat (xs.drop i)
 | xs, 0, _ => by simp
 | [], i + 1, _ => by simp [flat]
 | x :: xs, i + 1, h => by
  have h1 := h x (by simp)
  have h2 := flat_drop sz xs i (fun y hy => h y (by simp [hy]))
  simp only [flat, List.flatMap_cons, List.drop_succ_cons] at *
  rw [← h2, Nat.add_mul, Nat.one_mul, Nat.add_comm, ← h1, ← List.drop_drop]
  simp
inductive Role where
 | stat | fam (f : Nat) | obj
inductive FSt where
 | alive | spoiled | dead
structure Mp where
 role : Nat → Option Role
 obj : Nat → Nat × Nat
 no : Nat
 nf : Nat
structure AS where
 objs : Nat → Option (List AV)
 no : Nat
 F : Nat → FSt
 nf : Nat
def Mem (M : Mp) (F : Nat → FSt) (w : World) : Own → Nat → Nat → Nat → Prop
 | .stat _, B, _, _ => M.role B = some .stat
 | .fam f _, B, off, n => f < M.nf ∧ (F f ≠ .dead → M.role B = some (.fam f) ∧ ∀ j, j < n → (w.cell? ⟨B, off + j, none⟩).isSome = true ∧ w.frozen? ⟨B, off + j, none⟩ = false)
def Readable (F : Nat → FSt) : Own → Prop
 | .stat _ => True
 | .fam f _ => F f = .alive
inductive VR (M : Mp) (F : Nat → FSt) (w : World) : AV → Value → Prop
 | undef (c : Value) : VR M F w .undef c
 | bool (b : Bool) : VR M F w (.bool b) (.bool b)
 | int (k : IntKind) (n : Int) : VR M F w (.int k n) (.int k n)
 | str (s : ByteArray) : VR M F w (.str s.data.toList) (.string s)
 | nilp : VR M F w .nilp (.pointer none)
 | ptr (o off : Nat) (h : o < M.no) : VR M F w (.ptr o off) (.pointer (some ⟨(M.obj o).1, (M.obj o).2 + off, none⟩))
 | pv (φ : Own) (v : AV) (B off : Nat) (cs : Nat → Value) (hm : Mem M F w φ B off v.cells.length)
   (hc : Readable F φ → ∀ j, j < v.cells.length → w.cell? ⟨B, off + j, none⟩ = some (cs j))
   (hv : Readable F φ → ∀ j (h : j < v.cells.length), VR M F w v.cells[j] (cs j)) : VR M F w (.pv φ v) (.pointer (some ⟨B, off, none⟩))
 | nilsl : VR M F w .nilsl (.slice none 0 0)
 | sl (φ : Own) (sz : Nat) (xs : List AV) (B off cap : Nat) (cs : Nat → Value) (hcap : xs.length ≤ cap) (hlit : φ.full = true → cap = xs.length) (hsz : ∀ x ∈ xs, x.cells.length = sz)
   (hm : Mem M F w φ B off (cap * sz))
   (hc : Readable F φ → ∀ j, j < (flat xs).length → w.cell? ⟨B, off + j, none⟩ = some (cs j))
   (hv : Readable F φ → ∀ j (h : j < (flat xs).length), VR M F w (flat xs)[j] (cs j)) : VR M F w (.sl φ sz xs) (.slice (some ⟨B, off, none⟩) xs.length cap)
 | slz (b : Bool) (sz : Nat) (a : Addr) : VR M F w (.sl (.stat b) sz []) (.slice (some a) 0 0)
 | slm (o off sz len cap : Nat) (h : o < M.no) (hcap : len ≤ cap) (hroom : ∀ j, j < cap * sz → (w.cell? ⟨(M.obj o).1, (M.obj o).2 + off + j, none⟩).isSome = true ∧ w.frozen? ⟨(M.obj o).1, (M.obj o).2 + off + j, none⟩ = false) :
   VR M F w (.slm o off sz len) (.slice (some ⟨(M.obj o).1, (M.obj o).2 + off, none⟩) len cap)
 | fn (f : Fn) (first cap : List AV) (A B : Array Value) (ha : A.size = first.length) (hb : B.size = cap.length)
   (va : ∀ j (h : j < first.length) (h' : j < A.size), VR M F w first[j] A[j])
   (vb : ∀ j (h : j < cap.length) (h' : j < B.size), VR M F w cap[j] B[j]) : VR M F w (.fn f first cap) (.func f A B)
 | nilfn : VR M F w .nilfn .nilFunc
 | iface (t : TypeId) (v : AV) (c : Value) (h : VR M F w v c) : VR M F w (.iface t v) (.iface t c)
 | nilif : VR M F w .nilif .nilIface
 | agg (cs : List AV) (A : Array Value) (ha : A.size = cs.length)
   (va : ∀ j (h : j < cs.length) (h' : j < A.size), VR M F w cs[j] A[j]) : VR M F w (.agg cs) (.agg A)
 | tuple (vs : List AV) (A : Array Value) (ha : A.size = vs.length)
   (va : ∀ j (h : j < vs.length) (h' : j < A.size), VR M F w vs[j] A[j]) : VR M F w (.tuple vs) (.tuple A)
def SameIO (w w' : World) : Prop := w'.os = w.os ∧ w'.tape = w.tape ∧ w'.output = w.output
theorem SameIO.refl (w) : SameIO w w := ⟨rfl, rfl, rfl⟩
theorem SameIO.trans {a b c} (h : SameIO a b) (k : SameIO b c) : SameIO a c := ⟨k.1.trans h.1, k.2.1.trans h.2.1, k.2.2.trans h.2.2⟩
structure Ext (M : Mp) (F : Nat → FSt) (w : World) (M' : Mp) (F' : Nat → FSt) (w' : World) : Prop where
 io : SameIO w w'
 no : M.no ≤ M'.no
 nf : M.nf ≤ M'.nf
 obj : ∀ o, o < M.no → M'.obj o = M.obj o
 dead : ∀ f, f < M.nf → F f = .dead → F' f = .dead
 spoil : ∀ f, f < M.nf → F f = .spoiled → F' f ≠ .alive
 size : w.heap.size ≤ w'.heap.size
 shape : ∀ (B : Nat) c e z, w.heap[B]? = some (.cells c e z) → ∃ c', w'.heap[B]? = some (.cells c' e z) ∧ c'.size = c.size
 stat : ∀ B, M.role B = some .stat → M'.role B = some .stat ∧ w'.heap[B]? = w.heap[B]?
 free : ∀ B, B < w.heap.size → M.role B = none → M'.role B = none ∧ w'.heap[B]? = w.heap[B]?
 famr : ∀ B f, f < M.nf → M.role B = some (.fam f) → F' f ≠ .dead → M'.role B = some (.fam f)
 famc : ∀ B f, f < M.nf → M.role B = some (.fam f) → F' f = .alive → w'.heap[B]? = w.heap[B]?
theorem cell?_of_heap {w w' : World} {B i : Nat} (h : w'.heap[B]? = w.heap[B]?) : w'.cell? ⟨B, i, none⟩ = w.cell? ⟨B, i, none⟩ := by
 simp [World.cell?, h]
theorem frozen?_of_heap {w w' : World} {B i : Nat} (h : w'.heap[B]? = w.heap[B]?) : w'.frozen? ⟨B, i, none⟩ = w.frozen? ⟨B, i, none⟩ := by
 simp [World.frozen?, h]
theorem cell?_isSome {w : World} {B i : Nat} (h : (w.cell? ⟨B, i, none⟩).isSome = true) : ∃ c e z, w.heap[B]? = some (.cells c e z) ∧ i < c.size := by
 unfold World.cell? at h
 split at h
 ·rename_i c e z hc
  refine ⟨c, e, z, hc, ?_⟩
  simpa using h
 ·simp at h
theorem Ext.keeps {M F w M' F' w'} (E : Ext M F w M' F' w') {B i : Nat} (h : (w.cell? ⟨B, i, none⟩).isSome = true) (hf : w.frozen? ⟨B, i, none⟩ = false) :
  (w'.cell? ⟨B, i, none⟩).isSome = true ∧ w'.frozen? ⟨B, i, none⟩ = false := by
 obtain ⟨c, e, z, hc, hi⟩ := cell?_isSome h
 obtain ⟨c', hc', hs⟩ := E.shape B c e z hc
 constructor
 ·simp [World.cell?, hc', hs, hi]
 ·simp only [World.frozen?, hc] at hf
  simp only [World.frozen?, hc']
  exact hf
theorem Ext.alive {M F w M' F' w'} (E : Ext M F w M' F' w') {f : Nat} (hf : f < M.nf) (h : F' f = .alive) : F f = .alive := by
 cases hF : F f with
 | alive => rfl
 | spoiled => exact absurd h (E.spoil f hf hF)
 | dead => rw [E.dead f hf hF] at h; cases h
theorem Ext.undead {M F w M' F' w'} (E : Ext M F w M' F' w') {f : Nat} (hf : f < M.nf) (h : F' f ≠ .dead) : F f ≠ .dead :=
 fun hd => h (E.dead f hf hd)
theorem Mem.mono {M F w M' F' w'} (E : Ext M F w M' F' w') {φ B off n} (h : Mem M F w φ B off n) : Mem M' F' w' φ B off n := by
 cases φ with
 | stat b => exact (E.stat B h).1
 | fam f b =>
  obtain ⟨hf, h⟩ := h
  refine ⟨Nat.lt_of_lt_of_le hf E.nf, fun hd => ?_⟩
  obtain ⟨hr, hk⟩ := h (E.undead hf hd)
  exact ⟨E.famr B f hf hr hd, fun j hj => E.keeps (hk j hj).1 (hk j hj).2⟩
theorem Mem.readable {M F w M' F' w'} (E : Ext M F w M' F' w') {φ B off n} (h : Mem M F w φ B off n) (hr : Readable F' φ) :
  Readable F φ ∧ w'.heap[B]? = w.heap[B]? := by
 cases φ with
 | stat b => exact ⟨trivial, (E.stat B h).2⟩
 | fam f b =>
  have ha := E.alive h.1 hr
  refine ⟨ha, E.famc B f h.1 (h.2 (by rw [ha]; simp)).1 hr⟩
theorem VR.mono {M F w M' F' w'} (E : Ext M F w M' F' w') {v : AV} {c : Value} (h : VR M F w v c) : VR M' F' w' v c := by
 induction h with
 | undef c => exact .undef c
 | bool b => exact .bool b
 | int k n => exact .int k n
 | str s => exact .str s
 | nilp => exact .nilp
 | ptr o off h => rw [← E.obj o h]; exact .ptr o off (Nat.lt_of_lt_of_le h E.no)
 | pv φ v B off cs hm hc hv ih =>
  refine .pv φ v B off cs (hm.mono E) (fun hr j hj => ?_) (fun hr j hj => ?_)
  ·obtain ⟨h1, h2⟩ := hm.readable E hr
   rw [cell?_of_heap h2]; exact hc h1 j hj
  ·exact ih (hm.readable E hr).1 j hj
 | nilsl => exact .nilsl
 | sl φ sz xs B off cap cs hcap hlit hsz hm hc hv ih =>
  refine .sl φ sz xs B off cap cs hcap hlit hsz (hm.mono E) (fun hr j hj => ?_) (fun hr j hj => ?_)
  ·obtain ⟨h1, h2⟩ := hm.readable E hr
   rw [cell?_of_heap h2]; exact hc h1 j hj
  ·exact ih (hm.readable E hr).1 j hj
 | slz b sz a => exact .slz b sz a
 | slm o off sz len cap h hcap hr => rw [← E.obj o h]; exact .slm o off sz len cap (Nat.lt_of_lt_of_le h E.no) hcap fun j hj => by rw [E.obj o h]; exact E.keeps (hr j hj).1 (hr j hj).2
 | fn f first cap A B ha hb va vb iha ihb => exact .fn f first cap A B ha hb iha ihb
 | nilfn => exact .nilfn
 | iface t v c h ih => exact .iface t v c ih
 | nilif => exact .nilif
 | agg cs A ha va ih => exact .agg cs A ha ih
 | tuple vs A ha va ih => exact .tuple vs A ha ih
theorem Ext.refl (M F w) : Ext M F w M F w where
 io := .refl _
 no := Nat.le_refl _
 nf := Nat.le_refl _
 obj _ _ := rfl
 dead _ _ h := h
 spoil _ _ h := by rw [h]; simp
 size := Nat.le_refl _
 shape _ c _ _ h := ⟨c, h, rfl⟩
 stat _ h := ⟨h, rfl⟩
 free _ _ h := ⟨h, rfl⟩
 famr _ _ _ h _ := h
 famc _ _ _ _ _ := rfl
theorem Ext.trans {M F w M' F' w' M2 F2 w2} (E : Ext M F w M' F' w') (E2 : Ext M' F' w' M2 F2 w2) : Ext M F w M2 F2 w2 where
 io := E.io.trans E2.io
 no := Nat.le_trans E.no E2.no
 nf := Nat.le_trans E.nf E2.nf
 obj o h := by rw [E2.obj o (Nat.lt_of_lt_of_le h E.no), E.obj o h]
 dead f h hd := E2.dead f (Nat.lt_of_lt_of_le h E.nf) (E.dead f h hd)
 spoil f h hd := by
  have h' := Nat.lt_of_lt_of_le h E.nf
  have h1 := E.spoil f h hd
  cases hF : F' f with
  | alive => exact absurd hF h1
  | spoiled => exact E2.spoil f h' hF
  | dead => rw [E2.dead f h' hF]; simp
 size := Nat.le_trans E.size E2.size
 shape B c e z h := by
  obtain ⟨c1, h1, s1⟩ := E.shape B c e z h
  obtain ⟨c2, h2, s2⟩ := E2.shape B c1 e z h1
  exact ⟨c2, h2, by rw [s2, s1]⟩
 stat B h := by
  obtain ⟨a, b⟩ := E.stat B h
  obtain ⟨c, d⟩ := E2.stat B a
  exact ⟨c, by rw [d, b]⟩
 free B hB h := by
  obtain ⟨a, b⟩ := E.free B hB h
  obtain ⟨c, d⟩ := E2.free B (Nat.lt_of_lt_of_le hB E.size) a
  exact ⟨c, by rw [d, b]⟩
 famr B f hf h hd := by
  have h' := Nat.lt_of_lt_of_le hf E.nf
  exact E2.famr B f h' (E.famr B f hf h (E2.undead h' hd)) hd
 famc B f hf h ha := by
  have h' := Nat.lt_of_lt_of_le hf E.nf
  have ha' := E2.alive h' ha
  rw [E2.famc B f h' (E.famr B f hf h (by rw [ha']; simp)) ha, E.famc B f hf h ha']
theorem Ext.of_heap {M F w w'} (h : w'.heap = w.heap) (hio : SameIO w w') : Ext M F w M F w' where
 io := hio
 no := Nat.le_refl _
 nf := Nat.le_refl _
 obj _ _ := rfl
 dead _ _ h := h
 spoil _ _ h := by rw [h]; simp
 size := by rw [h]; exact Nat.le_refl _
 shape _ c _ _ h' := ⟨c, by rw [h]; exact h', rfl⟩
 stat _ h' := ⟨h', by rw [h]⟩
 free _ _ h' := ⟨h', by rw [h]⟩
 famr _ _ _ h _ := h
 famc _ _ _ _ _ := by rw [h]
structure Sim (M : Mp) (σ : AS) (w : World) : Prop where
 no : M.no = σ.no
 nf : M.nf = σ.nf
 role : ∀ B r, M.role B = some r → B < w.heap.size
 obj : ∀ o cs, σ.objs o = some cs → o < σ.no ∧ M.role (M.obj o).1 = some .obj ∧
  ∀ j (h : j < cs.length), ∃ c, w.cell? ⟨(M.obj o).1, (M.obj o).2 + j, none⟩ = some c ∧ w.frozen? ⟨(M.obj o).1, (M.obj o).2 + j, none⟩ = false ∧ VR M σ.F w cs[j] c
 inj : ∀ o o', (σ.objs o).isSome = true → (σ.objs o').isSome = true → (M.obj o).1 = (M.obj o').1 → o = o'
theorem Sim.of_heap {M σ w w'} (S : Sim M σ w) (h : w'.heap = w.heap) (hio : SameIO w w') : Sim M σ w' where
 no := S.no
 nf := S.nf
 role B r hr := by rw [h]; exact S.role B r hr
 obj o cs ho := by
  obtain ⟨a, b, c⟩ := S.obj o cs ho
  refine ⟨a, b, fun j hj => ?_⟩
  obtain ⟨x, h1, h2, h3⟩ := c j hj
  exact ⟨x, (cell?_of_heap (w := w) (w' := w') (by rw [h])).trans h1, (frozen?_of_heap (w := w) (w' := w') (by rw [h])).trans h2, h3.mono (.of_heap h hio)⟩
 inj := S.inj
structure Env where
 g : Nat → AV
 has : Nat → Prop
 y : Nat → List AV → AS → (AV → AS → Prop) → (AV → AS → Prop) → Prop
 fix : Nat → Option (Array Value) := fun _ => none
end Go.Abs
namespace Go.Abs
open Go
def ofVal1 : Value → AV
 | .bool b => .bool b
 | .int k n => .int k n
 | .string s => .str s.data.toList
 | .pointer none => .nilp
 | .slice none 0 0 => .nilsl
 | .nilFunc => .nilfn
 | .nilIface => .nilif
 | _ => .undef
def ofVal : Value → AV
 | .agg cs => .agg (cs.toList.map ofVal1)
 | v => ofVal1 v
def ev (G : Env) (a : Nat → AV) : Operand → AV
 | .tmp t => a t
 | .const v => ofVal v
 | .global g => G.g g
 | .func f => .fn (.func f) [] []
def upd {α : Type} (f : Nat → α) (i : Nat) (x : α) : Nat → α := fun j => if j = i then x else f j
theorem upd_same {α : Type} (f : Nat → α) (i : Nat) (x : α) : upd f i x i = x := by simp [upd]
theorem upd_ne {α : Type} (f : Nat → α) {i j : Nat} (x : α) (h : j ≠ i) : upd f i x j = f j := by simp [upd, h]
def put (a : Nat → AV) : Option Tmp → AV → Nat → AV
 | some d, v => upd a d v
 | none, _ => a
structure FI where
 off : Nat
 size : Nat
 agg : Bool
def AV.known : AV → Bool
 | .undef => false
 | _ => true
def aggOf (P : Program) (t : TypeId) : Bool :=
 match P.underlying t with
 | some (.struct _) | some (.array _ _) => true
 | _ => false
def szOf (P : Program) (t : TypeId) : Option Nat :=
 match P.underlying t with
 | some _ => (P.info? t).map (·.size)
 | none => none
def fiOf (P : Program) (t : TypeId) (i : Nat) : Option FI :=
 match P.underlying t with
 | some (.struct fs) =>
  match fs[i]? with
  | some f => match szOf P f.type with
   | some n => if n = 0 then none else some ⟨f.offset, n, aggOf P f.type⟩
   | none => none
  | none => none
 | _ => none
def elOf (P : Program) (t : TypeId) : Option Nat :=
 match P.underlying t with
 | some (.slice e) => szOf P e
 | _ => none
def arOf (P : Program) (t : TypeId) : Option (Nat × Nat × Bool) :=
 match P.underlying t with
 | some (.array n e) => (szOf P e).map fun s => (n, s, aggOf P e)
 | _ => none
def zeroOf (P : Program) (t : TypeId) : Option AV := ((P.info? t).bind (·.zero)).map ofVal
def elZero (P : Program) (t : TypeId) : Option AV :=
 match P.underlying t with
 | some (.slice e) => zeroOf P e
 | _ => none
def intOf? (P : Program) (t : TypeId) : Option IntKind :=
 match P.underlying t with
 | some (.int k) => some k
 | _ => none
def isStr (P : Program) (t : TypeId) : Bool :=
 match P.underlying t with
 | some .string => true
 | _ => false
def partOf (agg : Bool) (size off : Nat) (cs : List AV) (K : AV → Prop) : Prop :=
 if agg then off + size ≤ cs.length ∧ K (.agg ((cs.drop off).take size)) else ∃ v, cs[off]? = some v ∧ K v
def aeq1 : TypeDesc → AV → AV → Option Bool
 | .bool, .bool a, .bool b => some (a == b)
 | .int _, .int k a, .int k' b => if k = k' then some (a == b) else none
 | .string, .str a, .str b => some (a == b)
 | .pointer _, .nilp, .nilp => some true
 | .pointer _, .nilp, .ptr _ _ | .pointer _, .nilp, .pv _ _ | .pointer _, .ptr _ _, .nilp | .pointer _, .pv _ _, .nilp => some false
 | .slice _, .nilsl, .nilsl => some true
 | .interface ms, .nilif, .nilif => if ms.isEmpty then some true else none
 | .interface _, .nilif, .iface _ _ | .interface _, .iface _ _, .nilif => some false
 | .slice _, .nilsl, .sl _ _ _ | .slice _, .nilsl, .slm _ _ _ _ | .slice _, .sl _ _ _, .nilsl | .slice _, .slm _ _ _ _, .nilsl => some false
 | _, _, _ => none
def aeqFs (P : Program) : List Field → List AV → List AV → Option Bool
 | [], _, _ => some true
 | f :: fs, xs, ys =>
  if f.name = "_" then none else
  match P.underlying f.type, xs[f.offset]?, ys[f.offset]? with
  | some d, some x, some y => match aeq1 d x y with
   | some true => aeqFs P fs xs ys
   | some false => some false
   | none => none
  | _, _, _ => none
def aeq (P : Program) (t : TypeId) (x y : AV) : Option Bool :=
 match P.underlying t with
 | some (.struct fs) => match x, y with
  | .agg xs, .agg ys => if P.stoodInHeld t || P.eqGuardType P.depth t then none else aeqFs P fs.toList xs ys
  | _, _ => none
 | some d => aeq1 d x y
 | none => none
def strCmp (op : BinOp) (a b : List UInt8) (K : AV → Prop) : Prop :=
 match op with
 | .add => (a.length + b.length < 2 ^ 62) ∧ K (.str (a ++ b))
 | .eql => K (.bool (a == b))
 | .neq => K (.bool (!(a == b)))
 | .lss => K (.bool (Op.bytesLess a b))
 | .leq => K (.bool (Op.bytesLess a b || a == b))
 | .gtr => K (.bool (!(Op.bytesLess a b || a == b)))
 | .geq => K (.bool (!Op.bytesLess a b))
 | _ => False
def bits2 (k : IntKind) (f : BitVec k.bits → BitVec k.bits → BitVec k.bits) (a b : Int) : Int :=
 k.wrap (f (BitVec.ofInt k.bits a) (BitVec.ofInt k.bits b)).toNat
def intBin (op : BinOp) (k : IntKind) (a b : Int) (K : AV → Prop) : Prop :=
 match op with
 | .add => K (.int k (k.wrap (a + b)))
 | .sub => K (.int k (k.wrap (a - b)))
 | .mul => K (.int k (k.wrap (a * b)))
 | .quo => b ≠ 0 ∧ K (.int k (k.wrap (a.tdiv b)))
 | .rem => b ≠ 0 ∧ K (.int k (a.tmod b))
 | .and => K (.int k (bits2 k (· &&& ·) a b))
 | .or => K (.int k (bits2 k (· ||| ·) a b))
 | .xor => K (.int k (bits2 k (· ^^^ ·) a b))
 | .andNot => K (.int k (bits2 k (fun x y => x &&& ~~~y) a b))
 | .eql => K (.bool (decide (a = b)))
 | .neq => K (.bool (!decide (a = b)))
 | .lss => K (.bool (decide (a < b)))
 | .leq => K (.bool (decide (a ≤ b)))
 | .gtr => K (.bool (decide (b < a)))
 | .geq => K (.bool (decide (b ≤ a)))
 | _ => False
def shiftBin (op : BinOp) (k : IntKind) (a b : Int) (K : AV → Prop) : Prop :=
 match op with
 | .shl => 0 ≤ b ∧ K (.int k (k.wrap (a * 2 ^ (min b.toNat k.bits))))
 | .shr => 0 ≤ b ∧ K (.int k (a.fdiv (2 ^ (min b.toNat k.bits))))
 | _ => False
def abin (P : Program) (op : BinOp) (t : TypeId) (x y : AV) (K : AV → Prop) : Prop :=
 match x, y with
 | .int k a, .int k' b => match op with
  | .shl | .shr => shiftBin op k a b K
  | _ => k = k' ∧ intBin op k a b K
 | .str a, .str b => strCmp op a b K
 | x, y => match op with
  | .eql => ∃ r, aeq P t x y = some r ∧ K (.bool r)
  | .neq => ∃ r, aeq P t x y = some r ∧ K (.bool (!r))
  | _ => False
def aun (op : UnOp) (x : AV) (K : AV → Prop) : Prop :=
 match op, x with
 | .not, .bool b => K (.bool (!b))
 | .neg, .int k n => K (.int k (k.wrap (-n)))
 | _, _ => False
def aconv (P : Program) (src dst : TypeId) (x : AV) (K : AV → Prop) : Prop :=
 match x with
 | .int _ n => ∃ k, intOf? P dst = some k ∧ (P.underlying src).isSome ∧ K (.int k (k.wrap n))
 | .str s => isStr P dst = true ∧ (P.underlying src).isSome ∧ K (.str s)
 | _ => False
def optInt (a : Operand → AV) (d : Int) : Option Operand → Option Int
 | none => some d
 | some x => match a x with
  | .int _ n => some n
  | _ => none
def cut (φ : Own) (full : Bool) : Own :=
 match φ with
 | .stat _ => .stat full
 | .fam f _ => .fam f full
def bounds (a : Operand → AV) (len : Nat) (lo hi mx : Option Operand) (K : Nat → Nat → Nat → Prop) : Prop :=
 ∃ l h m : Int, optInt a 0 lo = some l ∧ optInt a len hi = some h ∧ optInt a len mx = some m ∧ 0 ≤ l ∧ l ≤ h ∧ h ≤ m ∧ m ≤ len ∧ (mx.isSome → hi.isSome) ∧ K l.toNat h.toNat m.toNat
def aslice (P : Program) (a : Operand → AV) (t : TypeId) (x : AV) (lo hi mx : Option Operand) (K : AV → Prop) : Prop :=
 match x with
 | .str s => isStr P t = true ∧ mx = none ∧ bounds a s.length lo hi none fun l h _ => K (.str ((s.take h).drop l))
 | .nilsl => (elOf P t).isSome = true ∧ bounds a 0 lo hi mx fun _ _ _ => K .nilsl
 | .sl φ sz xs => elOf P t = some sz ∧ bounds a xs.length lo hi mx fun l h m => K (.sl (cut φ (if mx.isSome then decide (m = h) else φ.full && decide (h = xs.length))) sz ((xs.take h).drop l))
 | .slm o off sz len => elOf P t = some sz ∧ mx = none ∧ bounds a len lo hi none fun l h _ => (l < len ∨ l = 0) ∧ K (.slm o (off + l * sz) sz (h - l))
 | _ => False
def fits (g : Bool) (n : Nat) (v : AV) : Prop := if g then v.cells.length = n else v.cells = [v]
def aindexAddr (P : Program) (t : TypeId) (x i : AV) (K : AV → Prop) : Prop :=
 match x, i with
 | .sl φ sz xs, .int _ n => elOf P t = some sz ∧ 0 ≤ n ∧ ∃ v, xs[n.toNat]? = some v ∧ K (.pv φ v)
 | .slm o off sz len, .int _ n => elOf P t = some sz ∧ 0 ≤ n ∧ n < len ∧ K (.ptr o (off + n.toNat * sz))
 | .ptr o off, .int _ n => ∃ l s g, arOf P t = some (l, s, g) ∧ 0 ≤ n ∧ n < (l : Nat) ∧ K (.ptr o (off + n.toNat * s))
 | .pv φ (.agg cs), .int _ n => ∃ l s g, arOf P t = some (l, s, g) ∧ 0 ≤ n ∧ n < (l : Nat) ∧ partOf g s (n.toNat * s) cs fun v => fits g s v ∧ K (.pv φ v)
 | _, _ => False
def aindex (P : Program) (t : TypeId) (x i : AV) (K : AV → Prop) : Prop :=
 match x, i with
 | .str s, .int _ n => isStr P t = true ∧ 0 ≤ n ∧ ∃ b, s[n.toNat]? = some b ∧ K (.int .u8 b.toNat)
 | .agg cs, .int _ n => ∃ l s g, arOf P t = some (l, s, g) ∧ 0 ≤ n ∧ n < (l : Nat) ∧ partOf g s (n.toNat * s) cs K
 | _, _ => False
def afieldAddr (P : Program) (t : TypeId) (x : AV) (f : Nat) (K : AV → Prop) : Prop :=
 match x with
 | .ptr o off => ∃ i, fiOf P t f = some i ∧ K (.ptr o (off + i.off))
 | .pv φ (.agg cs) => ∃ i, fiOf P t f = some i ∧ partOf i.agg i.size i.off cs fun v => fits i.agg i.size v ∧ K (.pv φ v)
 | _ => False
def afield (P : Program) (t : TypeId) (x : AV) (f : Nat) (K : AV → Prop) : Prop :=
 match x with
 | .agg cs => ∃ i, fiOf P t f = some i ∧ partOf i.agg i.size i.off cs K
 | _ => False
def splice (cs : List AV) (off : Nat) (vs : List AV) : List AV := cs.take off ++ vs ++ cs.drop (off + vs.length)
def fillS (P : Program) (t : TypeId) (a : Operand → AV) : List (Nat × Operand) → List AV → (List AV → Prop) → Prop
 | [], cs, K => K cs
 | (i, x) :: rest, cs, K => ∃ f, fiOf P t i = some f ∧ (a x).known = true ∧ (a x).cells.length = f.size ∧ f.off + f.size ≤ cs.length ∧ fillS P t a rest (splice cs f.off (a x).cells) K
def fillA (n sz : Nat) (a : Operand → AV) : List (Nat × Operand) → List AV → (List AV → Prop) → Prop
 | [], cs, K => K cs
 | (i, x) :: rest, cs, K => i < n ∧ (a x).known = true ∧ (a x).cells.length = sz ∧ fillA n sz a rest (cs.set i (a x)) K
def isStruct (P : Program) (t : TypeId) : Bool :=
 match P.underlying t with
 | some (.struct _) => true
 | _ => false
def sized (P : Program) (t : TypeId) : Bool :=
 match P.underlying t with
 | some (.struct fs) => fs.toList.all fun f => (szOf P f.type).isSome
 | _ => false
def abuild (P : Program) (t : TypeId) (a : Operand → AV) (parts : List (Nat × Operand)) (K : AV → Prop) : Prop :=
 (isStruct P t = true ∧ sized P t = true) ∧ ∃ z, zeroOf P t = some z ∧ z.known = true ∧ fillS P t a parts z.cells fun cs => K (.agg cs)
def abuildSlice (P : Program) (t : TypeId) (n : Nat) (a : Operand → AV) (parts : List (Nat × Operand)) (K : AV → Prop) : Prop :=
 ∃ sz z, elOf P t = some sz ∧ elZero P t = some z ∧ z.known = true ∧ z.cells.length = sz ∧ 0 < sz ∧ n * sz ≤ 2 ^ 24 ∧ fillA n sz a parts (List.replicate n z) fun xs => K (.sl (.stat true) sz xs)
def alen (P : Program) (t : TypeId) (x : AV) (K : AV → Prop) : Prop :=
 match x with
 | .str s => isStr P t = true ∧ K (.int .i64 s.length)
 | .nilsl => (elOf P t).isSome = true ∧ K (.int .i64 0)
 | .sl _ _ xs => (elOf P t).isSome = true ∧ K (.int .i64 xs.length)
 | .slm _ _ _ len => (elOf P t).isSome = true ∧ K (.int .i64 len)
 | _ => False
def acap (P : Program) (t : TypeId) (x : AV) (K : AV → Prop) : Prop :=
 match x with
 | .nilsl => (elOf P t).isSome = true ∧ K (.int .i64 0)
 | .sl φ _ xs => (elOf P t).isSome = true ∧ φ.full = true ∧ K (.int .i64 xs.length)
 | _ => False
def isIface (P : Program) (t : TypeId) : Option Bool :=
 match P.underlying t with
 | some (.interface _) => some true
 | some _ => some false
 | none => none
def apure (P : Program) (a : Operand → AV) : Op → (AV → Prop) → Prop
 | .move x, K | .assign x, K => K (a x)
 | .pick c x y, K => ∃ b, a c = .bool b ∧ K (if b then a x else a y)
 | .nilCheck x, K => match a x with
  | .ptr _ _ | .pv _ _ | .fn (.func _) _ _ => K (a x)
  | _ => False
 | .binOp op t x y _, K => abin P op t (a x) (a y) K
 | .unOp op _ x, K => aun op (a x) K
 | .convert s d x, K => aconv P s d (a x) K
 | .makeInterface t x, K => isIface P t = some false ∧ K (.iface t (a x))
 | .typeAssert x _ t ok, K => match a x with
  | .iface u v => isIface P t = some false ∧ u = t ∧ K (if ok then .tuple [v, .bool true] else v)
  | _ => False
 | .makeFunc f first cap, K => K (.fn f (first.toList.map a) (cap.toList.map a))
 | .slice t x lo hi mx, K => aslice P a t (a x) lo hi mx K
 | .fieldAddr t x f, K => afieldAddr P t (a x) f K
 | .field t x f, K => afield P t (a x) f K
 | .indexAddr t x i, K => aindexAddr P t (a x) (a i) K
 | .index t x i, K => aindex P t (a x) (a i) K
 | .extract x i, K => match a x with
  | .tuple vs => ∃ v, vs[i]? = some v ∧ K v
  | _ => False
 | .build t parts, K => abuild P t a parts.toList K
 | .buildSlice t n parts, K => abuildSlice P t n a parts.toList K
 | .call c, K => match c.callee with
  | .builtin .len => match c.argTypes.toList, c.args.toList with
   | [t], [x] => alen P t (a x) K
   | _, _ => False
  | .builtin .cap => match c.argTypes.toList, c.args.toList with
   | [t], [x] => acap P t (a x) K
   | _, _ => False
  | .builtin .min => match c.args.toList with
   | [x, y] => match a x, a y with
    | .int k m, .int k' n => k = k' ∧ K (.int k (min m n))
    | _, _ => False
   | _ => False
  | .builtin .max => match c.args.toList with
   | [x, y] => match a x, a y with
    | .int k m, .int k' n => k = k' ∧ K (.int k (max m n))
    | _, _ => False
   | _ => False
  | _ => False
 | _, _ => False
def objSl (t : Nat) (ps : List (Nat × Operand)) : Bool := t == 58 || (t == 25 && ps.any fun p => match p.2 with
 | .tmp k => k == 23
 | _ => false)
def isPure : Op → Bool
 | .move _ | .assign _ | .pick .. | .nilCheck _ | .binOp .. | .unOp .. | .makeInterface .. | .typeAssert .. | .makeFunc .. | .slice .. | .fieldAddr .. | .field ..
 | .indexAddr .. | .index .. | .extract .. | .build .. => true
 | .buildSlice t _ ps => !objSl t ps.toList
 | .call c => match c.callee with
  | .builtin .len | .builtin .cap | .builtin .min | .builtin .max => true
  | _ => false
 | _ => false
end Go.Abs
namespace Go.Abs
open Go
theorem toList_data (s : ByteArray) : s.toList = s.data.toList := ByteArray.toList_eq s
theorem VR.bool_inv {M F w b c} (h : VR M F w (.bool b) c) : c = .bool b := by cases h; rfl
theorem VR.int_inv {M F w k n c} (h : VR M F w (.int k n) c) : c = .int k n := by cases h; rfl
theorem VR.str_inv {M F w s c} (h : VR M F w (.str s) c) : ∃ b : ByteArray, c = .string b ∧ b.data.toList = s := by cases h; exact ⟨_, rfl, rfl⟩
theorem VR.str' {M F w} {s : List UInt8} {b : ByteArray} (h : b.data.toList = s) : VR M F w (.str s) (.string b) := by subst h; exact .str b
theorem ofVal1_VR (M F w) (v : Value) : VR M F w (ofVal1 v) v := by
 unfold ofVal1
 split <;> first | exact .undef _ | constructor
theorem ofVal_VR (M F w) (v : Value) : VR M F w (ofVal v) v := by
 unfold ofVal
 split
 ·rename_i cs
  refine .agg _ _ (by simp) (fun j h h' => ?_)
  simp only [List.getElem_map, Array.getElem_toList]
  exact ofVal1_VR ..
 ·exact ofVal1_VR ..
def Quiet (P : Program) (op : (Operand → Value) → Sem Value) (α : Operand → AV) (l : List Operand) (v : AV) : Prop :=
 ∀ (M : Mp) (F : Nat → FSt) (w : World) (ρ : Operand → Value), (∀ B r, M.role B = some r → B < w.heap.size) → (∀ x ∈ l, VR M F w (α x) (ρ x)) →
  ∃ v' M' w', (op ρ).run P w = .ok v' w' ∧ VR M' F w' v v' ∧ Ext M F w M' F w' ∧ (∀ σ, σ.F = F → Sim M σ w → Sim M' σ w')
theorem run_sizeOf' {P : Program} {t : TypeId} {n : Nat} (h : szOf P t = some n) (w : World) : (sizeOf t).run P w = .ok n w := by
 unfold szOf at h
 split at h
 case h_2 => cases h
 cases hi : P.info? t with
 | none => simp [hi] at h
 | some i =>
  simp [hi] at h
  simp [sizeOf, typeInfo, hi, h]
theorem run_isAgg' {P : Program} {t : TypeId} {d : TypeDesc} (h : P.underlying t = some d) (w : World) : (isAgg t).run P w = .ok (aggOf P t) w := by
 unfold aggOf
 rw [h]
 cases d <;> simp [isAgg, run_underlying h]
def aggD : TypeDesc → Bool
 | .struct _ | .array _ _ => true
 | _ => false
theorem run_isAgg_plain' {P : Program} {t : TypeId} {d : TypeDesc} (h : P.underlying t = some d) (hd : aggD d = false) (w : World) :
  (isAgg t).run P w = .ok false w := by
 cases d <;> first | (simp [aggD] at hd; done) | simp [isAgg, run_underlying h]
theorem intBin_sound {op k a b} {K : AV → Prop} (h : intBin op k a b K) (hs : op ≠ .shl ∧ op ≠ .shr) (P : Program) (t : TypeId) :
  ∃ v, K v ∧ ∀ M F w, ∃ v', (binOp op t (.int k a) (.int k b)).run P w = .ok v' w ∧ VR M F w v v' := by
 cases op <;> simp only [intBin] at h
 case quo => exact ⟨_, h.2, fun M F w => ⟨_, by simp [binOp, Op.intDiv, h.1] <;> rfl, .int ..⟩⟩
 case rem => exact ⟨_, h.2, fun M F w => ⟨_, by simp [binOp, Op.intDiv, h.1] <;> rfl, .int ..⟩⟩
 case add => exact ⟨_, h, fun M F w => ⟨_, by simp [binOp, Op.intArith] <;> rfl, .int ..⟩⟩
 case sub => exact ⟨_, h, fun M F w => ⟨_, by simp [binOp, Op.intArith] <;> rfl, .int ..⟩⟩
 case mul => exact ⟨_, h, fun M F w => ⟨_, by simp [binOp, Op.intArith] <;> rfl, .int ..⟩⟩
 case and => exact ⟨_, h, fun M F w => ⟨_, by simp [binOp, Op.intBits] <;> rfl, .int ..⟩⟩
 case or => exact ⟨_, h, fun M F w => ⟨_, by simp [binOp, Op.intBits] <;> rfl, .int ..⟩⟩
 case xor => exact ⟨_, h, fun M F w => ⟨_, by simp [binOp, Op.intBits] <;> rfl, .int ..⟩⟩
 case andNot => exact ⟨_, h, fun M F w => ⟨.int k (bits2 k (fun x y => x &&& ~~~y) a b), by simp only [binOp, Op.intBits]; rw [if_neg (by simp)]; rfl, .int ..⟩⟩
 case eql => exact ⟨_, h, fun M F w => ⟨_, by simp [binOp, Op.intCmp] <;> rfl, .bool ..⟩⟩
 case neq => exact ⟨_, h, fun M F w => ⟨_, by simp [binOp, Op.intCmp] <;> rfl, .bool ..⟩⟩
 case lss => exact ⟨_, h, fun M F w => ⟨_, by simp [binOp, Op.intCmp] <;> rfl, .bool ..⟩⟩
 case leq => exact ⟨_, h, fun M F w => ⟨_, by simp [binOp, Op.intCmp] <;> rfl, .bool ..⟩⟩
 case gtr => exact ⟨_, h, fun M F w => ⟨_, by simp [binOp, Op.intCmp] <;> rfl, .bool ..⟩⟩
 case geq => exact ⟨_, h, fun M F w => ⟨_, by simp [binOp, Op.intCmp] <;> rfl, .bool ..⟩⟩
theorem shiftBin_sound {op k a b yk} {K : AV → Prop} (h : shiftBin op k a b K) (P : Program) (t : TypeId) :
  ∃ v, K v ∧ ∀ M F w, ∃ v', (binOp op t (.int k a) (.int yk b)).run P w = .ok v' w ∧ VR M F w v v' := by
 cases op <;> simp only [shiftBin] at h
 case shl => exact ⟨_, h.2, fun M F w => ⟨_, by simp [binOp, Op.shift, show ¬ b < 0 by omega] <;> rfl, .int ..⟩⟩
 case shr => exact ⟨_, h.2, fun M F w => ⟨_, by simp [binOp, Op.shift, show ¬ b < 0 by omega] <;> rfl, .int ..⟩⟩
theorem strCmp_sound {op a b} {K : AV → Prop} (h : strCmp op a b K) (P : Program) (t : TypeId) :
    ∃ v, K v ∧ ∀ M F w (x y : ByteArray), x.data.toList = a → y.data.toList = b → ∃ v', (binOp op t (.string x) (.string y)).run P w = .ok v' w ∧ VR M F w v v' := by
  cases op <;> simp only [strCmp] at h
  case add =>
    refine ⟨_, h.2, fun M F w x y hx hy => ⟨.string (x ++ y), ?_, VR.str' ?_⟩⟩
    · have h1 : x.size = a.length := by rw [← hx]; rfl
      have h2 : y.size = b.length := by rw [← hy]; rfl
      have h3 : ¬ (((x.size + y.size : Nat) : Int) > IntKind.i64.max) := by rw [h1, h2]; simp [IntKind.max, IntKind.signed, IntKind.bits]; omega
      simp only [binOp, Op.stringOp, if_neg h3, Sem.run_pure]
    · subst hx; subst hy; simp [ByteArray.data_append]
  all_goals first
    | exact h.elim
    | (refine ⟨_, h, fun M F w x y hx hy => ⟨_, ?_, .bool _⟩⟩
       simp only [binOp, Op.stringOp, Sem.run_pure, toList_data, hx, hy])
theorem aeq1_sound {d x y r} (h : aeq1 d x y = some r) {P : Program} {t : TypeId} (ht : P.underlying t = some d) (n : Nat) {M F w x' y'} (hx : VR M F w x x') (hy : VR M F w y y') :
  (Op.equalIn (n + 1) t x' y').run P w = .ok r w := by
 unfold aeq1 at h
 split at h
 case h_17 => cases h
 case h_3 =>
  cases hx; cases hy
  simp at h
  simp [Op.equalIn, run_underlying ht, ← h, beq_toListBytes, toList_data]
 case h_2 =>
  cases hx; cases hy
  split at h
  ·rename_i hk; subst hk; simp at h; simp [Op.equalIn, run_underlying ht, ← h]
  ·cases h
 all_goals
  cases hx <;> cases hy <;>
  first
   | (simp at h; simp [Op.equalIn, run_underlying ht, ← h]; done)
   | (cases h; simp [Op.equalIn, run_underlying ht])
theorem aeq1_flat {d x y r} (h : aeq1 d x y = some r) : aggD d = false := by
 unfold aeq1 at h
 split at h <;> first | rfl | cases h
theorem aeqFs_sound {P : Program} {M F w} {xs ys : List AV} {A B : Array Value} (hA : A.size = xs.length) (hB : B.size = ys.length)
  (va : ∀ j (h : j < xs.length) (h' : j < A.size), VR M F w xs[j] A[j]) (vb : ∀ j (h : j < ys.length) (h' : j < B.size), VR M F w ys[j] B[j]) (n : Nat) :
  ∀ (fs : List Field) (r : Bool), aeqFs P fs xs ys = some r → (Op.eqFields (n + 1) A B fs).run P w = .ok r w := by
 intro fs
 induction fs with
 | nil => intro r h; simp [aeqFs] at h; simp [Op.eqFields, h]
 | cons f fs ih =>
  intro r h
  simp only [aeqFs] at h
  split at h
  ·cases h
  ·rename_i hn
   split at h
   ·rename_i d x y hd hx hy
    obtain ⟨h1, e1⟩ := List.getElem?_eq_some_iff.1 hx
    obtain ⟨h2, e2⟩ := List.getElem?_eq_some_iff.1 hy
    have v1 := va _ h1 (by omega)
    have v2 := vb _ h2 (by omega)
    rw [e1] at v1
    rw [e2] at v2
    split at h
    ·rename_i he
     have hag : (isAgg f.type).run P w = .ok false w := run_isAgg_plain' hd (aeq1_flat he) w
     have hp1 : (part f.type A f.offset).run P w = .ok A[f.offset] w := by
      simp [part, hag, Array.getElem?_eq_getElem (show f.offset < A.size by omega)]
     have hp2 : (part f.type B f.offset).run P w = .ok B[f.offset] w := by
      simp [part, hag, Array.getElem?_eq_getElem (show f.offset < B.size by omega)]
     have hq := aeq1_sound he hd n v1 v2
     simp [Op.eqFields, hn, hp1, hp2, hq, ih r h]
    ·rename_i he
     have hag : (isAgg f.type).run P w = .ok false w := run_isAgg_plain' hd (aeq1_flat he) w
     have hp1 : (part f.type A f.offset).run P w = .ok A[f.offset] w := by
      simp [part, hag, Array.getElem?_eq_getElem (show f.offset < A.size by omega)]
     have hp2 : (part f.type B f.offset).run P w = .ok B[f.offset] w := by
      simp [part, hag, Array.getElem?_eq_getElem (show f.offset < B.size by omega)]
     have hq := aeq1_sound he hd n v1 v2
     cases h
     simp [Op.eqFields, hn, hp1, hp2, hq]
    ·cases h
   ·cases h
theorem aeq_sound {P : Program} {t x y r} (h : aeq P t x y = some r) {M F w x' y'} (hx : VR M F w x x') (hy : VR M F w y y') :
  (Op.equal t x' y').run P w = .ok r w := by
 unfold aeq at h
 split at h
 ·rename_i fs hd
  split at h
  ·rename_i xs ys
   split at h
   ·cases h
   ·rename_i hg
    simp at hg
    cases hx with
    | agg _ A ha va =>
    cases hy with
    | agg _ B hb vb =>
    have hf : P.fieldsOf t = fs := by simp [Program.fieldsOf, hd]
    rw [show Op.equal t (.agg A) (.agg B) = Op.equalIn 10000 t (.agg A) (.agg B) from rfl, run_equalIn_struct w 9999 t A B (by rw [hf]; exact hd) hg.1, hf]
    exact aeqFs_sound ha hb va vb 9998 _ _ h
  ·cases h
 ·rename_i d hnot hd
  exact aeq1_sound h hd 9999 hx hy
 ·cases h
theorem eqGuardIn_nil {P : Program} {t : TypeId} {ms : Array (String × TypeId)} (hd : P.underlying t = some (.interface ms)) (h : ms.isEmpty = true) (n : Nat) (w : World) : (Op.eqGuardIn (n + 1) t .nilIface .nilIface).run P w = .ok false w := by
 simp only [Op.eqGuardIn, Sem.run_bind, run_underlying hd, Result.andThen_ok, Sem.run_pure, h, Bool.not_true]
theorem eqGuard_nil {P : Program} {op : BinOp} {t : TypeId} {ms : Array (String × TypeId)} (hd : P.underlying t = some (.interface ms)) (h : ms.isEmpty = true) (xo yo : Operand) (w : World) : (eqGuard op t xo yo .nilIface .nilIface).run P w = .ok () w := by
 have e : (Op.eqGuardIn Op.maxDepth t .nilIface .nilIface).run P w = .ok false w := eqGuardIn_nil hd h 9999 w
 unfold eqGuard
 cases op <;> simp only [Bool.not_true, Bool.not_false, Bool.false_eq_true, if_false, if_true, Sem.run_pure] <;> (split <;> simp [Sem.run_bind, e, Result.andThen])
theorem eqGuard_VR {P : Program} {op t x y r} (h : aeq P t x y = some r) {M F w x' y'} (hx : VR M F w x x') (hy : VR M F w y y') (xo yo : Operand) :
    (eqGuard op t xo yo x' y').run P w = .ok () w := by
  unfold aeq at h
  split at h
  · rename_i fs hd
    split at h
    · split at h
      · cases h
      · rename_i hg
        simp at hg
        cases hx; cases hy
        exact run_eqGuard_agg w op t xo yo _ _ hg.2
    · cases h
  · rename_i d hnot hd
    unfold aeq1 at h
    split at h <;> first
      | (cases h; done)
      | (cases hx <;> cases hy <;> (cases op <;> simp [eqGuard]; done))
      | (cases hx; cases hy
         split at h
         · exact eqGuard_nil hd ‹_› xo yo w
         · cases h)
  · cases h
theorem eqGuard_int {P : Program} {op t k k' a b w} (xo yo : Operand) : (eqGuard op t xo yo (.int k a) (.int k' b)).run P w = .ok () w := by
 cases op <;> simp [eqGuard]
theorem eqGuard_str {P : Program} {op t a b w} (xo yo : Operand) : (eqGuard op t xo yo (.string a) (.string b)).run P w = .ok () w := by
 cases op <;> simp [eqGuard]
theorem run_binOp_eql {P : Program} {t x y r} (h : aeq P t x y = some r) {M F w x' y'} (hx : VR M F w x x') (hy : VR M F w y y')
  (hn : ∀ k k' a b, ¬ (x = .int k a ∧ y = .int k' b)) (hs : ∀ a b, ¬ (x = .str a ∧ y = .str b)) :
  (binOp .eql t x' y').run P w = .ok (.bool r) w ∧ (binOp .neq t x' y').run P w = .ok (.bool (!r)) w := by
 have he := aeq_sound h hx hy
 have key : ∀ (k : IntKind) (a : Int) (k' : IntKind) (b : Int), ¬ (x' = .int k a ∧ y' = .int k' b) := by
  rintro k a k' b ⟨rfl, rfl⟩
  cases hx <;> cases hy <;> first | exact hn _ _ _ _ ⟨rfl, rfl⟩ | (unfold aeq aeq1 at h; (repeat' split at h) <;> simp_all)
 unfold aeq at h
 split at h
 ·split at h
  ·cases hx; cases hy; constructor <;> (simp only [binOp]; simp [he])
  ·cases h
 ·unfold aeq1 at h
  split at h <;> first
   | (cases h; done)
   | exact absurd ⟨rfl, rfl⟩ (hn _ _ _ _)
   | exact absurd ⟨rfl, rfl⟩ (hs _ _)
   | (cases hx <;> cases hy <;> (constructor <;> (simp only [binOp]; simp [he])))
   | cases h
 ·cases h
theorem abin_sound {P : Program} {op t x y} {K : AV → Prop} (h : abin P op t x y K) :
  ∃ v, K v ∧ ∀ M F w x' y' xo yo, VR M F w x x' → VR M F w y y' → ∃ v', (do eqGuard op t xo yo x' y'; binOp op t x' y' : Sem Value).run P w = .ok v' w ∧ VR M F w v v' := by
 unfold abin at h
 split at h
 ·rename_i k a k' b
  split at h
  ·obtain ⟨v, hv, hh⟩ := shiftBin_sound (yk := k') h P t
   refine ⟨v, hv, fun M F w x' y' xo yo hx hy => ?_⟩
   rw [hx.int_inv, hy.int_inv]
   obtain ⟨v', h1, h2⟩ := hh M F w
   exact ⟨v', by simp [eqGuard_int, h1], h2⟩
  ·obtain ⟨v, hv, hh⟩ := shiftBin_sound (yk := k') h P t
   refine ⟨v, hv, fun M F w x' y' xo yo hx hy => ?_⟩
   rw [hx.int_inv, hy.int_inv]
   obtain ⟨v', h1, h2⟩ := hh M F w
   exact ⟨v', by simp [eqGuard_int, h1], h2⟩
  ·rename_i n1 n2
   obtain ⟨rfl, h⟩ := h
   obtain ⟨v, hv, hh⟩ := intBin_sound h ⟨n1, n2⟩ P t
   refine ⟨v, hv, fun M F w x' y' xo yo hx hy => ?_⟩
   rw [hx.int_inv, hy.int_inv]
   obtain ⟨v', h1, h2⟩ := hh M F w
   exact ⟨v', by simp [eqGuard_int, h1], h2⟩
 ·rename_i a b
  obtain ⟨v, hv, hh⟩ := strCmp_sound h P t
  refine ⟨v, hv, fun M F w x' y' xo yo hx hy => ?_⟩
  obtain ⟨b1, rfl, e1⟩ := hx.str_inv
  obtain ⟨b2, rfl, e2⟩ := hy.str_inv
  obtain ⟨v', h1, h2⟩ := hh M F w b1 b2 e1 e2
  exact ⟨v', by simp [eqGuard_str, h1], h2⟩
 ·rename_i n1 n2
  split at h
  ·obtain ⟨r, hr, hk⟩ := h
   refine ⟨_, hk, fun M F w x' y' xo yo hx hy => ⟨.bool r, ?_, .bool r⟩⟩
   have := (run_binOp_eql hr hx hy (fun k k' a b hh => n1 k a k' b hh.1 hh.2) (fun a b hh => n2 a b hh.1 hh.2)).1
   simp [eqGuard_VR hr hx hy, this]
  ·obtain ⟨r, hr, hk⟩ := h
   refine ⟨_, hk, fun M F w x' y' xo yo hx hy => ⟨.bool (!r), ?_, .bool _⟩⟩
   have := (run_binOp_eql hr hx hy (fun k k' a b hh => n1 k a k' b hh.1 hh.2) (fun a b hh => n2 a b hh.1 hh.2)).2
   simp [eqGuard_VR hr hx hy, this]
  ·exact h.elim
end Go.Abs
namespace Go.Abs
open Go
theorem flat_get {xs : List AV} {sz i j : Nat} {v : AV} (hsz : ∀ x ∈ xs, x.cells.length = sz) (hv : xs[i]? = some v) (hj : j < v.cells.length) :
  i * sz + j < (flat xs).length ∧ (flat xs)[i * sz + j]? = some v.cells[j] := by
 have hd := flat_drop sz xs i hsz
 obtain ⟨hi, hx⟩ := List.getElem?_eq_some_iff.1 hv
 have hcons : xs.drop i = v :: xs.drop (i + 1) := by rw [← hx]; exact List.drop_eq_getElem_cons hi
 have h1 : (flat xs)[i * sz + j]? = ((flat xs).drop (i * sz))[j]? := by rw [List.getElem?_drop]
 have h2 : (flat xs)[i * sz + j]? = some v.cells[j] := by
  rw [h1, hd, hcons]
  simp only [flat, List.flatMap_cons]
  rw [List.getElem?_append_left hj, List.getElem?_eq_getElem hj]
 exact ⟨(List.getElem?_eq_some_iff.1 h2).1, h2⟩
theorem Mem.sub {M F w φ B off n} (h : Mem M F w φ B off n) {d m : Nat} (hm : d + m ≤ n) : Mem M F w φ B (off + d) m := by
 cases φ with
 | stat b => exact h
 | fam f b =>
  refine ⟨h.1, fun hd => ⟨(h.2 hd).1, fun j hj => ?_⟩⟩
  have := (h.2 hd).2 (d + j) (by omega)
  rw [Nat.add_assoc]
  exact this
theorem addr_add (B off n : Nat) : (⟨B, off, none⟩ : Addr).add n = ⟨B, off + n, none⟩ := by
 unfold Addr.add; split
 ·rename_i h; subst h; rfl
 ·rfl
theorem VR.elem {M F w φ sz xs a c cap} (h : VR M F w (.sl φ sz xs) c) (hcc : c = .slice (some a) xs.length cap) {i : Nat} {v : AV} (hv : xs[i]? = some v) :
  VR M F w (.pv φ v) (.pointer (some (a.add (i * sz)))) := by
 cases h with
 | slz => simp at hv
 | sl _ _ _ B off _ cs hcap hlit hsz hm hc hv' =>
 cases hcc
 rw [addr_add]
 obtain ⟨hi, hx⟩ := List.getElem?_eq_some_iff.1 hv
 have hl : v.cells.length = sz := hsz v (by rw [← hx]; exact List.getElem_mem hi)
 refine .pv φ v B (off + i * sz) (fun j => cs (i * sz + j)) ?_ (fun hr j hj => ?_) (fun hr j hj => ?_)
 ·refine hm.sub (n := cap * sz) ?_
  rw [hl]
  have : (i + 1) * sz ≤ cap * sz := Nat.mul_le_mul_right _ (by omega)
  rw [Nat.add_mul, Nat.one_mul] at this
  exact this
 ·have := hc hr (i * sz + j) (flat_get hsz hv hj).1
  rw [Nat.add_assoc]; exact this
 ·obtain ⟨h1, h2⟩ := flat_get hsz hv hj
  have h3 := hv' hr _ h1
  obtain ⟨_, h4⟩ := List.getElem?_eq_some_iff.1 h2
  rw [h4] at h3
  exact h3
theorem elOf_spec {P : Program} {t sz} (h : elOf P t = some sz) : ∃ e, P.underlying t = some (.slice e) ∧ szOf P e = some sz := by
 unfold elOf at h
 split at h
 ·exact ⟨_, ‹_›, h⟩
 ·cases h
theorem arOf_spec {P : Program} {t l s g} (h : arOf P t = some (l, s, g)) : ∃ e, P.underlying t = some (.array l e) ∧ szOf P e = some s ∧ aggOf P e = g := by
 unfold arOf at h
 split at h
 ·rename_i n e hd
  cases hs : szOf P e with
  | none => simp [hs] at h
  | some s' => simp [hs] at h; obtain ⟨rfl, rfl, rfl⟩ := h; exact ⟨e, hd, hs, rfl⟩
 ·cases h
theorem fiOf_spec {P : Program} {t i f} (h : fiOf P t i = some f) :
  ∃ fs fd, P.underlying t = some (.struct fs) ∧ fs[i]? = some fd ∧ szOf P fd.type = some f.size ∧ f.size ≠ 0 ∧ fd.offset = f.off ∧ aggOf P fd.type = f.agg := by
 unfold fiOf at h
 split at h
 ·rename_i fs hd
  split at h
  ·rename_i fd hf
   split at h
   ·rename_i n hn
    split at h
    ·cases h
    ·simp at h; subst h; exact ⟨fs, fd, hd, hf, hn, by assumption, rfl, rfl⟩
   ·cases h
  ·cases h
 ·cases h
theorem szOf_und {P : Program} {t : TypeId} {n : Nat} (h : szOf P t = some n) : ∃ d, P.underlying t = some d := by
 unfold szOf at h
 split at h
 ·exact ⟨_, ‹_›⟩
 ·cases h
theorem agg_inv {M F w cs c} (h : VR M F w (.agg cs) c) : ∃ A : Array Value, c = .agg A ∧ A.size = cs.length ∧ ∀ j (h : j < cs.length) (h' : j < A.size), VR M F w cs[j] A[j] := by
 cases h; exact ⟨_, rfl, ‹_›, ‹_›⟩
theorem agg_sub {M F w} {cs : List AV} {A : Array Value} (hA : A.size = cs.length) (va : ∀ j (h : j < cs.length) (h' : j < A.size), VR M F w cs[j] A[j]) (off n : Nat) (hn : off + n ≤ cs.length) :
  VR M F w (.agg ((cs.drop off).take n)) (.agg (A.extract off (off + n))) := by
 refine .agg _ _ (by simp; omega) (fun j h h' => ?_)
 have h1 : j < n := by simp at h; omega
 have h3 := va (off + j) (by omega) (by omega)
 simpa using h3
theorem partOf_sound {P : Program} {t : TypeId} {n off : Nat} {d : TypeDesc} (hd : P.underlying t = some d) (hn : szOf P t = some n) {cs : List AV} {K : AV → Prop} (h : partOf (aggOf P t) n off cs K) :
  ∃ v, K v ∧ ∀ M F w (A : Array Value), A.size = cs.length → (∀ j (h : j < cs.length) (h' : j < A.size), VR M F w cs[j] A[j]) → ∃ v', (part t A off).run P w = .ok v' w ∧ VR M F w v v' := by
 unfold partOf at h
 split at h
 ·rename_i hg
  refine ⟨_, h.2, fun M F w A hA va => ⟨.agg (A.extract off (off + n)), ?_, agg_sub hA va off n h.1⟩⟩
  simp [part, run_isAgg' hd, hg, run_sizeOf' hn]
 ·rename_i hg
  obtain ⟨v, hv, hk⟩ := h
  obtain ⟨hi, hx⟩ := List.getElem?_eq_some_iff.1 hv
  refine ⟨v, hk, fun M F w A hA va => ⟨A[off], ?_, ?_⟩⟩
  ·simp [part, run_isAgg' hd, hg, Array.getElem?_eq_getElem (show off < A.size by omega)]
  ·have := va off hi (by omega)
   rw [hx] at this; exact this
theorem aun_sound {op x} {K : AV → Prop} (h : aun op x K) (P : Program) :
  ∃ v, K v ∧ ∀ M F w x', VR M F w x x' → ∃ v', (Op.unary op x').run P w = .ok v' w ∧ VR M F w v v' := by
 unfold aun at h
 split at h
 ·refine ⟨_, h, fun M F w x' hx => ⟨_, by rw [hx.bool_inv]; simp [Op.unary] <;> rfl, .bool _⟩⟩
 ·rename_i k n
  refine ⟨_, h, fun M F w x' hx => ⟨.int k (k.wrap (-n)), by rw [hx.int_inv]; simp [Op.unary, Op.intArith], .int ..⟩⟩
 ·exact h.elim
theorem isStr_spec {P : Program} {t} (h : isStr P t = true) : P.underlying t = some .string := by
 unfold isStr at h
 split at h
 ·assumption
 ·cases h
theorem intOf?_spec {P : Program} {t k} (h : intOf? P t = some k) : P.underlying t = some (.int k) := by
 unfold intOf? at h
 split at h
 ·simp at h; subst h; assumption
 ·cases h
theorem aconv_sound {P : Program} {s d x} {K : AV → Prop} (h : aconv P s d x K) :
  ∃ v, K v ∧ ∀ M F w x', VR M F w x x' → ∃ v', (convert s d x').run P w = .ok v' w ∧ VR M F w v v' := by
 unfold aconv at h
 split at h
 ·rename_i k0 n
  obtain ⟨k, hk, hs, hK⟩ := h
  obtain ⟨ds, hs⟩ := Option.isSome_iff_exists.1 hs
  refine ⟨_, hK, fun M F w x' hx => ⟨.int k (k.wrap n), ?_, .int ..⟩⟩
  rw [hx.int_inv]
  simp [convert, run_underlying hs, run_underlying (intOf?_spec hk), Conv.intToInt]
 ·obtain ⟨hk, hs, hK⟩ := h
  obtain ⟨ds, hs⟩ := Option.isSome_iff_exists.1 hs
  refine ⟨_, hK, fun M F w x' hx => ?_⟩
  obtain ⟨b, rfl, e⟩ := hx.str_inv
  refine ⟨.string b, ?_, VR.str' e⟩
  simp [convert, run_underlying hs, run_underlying (isStr_spec hk)]
 ·exact h.elim
theorem aindex_sound {P : Program} {t x i} {K : AV → Prop} (h : aindex P t x i K) :
  ∃ v, K v ∧ ∀ M F w x' i', VR M F w x x' → VR M F w i i' → ∃ v', (Instr.index t x' i').run P w = .ok v' w ∧ VR M F w v v' := by
 unfold aindex at h
 split at h
 ·rename_i s k n
  obtain ⟨hs, h0, b, hb, hK⟩ := h
  refine ⟨_, hK, fun M F w x' i' hx hi => ?_⟩
  obtain ⟨bs, rfl, e⟩ := hx.str_inv
  rw [hi.int_inv]
  refine ⟨.int .u8 b.toNat, ?_, .int ..⟩
  subst e
  have hb' : bs[n.toNat]? = some b := by
   obtain ⟨h1, h2⟩ := List.getElem?_eq_some_iff.1 hb
   rw [getElem?_pos bs n.toNat (by simpa using h1)]
   rw [← h2]; rfl
  simp [Instr.index, asIntOf, run_underlying (isStr_spec hs), h0, hb']
 ·rename_i cs k n
  obtain ⟨l, s, g, har, h0, hl, hp⟩ := h
  obtain ⟨e, he, hs, rfl⟩ := arOf_spec har
  obtain ⟨d, hd⟩ := szOf_und hs
  obtain ⟨v, hK, hh⟩ := partOf_sound hd hs hp
  refine ⟨v, hK, fun M F w x' i' hx hi => ?_⟩
  obtain ⟨A, rfl, hA, va⟩ := agg_inv hx
  rw [hi.int_inv]
  obtain ⟨v', h1, h2⟩ := hh M F w A hA va
  exact ⟨v', by simp [Instr.index, asIntOf, run_underlying he, h0, hl, run_sizeOf' hs, h1], h2⟩
 ·exact h.elim
theorem afield_sound {P : Program} {t x f} {K : AV → Prop} (h : afield P t x f K) :
  ∃ v, K v ∧ ∀ M F w x', VR M F w x x' → ∃ v', (Instr.field t x' f).run P w = .ok v' w ∧ VR M F w v v' := by
 unfold afield at h
 split at h
 ·rename_i cs
  obtain ⟨i, hi, hp⟩ := h
  obtain ⟨fs, fd, hu, hf, hs, hne, ho, hg⟩ := fiOf_spec hi
  obtain ⟨d, hd⟩ := szOf_und hs
  rw [← hg] at hp
  obtain ⟨v, hK, hh⟩ := partOf_sound hd hs hp
  refine ⟨v, hK, fun M F w x' hx => ?_⟩
  obtain ⟨A, rfl, hA, va⟩ := agg_inv hx
  obtain ⟨v', h1, h2⟩ := hh M F w A hA va
  exact ⟨v', by simp [Instr.field, run_underlying hu, hf, asAgg, ho, h1], h2⟩
 ·exact h.elim
theorem pv_sub {φ cs} {d n : Nat} {g : Bool} {K : AV → Prop} (hp : partOf g n d cs fun v => fits g n v ∧ K v) :
  ∃ v, K v ∧ ∀ M F w B off, VR M F w (.pv φ (.agg cs)) (.pointer (some ⟨B, off, none⟩)) → VR M F w (.pv φ v) (.pointer (some ⟨B, off + d, none⟩)) := by
 unfold partOf at hp
 split at hp
 ·rename_i hg
  obtain ⟨hn, hl, hK⟩ := hp
  simp only [fits, hg, if_true] at hl
  refine ⟨_, hK, fun M F w B off h => ?_⟩
  cases h with
  | pv _ _ _ _ c hm hc hv =>
  refine .pv φ _ B (off + d) (fun j => c (d + j)) ?_ (fun hr j hj => ?_) (fun hr j hj => ?_)
  ·rw [hl]; exact hm.sub (by simpa [AV.cells] using hn)
  ·rw [Nat.add_assoc]; exact hc hr _ (by simp [AV.cells] at hj ⊢; omega)
  ·have := hv hr (d + j) (by simp [AV.cells] at hj ⊢; omega)
   simpa [AV.cells] using this
 ·rename_i hg
  obtain ⟨v, hx, hone, hK⟩ := hp
  obtain ⟨hi, hx'⟩ := List.getElem?_eq_some_iff.1 hx
  simp only [fits, hg] at hone
  have hone : v.cells = [v] := hone
  refine ⟨v, hK, fun M F w B off h => ?_⟩
  cases h with
  | pv _ _ _ _ c hm hc hv =>
  refine .pv φ v B (off + d) (fun _ => c d) ?_ (fun hr j hj => ?_) (fun hr j hj => ?_)
  ·rw [hone]; exact hm.sub (by simp [AV.cells]; omega)
  ·have : j = 0 := by rw [hone] at hj; simp at hj; omega
   subst this
   exact hc hr d (by simpa [AV.cells] using hi)
  ·have : j = 0 := by rw [hone] at hj; simp at hj; omega
   subst this
   have h3 := hv hr d (by simpa [AV.cells] using hi)
   simp only [AV.cells, hx'] at h3
   simp only [hone, List.getElem_cons_zero]
   exact h3
theorem pv_inv {M F w φ v c} (h : VR M F w (.pv φ v) c) : ∃ B off, c = .pointer (some ⟨B, off, none⟩) := by cases h; exact ⟨_, _, rfl⟩
theorem ptr_inv {M F w o off c} (h : VR M F w (.ptr o off) c) : o < M.no ∧ c = .pointer (some ⟨(M.obj o).1, (M.obj o).2 + off, none⟩) := by cases h; exact ⟨‹_›, rfl⟩
theorem sl_inv {M F w φ sz xs c} (h : VR M F w (.sl φ sz xs) c) : ∃ a cap, c = .slice (some a) xs.length cap ∧ xs.length ≤ cap := by cases h; exact ⟨_, _, rfl, ‹_›⟩; exact ⟨_, _, rfl, Nat.le_refl _⟩
theorem sl_inv_fam {M F w f b sz xs c} (h : VR M F w (.sl (.fam f b) sz xs) c) : ∃ B off cap, c = .slice (some ⟨B, off, none⟩) xs.length cap ∧ xs.length ≤ cap := by cases h; exact ⟨_, _, _, rfl, ‹_›⟩
theorem slm_inv {M F w o off sz len c} (h : VR M F w (.slm o off sz len) c) : o < M.no ∧ ∃ cap, len ≤ cap ∧ c = .slice (some ⟨(M.obj o).1, (M.obj o).2 + off, none⟩) len cap := by
 cases h with | slm _ _ _ _ cap h1 h2 h3 => exact ⟨h1, cap, h2, rfl⟩
theorem slm_room {M F w o off sz len c} (h : VR M F w (.slm o off sz len) c) : o < M.no ∧ ∃ cap, len ≤ cap ∧ c = .slice (some ⟨(M.obj o).1, (M.obj o).2 + off, none⟩) len cap ∧ ∀ j, j < cap * sz → (w.cell? ⟨(M.obj o).1, (M.obj o).2 + off + j, none⟩).isSome = true ∧ w.frozen? ⟨(M.obj o).1, (M.obj o).2 + off + j, none⟩ = false := by
 cases h with | slm _ _ _ _ cap h1 h2 h3 => exact ⟨h1, cap, h2, rfl, h3⟩
theorem nilsl_inv {M F w c} (h : VR M F w .nilsl c) : c = .slice none 0 0 := by cases h; rfl
theorem afieldAddr_sound {P : Program} {t x f} {K : AV → Prop} (h : afieldAddr P t x f K) :
  ∃ v, K v ∧ ∀ M F w x', VR M F w x x' → ∃ v', (Instr.fieldAt t x' f).run P w = .ok v' w ∧ VR M F w v v' := by
 unfold afieldAddr at h
 split at h
 ·rename_i o off
  obtain ⟨i, hi, hK⟩ := h
  obtain ⟨fs, fd, hu, hf, hs, hne, ho, hg⟩ := fiOf_spec hi
  refine ⟨_, hK, fun M F w x' hx => ?_⟩
  obtain ⟨hlt, rfl⟩ := ptr_inv hx
  refine ⟨_, ?_, .ptr o (off + i.off) hlt⟩
  simp [Instr.fieldAt, run_underlying hu, hf, Instr.sureAddr, fieldPlace, run_sizeOf' hs, hne, ho, addr_add, Nat.add_assoc]
 ·rename_i φ cs
  obtain ⟨i, hi, hp⟩ := h
  obtain ⟨fs, fd, hu, hf, hs, hne, ho, hg⟩ := fiOf_spec hi
  obtain ⟨v, hK, hh⟩ := pv_sub (φ := φ) hp
  refine ⟨_, hK, fun M F w x' hx => ?_⟩
  obtain ⟨B, off, rfl⟩ := pv_inv hx
  refine ⟨_, ?_, hh M F w B off hx⟩
  simp [Instr.fieldAt, run_underlying hu, hf, Instr.sureAddr, fieldPlace, run_sizeOf' hs, hne, ho, addr_add]
 ·exact h.elim
theorem aindexAddr_sound {P : Program} {t x i} {K : AV → Prop} (h : aindexAddr P t x i K) :
  ∃ v, K v ∧ ∀ M F w x' i', VR M F w x x' → VR M F w i i' → ∃ v', (Instr.indexAt t x' i').run P w = .ok v' w ∧ VR M F w v v' := by
 unfold aindexAddr at h
 split at h
 ·rename_i φ sz xs k n
  obtain ⟨he, h0, v, hv, hK⟩ := h
  obtain ⟨e, hu, hs⟩ := elOf_spec he
  refine ⟨_, hK, fun M F w x' i' hx hi => ?_⟩
  rw [hi.int_inv]
  obtain ⟨a, cap, rfl, hcap⟩ := sl_inv hx
  refine ⟨_, ?_, hx.elem rfl hv⟩
  have hl : n < (xs.length : Int) := by
   have := (List.getElem?_eq_some_iff.1 hv).1
   omega
  simp [Instr.indexAt, asIntOf, run_underlying hu, h0, hl, run_sizeOf' hs]
 ·rename_i o off sz len k n
  obtain ⟨he, h0, hl, hK⟩ := h
  obtain ⟨e, hu, hs⟩ := elOf_spec he
  refine ⟨_, hK, fun M F w x' i' hx hi => ?_⟩
  rw [hi.int_inv]
  obtain ⟨hlt, cap, hcap, rfl⟩ := slm_inv hx
  refine ⟨_, ?_, .ptr o _ hlt⟩
  simp [Instr.indexAt, asIntOf, run_underlying hu, h0, hl, run_sizeOf' hs, addr_add, Nat.add_assoc]
 ·rename_i o off k n
  obtain ⟨l, s, g, har, h0, hl, hK⟩ := h
  obtain ⟨e, hu, hs, rfl⟩ := arOf_spec har
  refine ⟨_, hK, fun M F w x' i' hx hi => ?_⟩
  rw [hi.int_inv]
  obtain ⟨hlt, rfl⟩ := ptr_inv hx
  refine ⟨_, ?_, .ptr o _ hlt⟩
  simp [Instr.indexAt, Instr.sureAddr, asIntOf, run_underlying hu, h0, hl, run_sizeOf' hs, addr_add, Nat.add_assoc]
 ·rename_i φ cs k n
  obtain ⟨l, s, g, har, h0, hl, hp⟩ := h
  obtain ⟨e, hu, hs, rfl⟩ := arOf_spec har
  obtain ⟨v, hK, hh⟩ := pv_sub (φ := φ) hp
  refine ⟨_, hK, fun M F w x' i' hx hi => ?_⟩
  rw [hi.int_inv]
  obtain ⟨B, off, rfl⟩ := pv_inv hx
  refine ⟨_, ?_, hh M F w B off hx⟩
  simp [Instr.indexAt, Instr.sureAddr, asIntOf, run_underlying hu, h0, hl, run_sizeOf' hs, addr_add]
 ·exact h.elim
theorem acap_sound {P : Program} {t x} {K : AV → Prop} (h : acap P t x K) :
  ∃ v, K v ∧ ∀ M F w x' ty, VR M F w x x' → ∃ v', (Builtin.cap_ #[t] ty #[x']).run P w = .ok v' w ∧ VR M F w v v' := by
 unfold acap at h
 split at h
 ·obtain ⟨he, hK⟩ := h
  obtain ⟨sz, he⟩ := Option.isSome_iff_exists.1 he
  obtain ⟨e, hu, hs⟩ := elOf_spec he
  refine ⟨_, hK, fun M F w x' ty hx => ⟨.int .i64 0, ?_, .int ..⟩⟩
  rw [nilsl_inv hx]
  simp [Builtin.cap_, run_underlying hu, goInt]
 ·rename_i φ z xs
  obtain ⟨he, hf, hK⟩ := h
  obtain ⟨sz, he⟩ := Option.isSome_iff_exists.1 he
  obtain ⟨e, hu, hs⟩ := elOf_spec he
  refine ⟨_, hK, fun M F w x' ty hx => ⟨.int .i64 xs.length, ?_, .int ..⟩⟩
  cases hx with
  | sl _ _ _ B off cap cs hcap hlit hsz hm hc hv =>
   have := hlit hf
   subst this
   simp [Builtin.cap_, run_underlying hu, goInt]
  | slz => simp [Builtin.cap_, run_underlying hu, goInt]
 ·exact h.elim
theorem alen_sound {P : Program} {t x} {K : AV → Prop} (h : alen P t x K) :
  ∃ v, K v ∧ ∀ M F w x' ty, VR M F w x x' → ∃ v', (Builtin.len_ #[t] ty #[x']).run P w = .ok v' w ∧ VR M F w v v' := by
 unfold alen at h
 split at h
 ·obtain ⟨hs, hK⟩ := h
  refine ⟨_, hK, fun M F w x' ty hx => ?_⟩
  obtain ⟨b, rfl, rfl⟩ := hx.str_inv
  refine ⟨.int .i64 b.data.toList.length, ?_, .int ..⟩
  simp [Builtin.len_, run_underlying (isStr_spec hs), goInt]
 ·obtain ⟨he, hK⟩ := h
  obtain ⟨sz, he⟩ := Option.isSome_iff_exists.1 he
  obtain ⟨e, hu, hs⟩ := elOf_spec he
  refine ⟨_, hK, fun M F w x' ty hx => ⟨.int .i64 0, ?_, .int ..⟩⟩
  rw [nilsl_inv hx]
  simp [Builtin.len_, run_underlying hu, goInt]
 ·rename_i φ z xs
  obtain ⟨he, hK⟩ := h
  obtain ⟨sz, he⟩ := Option.isSome_iff_exists.1 he
  obtain ⟨e, hu, hs⟩ := elOf_spec he
  refine ⟨_, hK, fun M F w x' ty hx => ⟨.int .i64 xs.length, ?_, .int ..⟩⟩
  obtain ⟨a, cap, rfl, _⟩ := sl_inv hx
  simp [Builtin.len_, run_underlying hu, goInt]
 ·rename_i o off z len
  obtain ⟨he, hK⟩ := h
  obtain ⟨sz, he⟩ := Option.isSome_iff_exists.1 he
  obtain ⟨e, hu, hs⟩ := elOf_spec he
  refine ⟨_, hK, fun M F w x' ty hx => ⟨.int .i64 len, ?_, .int ..⟩⟩
  obtain ⟨_, cap, _, rfl⟩ := slm_inv hx
  simp [Builtin.len_, run_underlying hu, goInt]
 ·exact h.elim
end Go.Abs
namespace Go.Abs
open Go
theorem optInt_some {α : Operand → AV} {d n : Int} {x : Operand} (h : optInt α d (some x) = some n) : ∃ k, α x = .int k n := by
 unfold optInt at h
 split at h
 ·rename_i h'; cases h'
 ·rename_i y hy
  cases hy
  split at h
  ·rename_i k m hx; simp at h; subst h; exact ⟨k, hx⟩
  ·cases h
theorem run_sliceBound {P : Program} {w : World} {k n} {y : Nat} {code} (h0 : 0 ≤ n) (h1 : n ≤ (y : Int)) :
  (Instr.sliceBound (.int k n) y code).run P w = .ok n.toNat w := by
 simp [Instr.sliceBound, asIntOf, h0, h1]
theorem run_sliceBounds {P : Program} {M F w} {α : Operand → AV} {ρ : Operand → Value} {isS : Bool} {len cap : Nat} {lo hi mx : Option Operand} {l h m : Int}
  (hl : optInt α 0 lo = some l) (hh : optInt α len hi = some h) (hm : optInt α len mx = some m) (b0 : 0 ≤ l) (b1 : l ≤ h) (b2 : h ≤ m) (b3 : m ≤ len) (hc : len ≤ cap)
  (hmx : mx.isSome → hi.isSome) (vl : ∀ x, lo = some x → VR M F w (α x) (ρ x)) (vh : ∀ x, hi = some x → VR M F w (α x) (ρ x)) (vm : ∀ x, mx = some x → VR M F w (α x) (ρ x)) :
  (Instr.sliceBounds isS len cap (lo.map ρ) (hi.map ρ) (mx.map ρ)).run P w = .ok (l.toNat, h.toNat, if mx.isSome then m.toNat else cap) w := by
 have e1 : ∀ x, lo = some x → ∃ k, ρ x = .int k l := by
  rintro x rfl; obtain ⟨k, hk⟩ := optInt_some hl; have := vl x rfl; rw [hk] at this; exact ⟨k, this.int_inv⟩
 have e2 : ∀ x, hi = some x → ∃ k, ρ x = .int k h := by
  rintro x rfl; obtain ⟨k, hk⟩ := optInt_some hh; have := vh x rfl; rw [hk] at this; exact ⟨k, this.int_inv⟩
 have e3 : ∀ x, mx = some x → ∃ k, ρ x = .int k m := by
  rintro x rfl; obtain ⟨k, hk⟩ := optInt_some hm; have := vm x rfl; rw [hk] at this; exact ⟨k, this.int_inv⟩
 have f1 : lo = none → l = 0 := by rintro rfl; simp [optInt] at hl; omega
 have f2 : hi = none → h = len := by rintro rfl; simp [optInt] at hh; omega
 cases mx with
 | none =>
  cases hi with
  | none =>
   have g2 := f2 rfl
   cases lo with
   | none =>
    have g1 := f1 rfl
    simp [Instr.sliceBounds, g1, g2]
   | some x =>
    obtain ⟨k, hk⟩ := e1 x rfl
    simp [Instr.sliceBounds, g2, hk, run_sliceBound b0 (show l ≤ ((len : Nat) : Int) by omega)]
  | some y =>
   obtain ⟨ky, hky⟩ := e2 y rfl
   have r2 := fun c => run_sliceBound (P := P) (w := w) (k := ky) (n := h) (y := cap) (code := c) (by omega) (by omega)
   cases lo with
   | none =>
    have g1 := f1 rfl
    simp [Instr.sliceBounds, g1, hky, r2]
   | some x =>
    obtain ⟨k, hk⟩ := e1 x rfl
    simp [Instr.sliceBounds, hky, hk, r2, run_sliceBound b0 (show l ≤ ((h.toNat : Nat) : Int) by omega)]
 | some z =>
  obtain ⟨kz, hkz⟩ := e3 z rfl
  have r3 := fun c => run_sliceBound (P := P) (w := w) (k := kz) (n := m) (y := cap) (code := c) (by omega) (by omega)
  cases hi with
  | none => simp at hmx
  | some y =>
   obtain ⟨ky, hky⟩ := e2 y rfl
   have r2 := fun c => run_sliceBound (P := P) (w := w) (k := ky) (n := h) (y := m.toNat) (code := c) (by omega) (by omega)
   cases lo with
   | none =>
    have g1 := f1 rfl
    simp [Instr.sliceBounds, g1, hky, hkz, r2, r3]
   | some x =>
    obtain ⟨k, hk⟩ := e1 x rfl
    simp [Instr.sliceBounds, hky, hkz, hk, r2, r3, run_sliceBound b0 (show l ≤ ((h.toNat : Nat) : Int) by omega)]
theorem Mem.cut {M F w φ B off n b} (h : Mem M F w φ B off n) : Mem M F w (cut φ b) B off n := by
 cases φ <;> exact h
theorem readable_cut {F φ b} (h : Readable F (cut φ b)) : Readable F φ := by
 cases φ <;> exact h
theorem full_cut {φ b} : (cut φ b).full = b := by cases φ <;> rfl
theorem Mem.zero {M F w φ B off n off'} (h : Mem M F w φ B off n) : Mem M F w φ B off' 0 := by
 cases φ with
 | stat b => exact h
 | fam f b => exact ⟨h.1, fun hd => ⟨(h.2 hd).1, fun j hj => absurd hj (Nat.not_lt_zero _)⟩⟩
theorem flat_take (sz : Nat) : ∀ (xs : List AV) (i : Nat), (∀ x ∈ xs, x.cells.length = sz) → (flat xs).take (i * sz) = flat (xs.take i)
 | xs, 0, _ => by simp [flat]
 | [], i + 1, _ => by simp [flat]
 | x :: xs, i + 1, h => by
  have h1 := h x (by simp)
  have h2 := flat_take sz xs i (fun y hy => h y (by simp [hy]))
  simp only [flat, List.flatMap_cons, List.take_succ_cons] at *
  rw [← h2, Nat.add_mul, Nat.one_mul, Nat.add_comm, ← h1, List.take_append]
  simp
  exact List.take_of_length_le (by omega)
theorem VR.sub {M F w φ sz xs ad c cap} (hv : VR M F w (.sl φ sz xs) c) (hcc : c = .slice (some ad) xs.length cap) {l h m : Nat} (hlh : l ≤ h) (hhm : h ≤ m) (hm : m ≤ cap) (hx : h ≤ xs.length)
  {b : Bool} (hlit : b = true → m = h) :
  VR M F w (.sl (cut φ b) sz ((xs.take h).drop l)) (.slice (if m = l then some ad else some (ad.add (l * sz))) (h - l) (m - l)) := by
 cases hv with
 | slz b' sz' a' =>
  cases hcc
  have e1 : m = 0 := by omega
  have e2 : l = 0 := by omega
  have e3 : h = 0 := by omega
  subst e1 e2 e3
  cases b' <;> simpa [cut] using VR.slz _ sz ad
 | sl _ _ _ B off _ cs hcap hl hsz hmem hc hv' =>
 cases hcc
 rw [addr_add]
 have hlen : ((xs.take h).drop l).length = h - l := by simp; omega
 have hflat : flat ((xs.take h).drop l) = ((flat xs).take (h * sz)).drop (l * sz) := by
  rw [flat_take sz xs h hsz, flat_drop sz _ l (fun x hx => hsz x (List.mem_of_mem_take hx))]
 have hfl : (flat xs).length = xs.length * sz := flat_length sz xs hsz
 have hsz' : ∀ x ∈ (xs.take h).drop l, x.cells.length = sz := fun x hx => hsz x (List.mem_of_mem_take (List.mem_of_mem_drop hx))
 have hcap' : ((xs.take h).drop l).length ≤ m - l := by rw [hlen]; omega
 have hlit' : (cut φ b).full = true → m - l = ((xs.take h).drop l).length := by
  intro e
  rw [full_cut] at e
  rw [hlen, hlit e]
 rw [← hlen]
 split
 ·rename_i hml
  have hz : (xs.take h).drop l = [] := by apply List.eq_nil_of_length_eq_zero; rw [hlen]; omega
  have hcz : m - l = 0 := by omega
  rw [hcz, hz]
  refine .sl _ _ _ B off 0 cs (by simp) (by intro; simp) (by simp) ?_ (fun _ j hj => by simp [flat] at hj) (fun _ j hj => by simp [flat] at hj)
  rw [Nat.zero_mul]
  exact hmem.cut.zero
 ·refine .sl _ _ _ B (off + l * sz) (m - l) (fun j => cs (l * sz + j)) hcap' hlit' hsz' ?_ (fun hr j hj => ?_) (fun hr j hj => ?_)
  ·refine hmem.cut.sub ?_
   have : l * sz + (m - l) * sz = m * sz := by rw [← Nat.add_mul]; congr 1; omega
   rw [this]; exact Nat.mul_le_mul_right _ hm
  ·rw [Nat.add_assoc]
   refine hc (readable_cut hr) (l * sz + j) ?_
   rw [hflat] at hj; simp at hj; omega
  ·have hj2 := hj
   rw [hflat] at hj2
   simp at hj2
   have h3 := hv' (readable_cut hr) (l * sz + j) (by omega)
   have : (flat ((xs.take h).drop l))[j] = (flat xs)[l * sz + j]'(by omega) := by
    simp only [hflat, List.getElem_drop, List.getElem_take]
   rw [this]; exact h3
theorem aslice_sound {P : Program} {α t x lo hi mx} {K : AV → Prop} (h : aslice P α t x lo hi mx K) :
  ∃ v, K v ∧ ∀ M F w x' ρ, VR M F w x x' → (∀ y, lo = some y → VR M F w (α y) (ρ y)) → (∀ y, hi = some y → VR M F w (α y) (ρ y)) → (∀ y, mx = some y → VR M F w (α y) (ρ y)) →
   ∃ v', (Instr.sliceAt t x' (lo.map ρ) (hi.map ρ) (mx.map ρ)).run P w = .ok v' w ∧ VR M F w v v' := by
 unfold aslice at h
 split at h
 ·rename_i s
  obtain ⟨hs, rfl, l, hh, m, h1, h2, h3, b0, b1, b2, b3, hmx, hK⟩ := h
  refine ⟨_, hK, fun M F w x' ρ hx vl vh vm => ?_⟩
  obtain ⟨b, rfl, rfl⟩ := hx.str_inv
  have hsz : b.data.toList.length = b.size := rfl
  rw [hsz] at h2 h3 b3
  have hb := run_sliceBounds (P := P) (isS := false) (cap := b.size) h1 h2 h3 b0 b1 b2 b3 (Nat.le_refl _) hmx vl vh vm
  refine ⟨.string (b.extract l.toNat hh.toNat), ?_, VR.str' ?_⟩
  ·simp only [Option.map_none] at hb
   simp [Instr.sliceAt, Instr.slice, run_underlying (isStr_spec hs), hb]
  ·simp [ByteArray.data_extract, List.drop_take]
 ·obtain ⟨he, l, hh, m, h1, h2, h3, b0, b1, b2, b3, hmx, hK⟩ := h
  obtain ⟨sz, he⟩ := Option.isSome_iff_exists.1 he
  obtain ⟨e, hu, hs⟩ := elOf_spec he
  refine ⟨_, hK, fun M F w x' ρ hx vl vh vm => ?_⟩
  rw [nilsl_inv hx]
  have hb := run_sliceBounds (P := P) (isS := true) (cap := 0) h1 h2 h3 b0 b1 b2 b3 (Nat.le_refl _) hmx vl vh vm
  have z1 : l.toNat = 0 := by omega
  have z2 : hh.toNat = 0 := by omega
  have z3 : m.toNat = 0 := by omega
  refine ⟨.slice none 0 0, ?_, .nilsl⟩
  rw [z1, z2, z3] at hb
  simp [Instr.sliceAt, Instr.slice, run_underlying hu, hb, run_sizeOf' hs]
 ·rename_i φ sz xs
  obtain ⟨he, l, hh, m, h1, h2, h3, b0, b1, b2, b3, hmx, hK⟩ := h
  obtain ⟨e, hu, hs⟩ := elOf_spec he
  refine ⟨_, hK, fun M F w x' ρ hx vl vh vm => ?_⟩
  obtain ⟨ad, cap, rfl, hcap⟩ := sl_inv hx
  have hb := run_sliceBounds (P := P) (isS := true) (cap := cap) h1 h2 h3 b0 b1 b2 b3 hcap hmx vl vh vm
  refine ⟨_, ?_, hx.sub rfl (l := l.toNat) (h := hh.toNat) (m := if mx.isSome then m.toNat else cap) (by omega) (by split <;> omega) (by split <;> omega) (by omega) ?_⟩
  ·simp [Instr.sliceAt, Instr.slice, run_underlying hu, hb, run_sizeOf' hs]
  ·intro hb'
   split at hb'
   ·rename_i hm'; rw [if_pos hm']; simpa using hb'
   ·rename_i hm'
    rw [if_neg hm']
    simp at hb'
    have hl : cap = xs.length := by cases hx with | slz => rfl | sl _ _ _ _ _ _ _ _ hl => exact hl hb'.1
    omega
 ·rename_i o off sz len
  obtain ⟨he, rfl, l, hh, m, h1, h2, h3, b0, b1, b2, b3, hmx, hz, hK⟩ := h
  obtain ⟨e, hu, hs⟩ := elOf_spec he
  refine ⟨_, hK, fun M F w x' ρ hx vl vh vm => ?_⟩
  obtain ⟨hlt, cap, hcap, rfl, hroom⟩ := slm_room hx
  have hb := run_sliceBounds (P := P) (isS := true) (cap := cap) h1 h2 h3 b0 b1 b2 b3 hcap hmx vl vh vm
  have hadd : (if cap = l.toNat then (some ⟨(M.obj o).1, (M.obj o).2 + off, none⟩ : Option Addr) else some ⟨(M.obj o).1, (M.obj o).2 + (off + l.toNat * sz), none⟩) = some ⟨(M.obj o).1, (M.obj o).2 + (off + l.toNat * sz), none⟩ := by
   split
   ·rename_i hc
    have : l.toNat = 0 := by omega
    rw [this]; simp
   ·rfl
  refine ⟨.slice (some ⟨(M.obj o).1, (M.obj o).2 + (off + l.toNat * sz), none⟩) (hh.toNat - l.toNat) (cap - l.toNat), ?_, .slm o _ sz _ _ hlt (by omega) fun j hj => ?_⟩
  ·simp only [Option.map_none] at hb
   simp only [Instr.sliceAt, Instr.slice, Sem.run_bind, run_underlying hu, Result.andThen_ok, hb, run_sizeOf' hs, Sem.run_pure, Option.map_some, addr_add, Nat.add_assoc, Option.map_none]
   simp [hadd]
  ·have e : (M.obj o).2 + (off + l.toNat * sz) + j = (M.obj o).2 + off + (l.toNat * sz + j) := by omega
   rw [e]
   exact hroom _ (by rw [Nat.sub_mul] at hj; omega)
 ·exact h.elim
theorem VR.cells_rel {M F w v c} (h : VR M F w v c) (hk : v.known = true) : c.cells.size = v.cells.length ∧ ∀ j (h : j < v.cells.length) (h' : j < c.cells.size), VR M F w v.cells[j] c.cells[j] := by
 have single : ∀ {v : AV} {c : Value}, VR M F w v c → v.cells = [v] → c.cells = #[c] → c.cells.size = v.cells.length ∧ ∀ j (h : j < v.cells.length) (h' : j < c.cells.size), VR M F w v.cells[j] c.cells[j] := by
  intro v c h e1 e2
  refine ⟨by rw [e1, e2]; rfl, fun j hj hj' => ?_⟩
  have : j = 0 := by rw [e1] at hj; simp at hj; omega
  subst this
  simp only [e1, e2]
  simpa using h
 cases h with
 | undef => simp [AV.known] at hk
 | agg cs A ha va => exact ⟨ha, fun j h h' => va j h h'⟩
 | bool => exact single (.bool ..) rfl rfl
 | int => exact single (.int ..) rfl rfl
 | str => exact single (.str ..) rfl rfl
 | nilp => exact single .nilp rfl rfl
 | ptr o off h => exact single (.ptr o off h) rfl rfl
 | pv φ v B off cs hm hc hv => exact single (.pv φ v B off cs hm hc hv) rfl rfl
 | nilsl => exact single .nilsl rfl rfl
 | slz b sz a => exact single (.slz b sz a) rfl rfl
 | sl φ sz xs B off cap cs h1 h2 h3 h4 h5 h6 => exact single (.sl φ sz xs B off cap cs h1 h2 h3 h4 h5 h6) rfl rfl
 | slm o off sz len cap h h' hr => exact single (.slm o off sz len cap h h' hr) rfl rfl
 | fn f a b A B h1 h2 h3 h4 => exact single (.fn f a b A B h1 h2 h3 h4) rfl rfl
 | nilfn => exact single .nilfn rfl rfl
 | iface t v c h => exact single (.iface t v c h) rfl rfl
 | nilif => exact single .nilif rfl rfl
 | tuple vs A h1 h2 => exact single (.tuple vs A h1 h2) rfl rfl
def Cells (M : Mp) (F : Nat → FSt) (w : World) (cs : List AV) (A : Array Value) : Prop :=
 A.size = cs.length ∧ ∀ (j : Nat) v, cs[j]? = some v → ∃ c, A[j]? = some c ∧ VR M F w v c
theorem Cells.of {M F w} {cs : List AV} {A : Array Value} (h : A.size = cs.length) (hv : ∀ j (h : j < cs.length) (h' : j < A.size), VR M F w cs[j] A[j]) : Cells M F w cs A := by
 refine ⟨h, fun j v hj => ?_⟩
 obtain ⟨h1, rfl⟩ := List.getElem?_eq_some_iff.1 hj
 exact ⟨A[j], Array.getElem?_eq_getElem (by omega), hv j h1 (by omega)⟩
theorem Cells.get {M F w} {cs : List AV} {A : Array Value} (h : Cells M F w cs A) : ∀ j (h : j < cs.length) (h' : j < A.size), VR M F w cs[j] A[j] := by
 intro j h1 h2
 obtain ⟨c, h3, h4⟩ := h.2 j _ (List.getElem?_eq_getElem h1)
 rw [Array.getElem?_eq_getElem h2] at h3
 cases h3
 exact h4
theorem splice_length {cs vs : List AV} {off : Nat} (h : off + vs.length ≤ cs.length) : (splice cs off vs).length = cs.length := by
 simp [splice]; omega
theorem splice_get {cs vs : List AV} {off j : Nat} (h : off + vs.length ≤ cs.length) :
  (splice cs off vs)[j]? = if off ≤ j ∧ j < off + vs.length then vs[j - off]? else cs[j]? := by
 unfold splice
 by_cases h1 : j < off
 ·rw [List.append_assoc, List.getElem?_append_left (by simp; omega), List.getElem?_take, if_pos h1, if_neg (by omega)]
 ·by_cases h2 : j < off + vs.length
  ·rw [if_pos ⟨by omega, h2⟩, List.getElem?_append_left (by simp; omega), List.getElem?_append_right (by simp; omega)]
   congr 1; simp; omega
  ·rw [if_neg (by omega), List.getElem?_append_right (by simp; omega), List.getElem?_drop]
   congr 1; simp; omega
def put1 (A : Array Value) (off : Nat) (vs : Array Value) : Array Value := vs.zipIdx.foldl (fun cs (c, j) => cs.setIfInBounds (off + j) c) A
theorem put1_aux (off : Nat) : ∀ (l : List Value) (k : Nat) (A : Array Value),
  ((l.zipIdx k).foldl (fun cs (c, j) => cs.setIfInBounds (off + j) c) A).size = A.size ∧
  ∀ j, ((l.zipIdx k).foldl (fun cs (c, j) => cs.setIfInBounds (off + j) c) A)[j]? = if off + k ≤ j ∧ j < off + k + l.length ∧ j < A.size then l[j - (off + k)]? else A[j]? := by
 intro l
 induction l with
 | nil => intro k A; simp; intro j h1 h2; omega
 | cons c l ih =>
  intro k A
  simp only [List.zipIdx_cons, List.foldl_cons]
  obtain ⟨h1, h2⟩ := ih (k + 1) (A.setIfInBounds (off + k) c)
  refine ⟨by rw [h1]; simp, fun j => ?_⟩
  rw [h2 j]
  simp only [Array.size_setIfInBounds, List.length_cons]
  by_cases e : j = off + k
  ·subst e
   rw [if_neg (by omega)]
   by_cases hb : off + k < A.size
   ·rw [if_pos (by omega), Array.getElem?_setIfInBounds_self_of_lt hb]; simp
   ·rw [if_neg (by omega), Array.getElem?_setIfInBounds_self]; simp [hb]
  ·rw [Array.getElem?_setIfInBounds_ne (by omega)]
   by_cases hc : off + (k + 1) ≤ j ∧ j < off + (k + 1) + l.length ∧ j < A.size
   ·rw [if_pos hc, if_pos (by omega)]
    rw [show j - (off + k) = (j - (off + (k + 1))) + 1 by omega, List.getElem?_cons_succ]
   ·rw [if_neg hc, if_neg (by omega)]
theorem put1_spec (A : Array Value) (off : Nat) (vs : Array Value) (h : off + vs.size ≤ A.size) :
  (put1 A off vs).size = A.size ∧ ∀ j, (put1 A off vs)[j]? = if off ≤ j ∧ j < off + vs.size then vs[j - off]? else A[j]? := by
 have := put1_aux off vs.toList 0 A
 have e : put1 A off vs = (vs.toList.zipIdx 0).foldl (fun cs (c, j) => cs.setIfInBounds (off + j) c) A := by
  unfold put1
  rw [← Array.foldl_toList, Array.toList_zipIdx]
 rw [e]
 refine ⟨this.1, fun j => ?_⟩
 rw [this.2 j]
 simp only [Nat.add_zero, Array.length_toList, Array.getElem?_toList]
 by_cases hc : off ≤ j ∧ j < off + vs.size
 ·rw [if_pos hc, if_pos (by omega)]
 ·rw [if_neg hc, if_neg (by omega)]
theorem Cells.splice {M F w} {cs vs : List AV} {A B : Array Value} (h : Cells M F w cs A) (hv : Cells M F w vs B) {off : Nat} (hl : off + vs.length ≤ cs.length) :
  Cells M F w (splice cs off vs) (put1 A off B) := by
 obtain ⟨h1, h2⟩ := put1_spec A off B (by rw [hv.1, h.1]; exact hl)
 refine ⟨by rw [h1, splice_length hl, h.1], fun j v hj => ?_⟩
 rw [splice_get hl] at hj
 rw [h2 j, hv.1]
 split at hj
 ·rename_i hc; rw [if_pos hc]; exact hv.2 _ _ hj
 ·rename_i hc; rw [if_neg hc]; exact h.2 _ _ hj
theorem fill_cons {place : Nat → Option (Nat × Nat)} {A : Array Value} {i : Nat} {v : Value} {rest : List (Nat × Value)} {off size : Nat} (hp : place i = some (off, size)) (hs : v.cells.size = size) (hb : off + size ≤ A.size) :
  Instr.fill place A ((i, v) :: rest) = Instr.fill place (put1 A off v.cells) rest := by
 simp only [Instr.fill, hp]
 rw [if_neg (by simp [hs]; omega)]
 rfl
theorem fillS_sound {P : Program} {t α} {place : Nat → Option (Nat × Nat)} (hplace : ∀ i f, fiOf P t i = some f → place i = some (f.off, f.size)) :
  ∀ (parts : List (Nat × Operand)) (cs : List AV) (K : List AV → Prop), fillS P t α parts cs K →
   ∃ cs', K cs' ∧ ∀ M F w (ρ : Operand → Value) A, Cells M F w cs A → (∀ x ∈ parts, VR M F w (α x.2) (ρ x.2)) → ∃ A', Instr.fill place A (parts.map fun x => (x.1, ρ x.2)) = some A' ∧ Cells M F w cs' A' := by
 intro parts
 induction parts with
 | nil => intro cs K h; exact ⟨cs, h, fun M F w ρ A hA _ => ⟨A, rfl, hA⟩⟩
 | cons p parts ih =>
  obtain ⟨i, x⟩ := p
  intro cs K h
  obtain ⟨f, hf, hk, hsz, hb, h⟩ := h
  obtain ⟨cs', hK, hh⟩ := ih _ K h
  refine ⟨cs', hK, fun M F w ρ A hA hl => ?_⟩
  have hx := hl (i, x) (by simp)
  obtain ⟨c1, c2⟩ := hx.cells_rel hk
  obtain ⟨A', h1, h2⟩ := hh M F w ρ (put1 A f.off (ρ x).cells) (hA.splice (.of c1 c2) (by simp only at hsz ⊢; rw [hsz]; exact hb)) (fun y hy => hl y (by simp [hy]))
  refine ⟨A', ?_, h2⟩
  rw [List.map_cons, fill_cons (hplace i f hf) (by simp only; rw [c1, hsz]) (by rw [hA.1]; exact hb)]
  exact h1
theorem zeroOf_spec {P : Program} {t z} (h : zeroOf P t = some z) (w : World) : ∃ v, (zeroValue t).run P w = .ok v w ∧ z = ofVal v := by
 unfold zeroOf at h
 cases hi : P.info? t with
 | none => simp [hi] at h
 | some i =>
  cases hz : i.zero with
  | none => simp [hi, hz] at h
  | some v => simp [hi, hz] at h; exact ⟨v, by simp [zeroValue, typeInfo, hi, hz], h.symm⟩
theorem isStruct_spec {P : Program} {t} (h : isStruct P t = true) : ∃ fs, P.underlying t = some (.struct fs) := by
 unfold isStruct at h
 split at h
 ·exact ⟨_, ‹_›⟩
 ·cases h
theorem run_mapM_sizes {P : Program} {w : World} : ∀ (fs : List Field), (∀ f ∈ fs, ∃ n, szOf P f.type = some n) →
  (fs.mapM fun f => (do pure (f.offset, ← sizeOf f.type) : Sem (Nat × Nat))).run P w = .ok (fs.map fun f => (f.offset, (szOf P f.type).getD 0)) w := by
 intro fs
 induction fs with
 | nil => intro _; simp
 | cons f fs ih =>
  intro h
  obtain ⟨n, hn⟩ := h f (by simp)
  have := ih (fun g hg => h g (by simp [hg]))
  simp only [List.mapM_cons, Sem.run_bind, run_sizeOf' hn, Result.andThen_ok, Sem.run_pure, this, List.map_cons, hn, Option.getD_some]
theorem abuild_sound {P : Program} {t α parts} {K : AV → Prop} (h : abuild P t α parts K) :
  ∃ v, K v ∧ ∀ M F w (ρ : Operand → Value), (∀ x ∈ parts, VR M F w (α x.2) (ρ x.2)) → ∃ v', (Instr.build t (parts.map fun x => (x.1, ρ x.2)).toArray).run P w = .ok v' w ∧ VR M F w v v' := by
 obtain ⟨hs, z, hz, hzk, hf⟩ := h
 obtain ⟨fs, hu⟩ := isStruct_spec hs.1
 have hsized : ∀ f ∈ fs.toList, ∃ n, szOf P f.type = some n := by
  have := hs.2
  simp only [sized, hu, List.all_eq_true] at this
  exact fun f hf => Option.isSome_iff_exists.1 (this f hf)
 have hplace : ∀ i f, fiOf P t i = some f → (fs.toList.map fun f => (f.offset, (szOf P f.type).getD 0)).toArray[i]? = some (f.off, f.size) := by
  intro i f hf
  obtain ⟨fs', fd, hu', hfd, hs', hne, ho, hg⟩ := fiOf_spec hf
  rw [hu] at hu'
  cases hu'
  simp [hfd, hs', ho]
 obtain ⟨cs', hK, hh⟩ := fillS_sound hplace parts z.cells _ hf
 refine ⟨_, hK, fun M F w ρ hl => ?_⟩
 obtain ⟨zv, hzv, rfl⟩ := zeroOf_spec hz w
 obtain ⟨c1, c2⟩ := (ofVal_VR M F w zv).cells_rel hzk
 obtain ⟨A', h1, h2⟩ := hh M F w ρ zv.cells (.of c1 c2) hl
 refine ⟨.agg A', ?_, .agg _ _ h2.1 h2.get⟩
 have hm : (fs.mapM fun f => (do pure (f.offset, ← sizeOf f.type) : Sem (Nat × Nat))).run P w = .ok (fs.toList.map fun f => (f.offset, (szOf P f.type).getD 0)).toArray w := by
  rw [Array.mapM_eq_mapM_toList, Sem.run_map, run_mapM_sizes fs.toList hsized]
  rfl
 simp only [Instr.build, Sem.run_bind, hzv, Result.andThen_ok, run_underlying hu, hm, h1]
 simp
theorem flat_set {xs : List AV} {sz i : Nat} {v : AV} (hsz : ∀ x ∈ xs, x.cells.length = sz) (hi : i < xs.length) (hv : v.cells.length = sz) :
  flat (xs.set i v) = splice (flat xs) (i * sz) v.cells := by
 rw [List.set_eq_take_append_cons_drop, if_pos hi]
 unfold splice
 rw [flat_take sz xs i hsz, hv, show i * sz + sz = (i + 1) * sz by rw [Nat.add_mul, Nat.one_mul], flat_drop sz xs (i + 1) hsz]
 simp [flat]
theorem flat_replicate_get {z : AV} {sz : Nat} (hz : z.cells.length = sz) : ∀ (n j : Nat), j < n * sz → (flat (List.replicate n z))[j]? = z.cells[j % sz]? := by
 intro n
 induction n with
 | zero => intro j h; omega
 | succ n ih =>
  intro j h
  simp only [flat, List.replicate_succ, List.flatMap_cons]
  by_cases hj : j < sz
  ·rw [List.getElem?_append_left (by omega), Nat.mod_eq_of_lt hj]
  ·rw [List.getElem?_append_right (by omega), hz]
   have := ih (j - sz) (by rw [Nat.add_mul, Nat.one_mul] at h; omega)
   simp only [flat] at this
   rw [this, Nat.mod_eq_sub_mod (a := j) (by omega)]
theorem Cells.zeros {M F w} {z : AV} {zv : Value} (h : VR M F w z zv) (hk : z.known = true) {sz : Nat} (hz : z.cells.length = sz) (n : Nat) :
  Cells M F w (flat (List.replicate n z)) ((Array.range (n * sz)).map fun i => zv.cells[i % zv.cells.size]!) := by
 obtain ⟨c1, c2⟩ := h.cells_rel hk
 refine ⟨by simp only [Array.size_map, Array.size_range]; rw [flat_length sz _ (fun x hx => by rw [List.eq_of_mem_replicate hx]; exact hz)]; simp, fun j v hj => ?_⟩
 have hjl : j < n * sz := by
  have := (List.getElem?_eq_some_iff.1 hj).1
  rw [flat_length sz _ (fun x hx => by rw [List.eq_of_mem_replicate hx]; exact hz)] at this
  simpa using this
 rw [flat_replicate_get hz n j hjl] at hj
 obtain ⟨h1, h2⟩ := List.getElem?_eq_some_iff.1 hj
 refine ⟨zv.cells[j % sz]'(by omega), ?_, ?_⟩
 ·rw [Array.getElem?_map, Array.getElem?_range, if_pos hjl]
  simp only [Option.map_some, Option.some.injEq]
  have e : zv.cells.size = sz := by rw [c1, hz]
  simp only [e]
  rw [getElem!_pos]
 ·have := c2 (j % sz) h1 (by omega)
  rw [h2] at this; exact this
theorem fillA_sound {α n sz} : ∀ (parts : List (Nat × Operand)) (xs : List AV) (K : List AV → Prop), xs.length = n → (∀ x ∈ xs, x.cells.length = sz) → fillA n sz α parts xs K →
   ∃ xs', K xs' ∧ xs'.length = n ∧ (∀ x ∈ xs', x.cells.length = sz) ∧ ∀ M F w (ρ : Operand → Value) A, Cells M F w (flat xs) A → (∀ x ∈ parts, VR M F w (α x.2) (ρ x.2)) →
    ∃ A', Instr.fill (fun i => some (i * sz, sz)) A (parts.map fun x => (x.1, ρ x.2)) = some A' ∧ Cells M F w (flat xs') A' := by
 intro parts
 induction parts with
 | nil => intro xs K hl hs h; exact ⟨xs, h, hl, hs, fun M F w ρ A hA _ => ⟨A, rfl, hA⟩⟩
 | cons p parts ih =>
  obtain ⟨i, x⟩ := p
  intro xs K hl hs h
  obtain ⟨hi, hk, hsz, h⟩ := h
  obtain ⟨xs', hK, e1, e2, hh⟩ := ih (xs.set i (α x)) K (by simpa using hl) (fun y hy => by rcases List.mem_or_eq_of_mem_set hy with h' | h'; exact hs y h'; rw [h', hsz]) h
  refine ⟨xs', hK, e1, e2, fun M F w ρ A hA hv => ?_⟩
  have hx := hv (i, x) (by simp)
  obtain ⟨c1, c2⟩ := hx.cells_rel hk
  have hbound : i * sz + sz ≤ n * sz := by
   have : (i + 1) * sz ≤ n * sz := Nat.mul_le_mul_right _ hi
   rwa [Nat.add_mul, Nat.one_mul] at this
  have hfl := flat_length sz xs hs
  have hsp := flat_set (v := α x) hs (by omega : i < xs.length) hsz
  obtain ⟨A', h1, h2⟩ := hh M F w ρ (put1 A (i * sz) (ρ x).cells) (by rw [hsp]; exact hA.splice (.of c1 c2) (by rw [hsz, hfl, hl]; exact hbound)) (fun y hy => hv y (by simp [hy]))
  refine ⟨A', ?_, h2⟩
  rw [List.map_cons, fill_cons rfl (by simp only; rw [c1, hsz]) (by rw [hA.1, hfl, hl]; exact hbound)]
  exact h1
theorem heap_push_lt {w : World} {o : Obj} {B : Nat} (h : B < w.heap.size) : ({ w with heap := w.heap.push o } : World).heap[B]? = w.heap[B]? := by
 simp [Array.getElem?_push, Nat.ne_of_lt h]
def Mp.newRole (M : Mp) (B : Nat) (r : Role) : Mp := { M with role := upd M.role B (some r) }
theorem ext_push {M F} {w : World} (hM : ∀ B r, M.role B = some r → B < w.heap.size) (o : Obj) (r : Role) : Ext M F w (M.newRole w.heap.size r) F { w with heap := w.heap.push o } where
 io := ⟨rfl, rfl, rfl⟩
 no := Nat.le_refl _
 nf := Nat.le_refl _
 obj _ _ := rfl
 dead _ _ h := h
 spoil _ _ h := by rw [h]; simp
 size := by simp
 shape B c e z h := by
  have hB : B < w.heap.size := (Array.getElem?_eq_some_iff.1 h).1
  exact ⟨c, by rw [heap_push_lt hB]; exact h, rfl⟩
 stat B h := by
  have hB := hM B _ h
  exact ⟨by simp only [Mp.newRole]; rw [upd_ne _ _ (by omega)]; exact h, heap_push_lt hB⟩
 free B hB h := ⟨by simp only [Mp.newRole]; rw [upd_ne _ _ (by omega)]; exact h, heap_push_lt hB⟩
 famr B f hf h _ := by
  have hB := hM B _ h
  simp only [Mp.newRole]; rw [upd_ne _ _ (by omega)]; exact h
 famc B f hf h _ := heap_push_lt (hM B _ h)
theorem sim_push {M σ} {w : World} (S : Sim M σ w) (o : Obj) (r : Role) : Sim (M.newRole w.heap.size r) σ { w with heap := w.heap.push o } where
 no := S.no
 nf := S.nf
 role B r' h := by
  simp only [Mp.newRole, upd] at h
  split at h
  ·simp; omega
  ·have := S.role B r' h
   simp; omega
 obj x cs hx := by
  obtain ⟨a, b, c⟩ := S.obj x cs hx
  have hB := S.role _ _ b
  refine ⟨a, by simp only [Mp.newRole]; rw [upd_ne _ _ (by omega)]; exact b, fun j hj => ?_⟩
  obtain ⟨v, h1, h2, h3⟩ := c j hj
  have e := heap_push_lt (o := o) hB
  exact ⟨v, (cell?_of_heap e).trans h1, (frozen?_of_heap e).trans h2, h3.mono (ext_push S.role o r)⟩
 inj := S.inj
theorem abuildSlice_sound {P : Program} {t n α parts} {K : AV → Prop} (h : abuildSlice P t n α parts K) :
  ∃ v, K v ∧ Quiet P (fun ρ => Instr.buildSlice t n (parts.map fun x => (x.1, ρ x.2)).toArray) α (parts.map (·.2)) v := by
 obtain ⟨sz, z, he, hz, hk, hzl, h0, hn, hf⟩ := h
 obtain ⟨e, hu, hs⟩ := elOf_spec he
 obtain ⟨xs, hK, hl, hsz, hh⟩ := fillA_sound parts (List.replicate n z) _ (by simp) (fun x hx => by rw [List.eq_of_mem_replicate hx]; exact hzl) hf
 refine ⟨_, hK, fun M F w ρ hM hv => ?_⟩
 have hz' : zeroOf P e = some z := by unfold elZero at hz; rw [hu] at hz; exact hz
 obtain ⟨zv, hzv, rfl⟩ := zeroOf_spec hz' w
 have hzr := ofVal_VR M F w zv
 obtain ⟨A', h1, h2⟩ := hh M F w ρ _ (Cells.zeros hzr hk hzl n) (fun x hx => hv x.2 (List.mem_map_of_mem hx))
 have hE := ext_push (F := F) hM (.cells A' e) .stat
 refine ⟨.slice (some ⟨w.heap.size, 0, none⟩) n n, _, { w with heap := w.heap.push (.cells A' e) }, ?_, ?_, hE, fun σ _ S => sim_push S (.cells A' e) .stat⟩
 ·by_cases hn0 : n = 0
  ·subst hn0
   have hr : Array.range (0 * sz) = #[] := by rw [Nat.zero_mul]; rfl
   rw [hr, Array.map_empty] at h1
   simp only [Instr.buildSlice, Sem.run_bind, run_underlying hu, Result.andThen_ok, run_sizeOf' hs, Sem.run_ite, Sem.run_pure]
   rw [if_neg (by simp), if_pos (Nat.zero_mul _)]
   simp only [hr, Array.map_empty, h1]
   simp [newRow]
  ·have hne : n * sz ≠ 0 := by
    have := Nat.mul_pos (Nat.pos_of_ne_zero hn0) h0; omega
   simp only [Instr.buildSlice, Sem.run_bind, run_underlying hu, Result.andThen_ok, run_sizeOf' hs, Sem.run_ite, if_neg hne, hzv, Sem.run_pure]
   rw [if_neg (by omega)]
   simp only [h1]
   simp [newRow]
 ·have hcell : ∀ j, ({ w with heap := w.heap.push (.cells A' e) } : World).cell? ⟨w.heap.size, 0 + j, none⟩ = A'[j]? := by
   intro j; simp [World.cell?]
  rw [← hl]
  refine .sl (.stat true) sz xs w.heap.size 0 xs.length (fun j => (A'[j]?).getD undef) (Nat.le_refl _) (fun _ => rfl) hsz ?_ (fun _ j hj => ?_) (fun _ j hj => ?_)
  ·simp [Mem, Mp.newRole, upd]
  ·rw [hcell, Array.getElem?_eq_getElem (by rw [h2.1]; exact hj)]; rfl
  ·have := h2.get j hj (by rw [h2.1]; exact hj)
   rw [Array.getElem?_eq_getElem (by rw [h2.1]; exact hj)]
   exact this.mono hE
end Go.Abs
namespace Go.Abs
open Go
theorem parts_map (parts : Array (Nat × Operand)) (ρ : Operand → Value) : (parts.toList.map fun x => (x.1, ρ x.2)).toArray = parts.map fun x => (x.1, ρ x.2) := by
 rw [← List.map_toArray]
theorem isIface_spec {P : Program} {t} (h : isIface P t = some false) : ∃ d, P.underlying t = some d ∧ ∀ ms, d ≠ .interface ms := by
 unfold isIface at h
 split at h
 ·simp at h
 ·rename_i d hn hd; exact ⟨d, hd, fun ms e => hn ms e⟩
 ·cases h
def QuietOp (P : Program) (o : Oper) (α : Operand → AV) (v : AV) : Prop :=
 ∀ (M : Mp) (F : Nat → FSt) (w : World) (ρ : Operand → Value), (∀ B r, M.role B = some r → B < w.heap.size) → (∀ x ∈ o.op.operands, VR M F w (α x) (ρ x)) →
  ∃ v' M' w', (execOp ρ o).run P w = .ok (.value v') w' ∧ VR M' F w' v v' ∧ Ext M F w M' F w' ∧ (∀ σ, σ.F = F → Sim M σ w → Sim M' σ w')
theorem QuietOp.same {P : Program} {o : Oper} {α v}
  (h : ∀ M F w ρ, (∀ x ∈ o.op.operands, VR M F w (α x) (ρ x)) → ∃ v', (execOp ρ o).run P w = .ok (.value v') w ∧ VR M F w v v') : QuietOp P o α v :=
 fun M F w ρ _ hl => let ⟨v', h1, h2⟩ := h M F w ρ hl; ⟨v', M, w, h1, h2, Ext.refl .., fun _ _ S => S⟩
theorem nilCheck_VR {P : Program} {M F w v c} {o : Oper} {x : Operand} {ρ : Operand → Value} (ho : o.op = .nilCheck x) (hc : ρ x = c) (h : VR M F w v c)
  (hv : (∃ a b, v = .ptr a b) ∨ (∃ a b, v = .pv a b) ∨ (∃ f a b, v = .fn (.func f) a b)) : (execOp ρ o).run P w = .ok (.value c) w := by
 subst hc
 rcases hv with ⟨a, b, rfl⟩ | ⟨a, b, rfl⟩ | ⟨f, a, b, rfl⟩
 ·obtain ⟨_, e⟩ := ptr_inv h
  unfold execOp; simp only [ho]; rw [e]; simp
 ·obtain ⟨_, _, e⟩ := pv_inv h
  unfold execOp; simp only [ho]; rw [e]; simp
 ·obtain ⟨A, B, e⟩ : ∃ A B, ρ x = .func (.func f) A B := by
   generalize ρ x = c at h
   cases h; exact ⟨_, _, rfl⟩
  unfold execOp; simp only [ho]; rw [e]; simp
theorem apure_sound {P : Program} {o : Oper} {α : Operand → AV} {K : AV → Prop} (h : apure P α o.op K) : ∃ v, K v ∧ QuietOp P o α v := by
 cases ho : o.op <;> rw [ho] at h
 case move x =>
  simp only [apure] at h
  exact ⟨_, h, .same fun M F w ρ hl => ⟨ρ x, by unfold execOp; simp only [ho]; simp, hl x (by rw [ho]; simp [Op.operands])⟩⟩
 case assign x =>
  simp only [apure] at h
  exact ⟨_, h, .same fun M F w ρ hl => ⟨ρ x, by unfold execOp; simp only [ho]; simp, hl x (by rw [ho]; simp [Op.operands])⟩⟩
 case pick c x y =>
  simp only [apure] at h
  obtain ⟨b, hb, h⟩ := h
  refine ⟨_, h, .same fun M F w ρ hl => ⟨if b then ρ x else ρ y, ?_, ?_⟩⟩
  ·have hc := hl c (by rw [ho]; simp [Op.operands])
   rw [hb] at hc
   unfold execOp; simp only [ho]; simp [hc.bool_inv, asBool]
  ·cases b
   ·exact hl y (by rw [ho]; simp [Op.operands])
   ·exact hl x (by rw [ho]; simp [Op.operands])
 case nilCheck x =>
  simp only [apure] at h
  have key : ((∃ a b, α x = .ptr a b) ∨ (∃ a b, α x = .pv a b) ∨ (∃ f a b, α x = .fn (.func f) a b)) ∧ K (α x) := by
   split at h
   ·exact ⟨.inl ⟨_, _, ‹_›⟩, h⟩
   ·exact ⟨.inr (.inl ⟨_, _, ‹_›⟩), h⟩
   ·exact ⟨.inr (.inr ⟨_, _, _, ‹_›⟩), h⟩
   ·exact h.elim
  refine ⟨_, key.2, .same fun M F w ρ hl => ⟨ρ x, nilCheck_VR ho rfl (hl x (by rw [ho]; simp [Op.operands])) key.1, hl x (by rw [ho]; simp [Op.operands])⟩⟩
 case binOp op t x y ty =>
  simp only [apure] at h
  obtain ⟨v, hK, hh⟩ := abin_sound h
  refine ⟨v, hK, .same fun M F w ρ hl => ?_⟩
  obtain ⟨v', h1, h2⟩ := hh M F w (ρ x) (ρ y) x y (hl x (by rw [ho]; simp [Op.operands])) (hl y (by rw [ho]; simp [Op.operands]))
  exact ⟨v', by unfold execOp; simp only [ho]; rw [Sem.run_bind, h1]; rfl, h2⟩
 case unOp op t x =>
  simp only [apure] at h
  obtain ⟨v, hK, hh⟩ := aun_sound h P
  refine ⟨v, hK, .same fun M F w ρ hl => ?_⟩
  obtain ⟨v', h1, h2⟩ := hh M F w (ρ x) (hl x (by rw [ho]; simp [Op.operands]))
  exact ⟨v', by unfold execOp; simp only [ho]; rw [Sem.run_bind, h1]; rfl, h2⟩
 case convert s d x =>
  simp only [apure] at h
  obtain ⟨v, hK, hh⟩ := aconv_sound h
  refine ⟨v, hK, .same fun M F w ρ hl => ?_⟩
  obtain ⟨v', h1, h2⟩ := hh M F w (ρ x) (hl x (by rw [ho]; simp [Op.operands]))
  exact ⟨v', by unfold execOp; simp only [ho]; rw [Sem.run_bind, h1]; rfl, h2⟩
 case makeInterface t x =>
  simp only [apure] at h
  obtain ⟨hi, hK⟩ := h
  obtain ⟨d, hd, hn⟩ := isIface_spec hi
  refine ⟨_, hK, .same fun M F w ρ hl => ⟨.iface t (ρ x), ?_, .iface t _ _ (hl x (by rw [ho]; simp [Op.operands]))⟩⟩
  unfold execOp; simp only [ho]
  cases d <;> first | exact absurd rfl (hn _) | simp [Instr.makeInterface, run_underlying hd]
 case typeAssert x xt t ok =>
  simp only [apure] at h
  split at h
  ·rename_i u v hx
   obtain ⟨hi, rfl, hK⟩ := h
   obtain ⟨d, hd, hn⟩ := isIface_spec hi
   refine ⟨_, hK, .same fun M F w ρ hl => ?_⟩
   have hv := hl x (by rw [ho]; simp [Op.operands])
   rw [hx] at hv
   generalize hc : ρ x = c at hv
   cases hv with
   | iface _ _ c' hc' =>
    cases ok with
    | true =>
     refine ⟨.tuple #[c', .bool true], ?_, ?_⟩
     ·unfold execOp; simp only [ho, hc]
      cases d <;> first | exact absurd rfl (hn _) | simp [Instr.typeAssert, run_underlying hd]
     ·refine .tuple _ _ rfl fun j h h' => ?_
      match j, h with
      | 0, _ => exact hc'
      | 1, _ => exact .bool true
    | false =>
     refine ⟨c', ?_, hc'⟩
     unfold execOp; simp only [ho, hc]
     cases d <;> first | exact absurd rfl (hn _) | simp [Instr.typeAssert, run_underlying hd]
  ·exact h.elim
 case makeFunc f first cap =>
  simp only [apure] at h
  refine ⟨_, h, .same fun M F w ρ hl => ⟨.func f (first.map ρ) (cap.map ρ), by unfold execOp; simp only [ho]; simp [Instr.makeFunc], .fn f _ _ _ _ (by simp) (by simp) (fun j h h' => ?_) (fun j h h' => ?_)⟩⟩
  ·simp only [List.getElem_map, Array.getElem_map, Array.getElem_toList]
   exact hl _ (by rw [ho]; simp [Op.operands])
  ·simp only [List.getElem_map, Array.getElem_map, Array.getElem_toList]
   exact hl _ (by rw [ho]; simp [Op.operands])
 case slice t x lo hi mx =>
  simp only [apure] at h
  obtain ⟨v, hK, hh⟩ := aslice_sound h
  refine ⟨v, hK, .same fun M F w ρ hl => ?_⟩
  obtain ⟨v', h1, h2⟩ := hh M F w (ρ x) ρ (hl x (by rw [ho]; simp [Op.operands])) (fun y e => hl y (by rw [ho, e]; simp [Op.operands])) (fun y e => hl y (by rw [ho, e]; simp [Op.operands]))
   (fun y e => hl y (by rw [ho, e]; simp [Op.operands]))
  exact ⟨v', by unfold execOp; simp only [ho]; rw [Sem.run_bind, h1]; rfl, h2⟩
 case fieldAddr t x f =>
  simp only [apure] at h
  obtain ⟨v, hK, hh⟩ := afieldAddr_sound h
  refine ⟨v, hK, .same fun M F w ρ hl => ?_⟩
  obtain ⟨v', h1, h2⟩ := hh M F w (ρ x) (hl x (by rw [ho]; simp [Op.operands]))
  exact ⟨v', by unfold execOp; simp only [ho]; rw [Sem.run_bind, h1]; rfl, h2⟩
 case field t x f =>
  simp only [apure] at h
  obtain ⟨v, hK, hh⟩ := afield_sound h
  refine ⟨v, hK, .same fun M F w ρ hl => ?_⟩
  obtain ⟨v', h1, h2⟩ := hh M F w (ρ x) (hl x (by rw [ho]; simp [Op.operands]))
  exact ⟨v', by unfold execOp; simp only [ho]; rw [Sem.run_bind, h1]; rfl, h2⟩
 case indexAddr t x i =>
  simp only [apure] at h
  obtain ⟨v, hK, hh⟩ := aindexAddr_sound h
  refine ⟨v, hK, .same fun M F w ρ hl => ?_⟩
  obtain ⟨v', h1, h2⟩ := hh M F w (ρ x) (ρ i) (hl x (by rw [ho]; simp [Op.operands])) (hl i (by rw [ho]; simp [Op.operands]))
  exact ⟨v', by unfold execOp; simp only [ho]; rw [Sem.run_bind, h1]; rfl, h2⟩
 case index t x i =>
  simp only [apure] at h
  obtain ⟨v, hK, hh⟩ := aindex_sound h
  refine ⟨v, hK, .same fun M F w ρ hl => ?_⟩
  obtain ⟨v', h1, h2⟩ := hh M F w (ρ x) (ρ i) (hl x (by rw [ho]; simp [Op.operands])) (hl i (by rw [ho]; simp [Op.operands]))
  exact ⟨v', by unfold execOp; simp only [ho]; rw [Sem.run_bind, h1]; rfl, h2⟩
 case extract x i =>
  simp only [apure] at h
  split at h
  ·rename_i vs hx
   obtain ⟨v, hv, hK⟩ := h
   refine ⟨v, hK, .same fun M F w ρ hl => ?_⟩
   have hr := hl x (by rw [ho]; simp [Op.operands])
   rw [hx] at hr
   generalize hc : ρ x = c at hr
   cases hr with
   | tuple _ A hA va =>
   obtain ⟨h1, rfl⟩ := List.getElem?_eq_some_iff.1 hv
   refine ⟨A[i], ?_, va i h1 (by omega)⟩
   unfold execOp; simp only [ho]
   simp [Instr.extract, hc, Array.getElem?_eq_getElem (show i < A.size by omega)]
  ·exact h.elim
 case build t parts =>
  simp only [apure] at h
  obtain ⟨v, hK, hh⟩ := abuild_sound h
  refine ⟨v, hK, .same fun M F w ρ hl => ?_⟩
  obtain ⟨v', h1, h2⟩ := hh M F w ρ (fun p hp => hl p.2 (by rw [ho]; simp only [Op.operands, List.mem_toArray]; exact List.mem_map_of_mem hp))
  rw [parts_map] at h1
  exact ⟨v', by unfold execOp; simp only [ho]; rw [Sem.run_bind, h1]; rfl, h2⟩
 case buildSlice t n parts =>
  simp only [apure] at h
  obtain ⟨v, hK, hh⟩ := abuildSlice_sound h
  refine ⟨v, hK, fun M F w ρ hM hl => ?_⟩
  obtain ⟨v', M', w', h1, h2⟩ := hh M F w ρ hM (fun p hp => hl p (by rw [ho]; simp only [Op.operands, List.mem_toArray]; exact hp))
  simp only [parts_map] at h1
  exact ⟨v', M', w', by unfold execOp; simp only [ho]; rw [Sem.run_bind, h1]; rfl, h2⟩
 case call c =>
  simp only [apure] at h
  split at h
  ·rename_i hc
   split at h
   ·rename_i t x ht hx
    obtain ⟨v, hK, hh⟩ := alen_sound h
    refine ⟨v, hK, .same fun M F w ρ hl => ?_⟩
    obtain ⟨v', h1, h2⟩ := hh M F w (ρ x) o.type (hl x (by rw [ho]; simp [Op.operands, Call.operands, ← Array.mem_toList_iff, hx]))
    have e1 : c.args.map ρ = #[ρ x] := by apply Array.ext'; simp [hx]
    have e2 : c.argTypes = #[t] := by apply Array.ext'; simp [ht]
    refine ⟨v', ?_, h2⟩
    unfold execOp; simp only [ho]
    simp only [resolve, hc, Sem.run_bind, Sem.run_pure, Result.andThen_ok, invoke, builtin, e1, e2, h1]
   ·exact h.elim
  ·rename_i hc
   split at h
   ·rename_i t x ht hx
    obtain ⟨v, hK, hh⟩ := acap_sound h
    refine ⟨v, hK, .same fun M F w ρ hl => ?_⟩
    obtain ⟨v', h1, h2⟩ := hh M F w (ρ x) o.type (hl x (by rw [ho]; simp [Op.operands, Call.operands, ← Array.mem_toList_iff, hx]))
    have e1 : c.args.map ρ = #[ρ x] := by apply Array.ext'; simp [hx]
    have e2 : c.argTypes = #[t] := by apply Array.ext'; simp [ht]
    refine ⟨v', ?_, h2⟩
    unfold execOp; simp only [ho]
    simp only [resolve, hc, Sem.run_bind, Sem.run_pure, Result.andThen_ok, invoke, builtin, e1, e2, h1]
   ·exact h.elim
  ·rename_i hc
   split at h
   ·rename_i x y hx
    split at h
    ·rename_i k m k' n ex ey
     obtain ⟨rfl, hK⟩ := h
     refine ⟨_, hK, .same fun M F w ρ hl => ⟨.int k (min m n), ?_, .int ..⟩⟩
     have v1 := hl x (by rw [ho]; simp [Op.operands, Call.operands, ← Array.mem_toList_iff, hx])
     have v2 := hl y (by rw [ho]; simp [Op.operands, Call.operands, ← Array.mem_toList_iff, hx])
     rw [ex] at v1; rw [ey] at v2
     have e1 : c.args.map ρ = #[.int k m, .int k n] := by apply Array.ext'; simp [hx, v1.int_inv, v2.int_inv]
     unfold execOp; simp only [ho]
     simp only [resolve, hc, Sem.run_bind, Sem.run_pure, Result.andThen_ok, invoke, builtin, e1, Builtin.min_, List.foldlM_cons, List.foldlM_nil, Builtin.min2]
     congr 3; split <;> omega
    ·exact h.elim
   ·exact h.elim
  ·rename_i hc
   split at h
   ·rename_i x y hx
    split at h
    ·rename_i k m k' n ex ey
     obtain ⟨rfl, hK⟩ := h
     refine ⟨_, hK, .same fun M F w ρ hl => ⟨.int k (max m n), ?_, .int ..⟩⟩
     have v1 := hl x (by rw [ho]; simp [Op.operands, Call.operands, ← Array.mem_toList_iff, hx])
     have v2 := hl y (by rw [ho]; simp [Op.operands, Call.operands, ← Array.mem_toList_iff, hx])
     rw [ex] at v1; rw [ey] at v2
     have e1 : c.args.map ρ = #[.int k m, .int k n] := by apply Array.ext'; simp [hx, v1.int_inv, v2.int_inv]
     unfold execOp; simp only [ho]
     simp only [resolve, hc, Sem.run_bind, Sem.run_pure, Result.andThen_ok, invoke, builtin, e1, Builtin.max_, List.foldlM_cons, List.foldlM_nil, Builtin.max2]
     congr 3; split <;> omega
    ·exact h.elim
   ·exact h.elim
  ·exact h.elim
 all_goals (simp only [apure] at h)
end Go.Abs
namespace Go.Abs
open Go
def AS.newO (σ : AS) (cs : List AV) : AS := { σ with objs := upd σ.objs σ.no (some cs), no := σ.no + 1 }
def AS.setO (σ : AS) (o : Nat) (cs : List AV) : AS := { σ with objs := upd σ.objs o (some cs) }
def AS.newF (σ : AS) : AS := { σ with F := upd σ.F σ.nf .alive, nf := σ.nf + 1 }
def AS.setF (σ : AS) (f : Nat) (s : FSt) : AS := { σ with F := upd σ.F f s }
theorem exists_list {n : Nat} {p : Nat → Value → Prop} (h : ∀ j, j < n → ∃ c, p j c) : ∃ l : List Value, l.length = n ∧ ∀ j c, l[j]? = some c → p j c := by
 induction n with
 | zero => exact ⟨[], rfl, by simp⟩
 | succ n ih =>
  obtain ⟨l, hl, hp⟩ := ih (fun j hj => h j (by omega))
  obtain ⟨c, hc⟩ := h n (by omega)
  refine ⟨l ++ [c], by simp [hl], fun j d hd => ?_⟩
  by_cases e : j < n
  ·rw [List.getElem?_append_left (by omega)] at hd; exact hp j d hd
  ·rw [List.getElem?_append_right (by omega)] at hd
   have : j - l.length = 0 := by
    by_cases h0 : j - l.length = 0
    ·exact h0
    ·rw [List.getElem?_eq_none (by simp; omega)] at hd; cases hd
   rw [this] at hd
   simp at hd
   subst hd
   rw [show j = n by omega]; exact hc
theorem Sim.cells {M σ w} (S : Sim M σ w) {o cs} (h : σ.objs o = some cs) :
  ∃ l : List Value, l.length = cs.length ∧ (∀ j c, l[j]? = some c → w.cell? ⟨(M.obj o).1, (M.obj o).2 + j, none⟩ = some c ∧ w.frozen? ⟨(M.obj o).1, (M.obj o).2 + j, none⟩ = false) ∧
   ∀ j (h1 : j < cs.length) (h2 : j < l.length), VR M σ.F w cs[j] l[j] := by
 obtain ⟨_, _, hc⟩ := S.obj o cs h
 obtain ⟨l, hl, hp⟩ := exists_list (n := cs.length) (p := fun j c => w.cell? ⟨(M.obj o).1, (M.obj o).2 + j, none⟩ = some c ∧ w.frozen? ⟨(M.obj o).1, (M.obj o).2 + j, none⟩ = false ∧ ∀ h : j < cs.length, VR M σ.F w cs[j] c)
  (fun j hj => by obtain ⟨c, h1, h2, h3⟩ := hc j hj; exact ⟨c, h1, h2, fun _ => h3⟩)
 exact ⟨l, hl, fun j c hj => ⟨(hp j c hj).1, (hp j c hj).2.1⟩, fun j h1 h2 => (hp j _ (List.getElem?_eq_getElem h2)).2.2 h1⟩
def aload (P : Program) (t : TypeId) (p : AV) (σ : AS) (K : AV → Prop) : Prop :=
 match p with
 | .ptr o off => ∃ cs n, σ.objs o = some cs ∧ szOf P t = some n ∧ partOf (aggOf P t) n off cs K
 | .pv φ v => Readable σ.F φ ∧ ∃ n, szOf P t = some n ∧ (if aggOf P t then ∃ cs, v = .agg cs ∧ cs.length = n ∧ K v else v.cells = [v] ∧ K v)
 | _ => False
theorem run_loadVar_list {P : Program} {t n} (hn : szOf P t = some n) {w : World} {B off : Nat} {l : List Value} (hl : l.length = n) (hg : aggOf P t = true)
  (h : ∀ j c, l[j]? = some c → w.cell? ⟨B, off + j, none⟩ = some c) : (loadVar t ⟨B, off, none⟩).run P w = .ok (.agg l.toArray) w := by
 obtain ⟨d, hd⟩ := szOf_und hn
 have := run_loadCells_list (P := P) w ⟨B, off, none⟩ l (fun j v hv => by rw [addr_add]; exact h j v hv)
 simp [loadVar, run_isAgg' hd, hg, run_sizeOf' hn, ← hl, this]
theorem run_loadVar_one {P : Program} {t n} (hn : szOf P t = some n) {w : World} {B off : Nat} {c : Value} (hg : aggOf P t = false)
  (h : w.cell? ⟨B, off, none⟩ = some c) : (loadVar t ⟨B, off, none⟩).run P w = .ok c w := by
 obtain ⟨d, hd⟩ := szOf_und hn
 simp [loadVar, run_isAgg' hd, hg, h]
theorem aload_sound {P : Program} {t p σ} {K : AV → Prop} (h : aload P t p σ K) :
  ∃ v, K v ∧ ∀ M w p', Sim M σ w → VR M σ.F w p p' → ∃ v', (Instr.loadAt t p').run P w = .ok v' w ∧ VR M σ.F w v v' := by
 unfold aload at h
 split at h
 ·rename_i o off
  obtain ⟨cs, n, ho, hn, hp⟩ := h
  unfold partOf at hp
  split at hp
  ·rename_i hg
   refine ⟨_, hp.2, fun M w p' S hv => ?_⟩
   obtain ⟨hlt, rfl⟩ := ptr_inv hv
   obtain ⟨l, hl, hc, hr⟩ := S.cells ho
   have hlen : ((l.drop off).take n).length = n := by simp; omega
   refine ⟨.agg ((l.drop off).take n).toArray, ?_, ?_⟩
   ·simp only [Instr.loadAt, Instr.sureAddr, Sem.run_bind, Sem.run_pure, Result.andThen_ok]
    refine run_loadVar_list hn hlen hg (fun j c hj => ?_)
    have hj' : l[off + j]? = some c := by
     rw [List.getElem?_take] at hj
     split at hj
     ·rwa [List.getElem?_drop] at hj
     ·cases hj
    have := (hc _ _ hj').1
    rwa [← Nat.add_assoc] at this
   ·refine .agg _ _ (by simp; omega) (fun j h1 h2 => ?_)
    have h1' : j < n := by simp at h1; omega
    have := hr (off + j) (by have := hp.1; omega) (by have := hp.1; omega)
    simpa using this
  ·rename_i hg
   obtain ⟨v, hv, hK⟩ := hp
   refine ⟨v, hK, fun M w p' S hv' => ?_⟩
   obtain ⟨hlt, rfl⟩ := ptr_inv hv'
   obtain ⟨h1, rfl⟩ := List.getElem?_eq_some_iff.1 hv
   obtain ⟨_, _, hc⟩ := S.obj o cs ho
   obtain ⟨c, h2, h3, h4⟩ := hc off h1
   refine ⟨c, ?_, h4⟩
   simp only [Instr.loadAt, Instr.sureAddr, Sem.run_bind, Sem.run_pure, Result.andThen_ok]
   exact run_loadVar_one hn (by simpa using hg) h2
 ·rename_i φ v
  obtain ⟨hrd, n, hn, hp⟩ := h
  split at hp
  ·rename_i hg
   obtain ⟨cs, rfl, hl, hK⟩ := hp
   refine ⟨_, hK, fun M w p' S hv => ?_⟩
   cases hv with
   | pv _ _ B off c hm hc hv =>
   have hlen : ((List.range n).map c).length = n := by simp
   refine ⟨.agg ((List.range n).map c).toArray, ?_, ?_⟩
   ·simp only [Instr.loadAt, Instr.sureAddr, Sem.run_bind, Sem.run_pure, Result.andThen_ok]
    refine run_loadVar_list hn hlen hg (fun j x hj => ?_)
    obtain ⟨h1, rfl⟩ := List.getElem?_eq_some_iff.1 hj
    simp only [List.getElem_map, List.getElem_range]
    simp at h1
    exact hc hrd j (by simp [AV.cells]; omega)
   ·refine .agg _ _ (by simp; omega) (fun j h1 h2 => ?_)
    have := hv hrd j (by simpa [AV.cells] using h1)
    simpa [AV.cells] using this
  ·rename_i hg
   obtain ⟨hone, hK⟩ := hp
   refine ⟨_, hK, fun M w p' S hv => ?_⟩
   cases hv with
   | pv _ _ B off c hm hc hv =>
   have h0 : 0 < v.cells.length := by rw [hone]; simp
   refine ⟨c 0, ?_, ?_⟩
   ·simp only [Instr.loadAt, Instr.sureAddr, Sem.run_bind, Sem.run_pure, Result.andThen_ok]
    exact run_loadVar_one hn (by simpa using hg) (hc hrd 0 h0)
   ·have := hv hrd 0 h0
    simp only [hone, List.getElem_cons_zero] at this
    exact this
 ·exact h.elim
def Mp.newObj (M : Mp) (B : Nat) : Mp := { role := upd M.role B (some .obj), obj := upd M.obj M.no (B, 0), no := M.no + 1, nf := M.nf }
theorem ext_newObj {M F} {w : World} (hM : ∀ B r, M.role B = some r → B < w.heap.size) (o : Obj) : Ext M F w (M.newObj w.heap.size) F { w with heap := w.heap.push o } where
 io := ⟨rfl, rfl, rfl⟩
 no := by simp [Mp.newObj]
 nf := Nat.le_refl _
 obj x h := by simp only [Mp.newObj]; rw [upd_ne _ _ (by omega)]
 dead _ _ h := h
 spoil _ _ h := by rw [h]; simp
 size := by simp
 shape B c e z h := by
  have hB : B < w.heap.size := (Array.getElem?_eq_some_iff.1 h).1
  exact ⟨c, by rw [heap_push_lt hB]; exact h, rfl⟩
 stat B h := by
  have hB := hM B _ h
  exact ⟨by simp only [Mp.newObj]; rw [upd_ne _ _ (by omega)]; exact h, heap_push_lt hB⟩
 free B hB h := ⟨by simp only [Mp.newObj]; rw [upd_ne _ _ (by omega)]; exact h, heap_push_lt hB⟩
 famr B f hf h _ := by
  have hB := hM B _ h
  simp only [Mp.newObj]; rw [upd_ne _ _ (by omega)]; exact h
 famc B f hf h _ := heap_push_lt (hM B _ h)
theorem sim_newObj {M σ} {w : World} (S : Sim M σ w) {A : Array Value} {e : TypeId} {cs : List AV} (hA : Cells M σ.F w cs A) :
  Sim (M.newObj w.heap.size) (σ.newO cs) { w with heap := w.heap.push (.cells A e) } where
 no := by simp [Mp.newObj, AS.newO, S.no]
 nf := S.nf
 role B r' h := by
  simp only [Mp.newObj, upd] at h
  split at h
  ·simp; omega
  ·have := S.role B r' h
   simp; omega
 obj x cs' hx := by
  have hE := ext_newObj (F := σ.F) S.role (.cells A e)
  by_cases hxn : x = σ.no
  ·subst hxn
   simp only [AS.newO, upd_same] at hx
   cases hx
   refine ⟨by simp [AS.newO], by simp only [Mp.newObj]; rw [← S.no, upd_same, upd_same], fun j hj => ?_⟩
   have e1 : (M.newObj w.heap.size).obj σ.no = (w.heap.size, 0) := by simp only [Mp.newObj]; rw [← S.no, upd_same]
   refine ⟨A[j]'(by rw [hA.1]; exact hj), ?_, ?_, (hA.get j hj (by rw [hA.1]; exact hj)).mono hE⟩
   ·rw [e1]; simp [World.cell?]
   ·rw [e1]; simp [World.frozen?]
  ·simp only [AS.newO] at hx
   rw [upd_ne _ _ hxn] at hx
   obtain ⟨a, b, c⟩ := S.obj x cs' hx
   have hB := S.role _ _ b
   have e1 : (M.newObj w.heap.size).obj x = M.obj x := by simp only [Mp.newObj]; rw [upd_ne _ _ (by rw [S.no]; exact hxn)]
   rw [e1]
   refine ⟨by simp [AS.newO]; omega, by simp only [Mp.newObj]; rw [upd_ne _ _ (by omega)]; exact b, fun j hj => ?_⟩
   obtain ⟨v, h1, h2, h3⟩ := c j hj
   have e := heap_push_lt (o := .cells A e) hB
   exact ⟨v, (cell?_of_heap e).trans h1, (frozen?_of_heap e).trans h2, h3.mono hE⟩
 inj x y hx hy hxy := by
  have key : ∀ z, ((σ.newO cs).objs z).isSome = true → z = σ.no ∨ (z ≠ σ.no ∧ (σ.objs z).isSome = true ∧ (M.obj z).1 < w.heap.size) := by
   intro z hz
   by_cases h : z = σ.no
   ·exact .inl h
   ·simp only [AS.newO] at hz
    rw [upd_ne _ _ h] at hz
    obtain ⟨c, hc⟩ := Option.isSome_iff_exists.1 hz
    exact .inr ⟨h, hz, S.role _ _ (S.obj z c hc).2.1⟩
  have e0 : (M.newObj w.heap.size).obj σ.no = (w.heap.size, 0) := by simp only [Mp.newObj]; rw [← S.no, upd_same]
  have e1 : ∀ z, z ≠ σ.no → (M.newObj w.heap.size).obj z = M.obj z := by intro z hz; simp only [Mp.newObj]; rw [upd_ne _ _ (by rw [S.no]; exact hz)]
  rcases key x hx with rfl | ⟨h1, h2, h3⟩ <;> rcases key y hy with rfl | ⟨h4, h5, h6⟩
  ·rfl
  ·rw [e0, e1 y h4] at hxy; simp only at hxy; omega
  ·rw [e0, e1 x h1] at hxy; simp only at hxy; omega
  ·rw [e1 x h1, e1 y h4] at hxy; exact S.inj x y h2 h5 hxy
def astore (P : Program) (t : TypeId) (p v : AV) (σ : AS) (K : AS → Prop) : Prop :=
 match p with
 | .ptr o off => ∃ cs, σ.objs o = some cs ∧ v.known = true ∧ szOf P t = some v.cells.length ∧ off + v.cells.length ≤ cs.length ∧ (∀ c ∈ v.cells, c.one = true) ∧ K (σ.setO o (splice cs off v.cells))
 | .pv (.fam f _) u => σ.F f ≠ .dead ∧ v.known = true ∧ szOf P t = some v.cells.length ∧ u.cells.length = v.cells.length ∧ (∀ c ∈ v.cells, c.one = true) ∧ K (σ.setF f .spoiled)
 | _ => False
theorem VR.oneCell {M F w v c} (h : VR M F w v c) (h1 : v.one = true) : c.oneCell' = true := by
 cases h <;> first | rfl | (simp [AV.one] at h1)
theorem setCells_io (b : Nat) : ∀ (vs : List Value) (o : Nat) (w : World), SameIO w (w.setCells b o vs)
 | [], _, _ => ⟨rfl, rfl, rfl⟩
 | v :: r, o, w => by
  rw [World.setCells]
  exact SameIO.trans ⟨rfl, rfl, rfl⟩ (setCells_io b r _ _)
theorem setCells_heap_ne (b : Nat) : ∀ (vs : List Value) (o : Nat) (w : World) (B : Nat), B ≠ b → (w.setCells b o vs).heap[B]? = w.heap[B]?
 | [], _, _, _, _ => rfl
 | v :: r, o, w, B, h => by
  rw [World.setCells, setCells_heap_ne b r _ _ B h]
  simp [World.setCell, Array.getElem?_modify, Ne.symm h]
theorem setCells_heap_eq (b : Nat) : ∀ (vs : List Value) (o : Nat) (w : World) c e z, w.heap[b]? = some (.cells c e z) → ∃ c', (w.setCells b o vs).heap[b]? = some (.cells c' e z) ∧ c'.size = c.size
 | [], _, _, c, _, _, h => ⟨c, h, rfl⟩
 | v :: r, o, w, c, e, z, h => by
  rw [World.setCells]
  obtain ⟨c', h1, h2⟩ := setCells_heap_eq b r (o + 1) (w.setCell ⟨b, o, none⟩ v) (c.setIfInBounds o v) e z (by simp [World.setCell, Array.getElem?_modify, h])
  exact ⟨c', h1, by rw [h2]; simp⟩
theorem setCells_size (b : Nat) : ∀ (vs : List Value) (o : Nat) (w : World), (w.setCells b o vs).heap.size = w.heap.size
 | [], _, _ => rfl
 | v :: r, o, w => by rw [World.setCells, setCells_size b r]; simp [World.setCell]
theorem ext_setCells {M F F'} {w : World} {b : Nat} {r : Role} (hr : M.role b = some r) (hn : r ≠ .stat) (hf : ∀ f, r = .fam f → f < M.nf → F' f ≠ .alive)
  (hd : ∀ f, f < M.nf → F f = .dead → F' f = .dead) (hs : ∀ f, f < M.nf → F f = .spoiled → F' f ≠ .alive) (vs : List Value) (o : Nat) : Ext M F w M F' (w.setCells b o vs) where
 io := setCells_io b vs o w
 no := Nat.le_refl _
 nf := Nat.le_refl _
 obj _ _ := rfl
 dead := hd
 spoil := hs
 size := by rw [setCells_size]; exact Nat.le_refl _
 shape B c e z h := by
  by_cases hB : B = b
  ·subst hB; exact setCells_heap_eq B vs o w c e z h
  ·exact ⟨c, by rw [setCells_heap_ne b vs o w B hB]; exact h, rfl⟩
 stat B h := ⟨h, setCells_heap_ne b vs o w B (by rintro rfl; rw [h] at hr; cases hr; exact hn rfl)⟩
 free B _ h := ⟨h, setCells_heap_ne b vs o w B (by rintro rfl; rw [h] at hr; cases hr)⟩
 famr _ _ _ h _ := h
 famc B f hlt h ha := setCells_heap_ne b vs o w B (by rintro rfl; rw [h] at hr; cases hr; exact hf f rfl hlt ha)
theorem cells_list {M F w} {v : AV} {c : Value} (h : VR M F w v c) (hk : v.known = true) (h1 : ∀ x ∈ v.cells, x.one = true) :
  c.cells.toList.length = v.cells.length ∧ (∀ x ∈ c.cells.toList, x.oneCell' = true) ∧ ∀ j (h : j < v.cells.length) (h' : j < c.cells.toList.length), VR M F w v.cells[j] c.cells.toList[j] := by
 obtain ⟨e1, e2⟩ := h.cells_rel hk
 refine ⟨by simp [e1], fun x hx => ?_, fun j h h' => by simpa using e2 j h (by simpa using h')⟩
 obtain ⟨j, hj, rfl⟩ := List.getElem_of_mem hx
 have hj' : j < c.cells.size := by simpa using hj
 have := e2 j (by omega) hj'
 simp only [Array.getElem_toList]
 exact this.oneCell (h1 _ (List.getElem_mem _))
theorem astore_sound {P : Program} {t p v σ} {K : AS → Prop} (h : astore P t p v σ K) {M w p' v'} (S : Sim M σ w) (hp : VR M σ.F w p p') (hv : VR M σ.F w v v') :
  ∃ σ' w', (Instr.storeAt t p' v').run P w = .ok () w' ∧ K σ' ∧ Sim M σ' w' ∧ Ext M σ.F w M σ'.F w' := by
 unfold astore at h
 split at h
 ·rename_i o off
  obtain ⟨cs, ho, hk, hn, hb, hone, hK⟩ := h
  obtain ⟨hlt, rfl⟩ := ptr_inv hp
  obtain ⟨hol, hor, hoc⟩ := S.obj o cs ho
  obtain ⟨l1, l2, l3⟩ := cells_list hv hk hone
  have hcell : ∀ j, j < v'.cells.toList.length → (w.cell? ⟨(M.obj o).1, (M.obj o).2 + off + 0 + j, none⟩).isSome = true := fun j hj => by
   obtain ⟨c, h1, _⟩ := hoc (off + j) (by omega)
   rw [Nat.add_zero, Nat.add_assoc, h1]; rfl
  have hfz : ∀ j, j < v'.cells.toList.length → w.frozen? ⟨(M.obj o).1, (M.obj o).2 + off + 0 + j, none⟩ = false := fun j hj => by
   obtain ⟨c, _, h2, _⟩ := hoc (off + j) (by omega)
   rw [Nat.add_zero, Nat.add_assoc]; exact h2
  have hrun := run_storeCells_cells (P := P) (M.obj o).1 ((M.obj o).2 + off) v'.cells.toList 0 w hcell hfz l2
  have hE : Ext M σ.F w M σ.F (w.setCells (M.obj o).1 ((M.obj o).2 + off + 0) v'.cells.toList) :=
   ext_setCells (F' := σ.F) hor (by simp) (by intro f hf; cases hf) (fun _ _ h => h) (fun _ _ h => by rw [h]; simp) _ _
  refine ⟨_, _, ?_, hK, ?_, hE⟩
  ·have hsz : v'.cells.size = v.cells.length := by simpa using l1
   simp only [Instr.storeAt, Instr.sureAddr, storeVar, Sem.run_bind, Sem.run_pure, Result.andThen_ok, run_sizeOf' hn, Sem.run_ite]
   rw [if_neg (by rw [hsz]; simp)]
   exact hrun
  ·refine ⟨S.no, S.nf, fun B r hr => by rw [setCells_size]; exact S.role B r hr, fun x cs' hx => ?_, fun x y hx hy hxy => ?_⟩
   ·by_cases hxo : x = o
    ·subst hxo
     simp only [AS.setO, upd_same] at hx
     cases hx
     refine ⟨hol, hor, fun j hj => ?_⟩
     have hj' : j < cs.length := by rwa [splice_length hb] at hj
     obtain ⟨c, h1, h2, h3⟩ := hoc j hj'
     by_cases hin : off ≤ j ∧ j < off + v.cells.length
     ·obtain ⟨i, rfl⟩ : ∃ i, j = off + i := ⟨j - off, by omega⟩
      refine ⟨v'.cells.toList[i]'(by omega), ?_, ?_, ?_⟩
      ·have := World.cell?_setCells_in (M.obj x).1 v'.cells.toList ((M.obj x).2 + off + 0) w hcell i (by omega)
       rw [← Nat.add_assoc]
       exact this
      ·rw [World.frozen?_setCells]; exact h2
      ·have e : (splice cs off v.cells)[off + i] = v.cells[i]'(by omega) := by
        have := splice_get (cs := cs) (vs := v.cells) (off := off) (j := off + i) hb
        rw [if_pos hin, List.getElem?_eq_getElem hj, List.getElem?_eq_getElem (by omega)] at this
        simp only [Option.some.injEq] at this
        rw [this]; congr 1; omega
       rw [e]
       exact (l3 i (by omega) (by omega)).mono hE
     ·refine ⟨c, ?_, ?_, ?_⟩
      ·rw [World.cell?_setCells_out]
       ·exact h1
       ·intro _ _; simp only; omega
      ·rw [World.frozen?_setCells]; exact h2
      ·have e : (splice cs off v.cells)[j] = cs[j] := by
        have := splice_get (cs := cs) (vs := v.cells) (off := off) (j := j) hb
        rw [if_neg hin, List.getElem?_eq_getElem hj, List.getElem?_eq_getElem hj'] at this
        simpa using this
       rw [e]
       exact h3.mono hE
    ·simp only [AS.setO] at hx
     rw [upd_ne _ _ hxo] at hx
     obtain ⟨a, b, c⟩ := S.obj x cs' hx
     refine ⟨a, b, fun j hj => ?_⟩
     obtain ⟨u, h1, h2, h3⟩ := c j hj
     have hne : (M.obj x).1 ≠ (M.obj o).1 := fun e => hxo (S.inj x o (by rw [hx]; rfl) (by rw [ho]; rfl) e)
     have e := setCells_heap_ne (M.obj o).1 v'.cells.toList ((M.obj o).2 + off + 0) w _ hne
     exact ⟨u, (cell?_of_heap e).trans h1, (frozen?_of_heap e).trans h2, h3.mono hE⟩
   ·have key : ∀ z, ((σ.setO o (splice cs off v.cells)).objs z).isSome = true → (σ.objs z).isSome = true := by
     intro z hz
     by_cases hzo : z = o
     ·subst hzo; rw [ho]; rfl
     ·simp only [AS.setO] at hz; rwa [upd_ne _ _ hzo] at hz
    exact S.inj x y (key x hx) (key y hy) hxy
 ·rename_i f b u
  obtain ⟨hfd, hk, hn, hu, hone, hK⟩ := h
  cases hp with
  | pv _ _ B off c hm hc hv' =>
  obtain ⟨hfl, hm⟩ := hm
  obtain ⟨hrole, hmem⟩ := hm hfd
  obtain ⟨l1, l2, l3⟩ := cells_list hv hk hone
  have hrun := run_storeCells_cells (P := P) B off v'.cells.toList 0 w (fun j hj => by rw [Nat.add_zero]; exact (hmem j (by omega)).1) (fun j hj => by rw [Nat.add_zero]; exact (hmem j (by omega)).2) l2
  have hE : Ext M σ.F w M (upd σ.F f .spoiled) (w.setCells B (off + 0) v'.cells.toList) := by
   refine ext_setCells hrole (by simp) (by intro g hg _; cases hg; rw [upd_same]; simp) (fun g hg hd => ?_) (fun g hg hd => ?_) _ _
   ·by_cases e : g = f
    ·subst e; exact absurd hd hfd
    ·rw [upd_ne _ _ e]; exact hd
   ·by_cases e : g = f
    ·subst e; rw [upd_same]; simp
    ·rw [upd_ne _ _ e, hd]; simp
  refine ⟨_, _, ?_, hK, ?_, hE⟩
  ·have hsz : v'.cells.size = v.cells.length := by simpa using l1
   simp only [Instr.storeAt, Instr.sureAddr, storeVar, Sem.run_bind, Sem.run_pure, Result.andThen_ok, run_sizeOf' hn, Sem.run_ite]
   rw [if_neg (by rw [hsz]; simp)]
   exact hrun
  ·refine ⟨S.no, S.nf, fun B r hr => by rw [setCells_size]; exact S.role B r hr, fun x cs' hx => ?_, S.inj⟩
   obtain ⟨a, b', c'⟩ := S.obj x cs' hx
   refine ⟨a, b', fun j hj => ?_⟩
   obtain ⟨q, h1, h2, h3⟩ := c' j hj
   have hne : (M.obj x).1 ≠ B := by rintro e; rw [e, hrole] at b'; cases b'
   have e := setCells_heap_ne B v'.cells.toList (off + 0) w _ hne
   exact ⟨q, (cell?_of_heap e).trans h1, (frozen?_of_heap e).trans h2, h3.mono hE⟩
 ·exact h.elim
end Go.Abs
namespace Go.Abs
open Go
def elBytes (P : Program) (t : TypeId) : Option Nat :=
 match P.underlying t with
 | some (.slice e) => (P.info? e).map (·.bytes)
 | _ => none
def asource (P : Program) (tX : TypeId) (zero : AV) (sz : Nat) (x : AV) (F : Nat → FSt) (K : List AV → Prop) : Prop :=
 match x with
 | .int _ n => (intOf? P tX).isSome = true ∧ 0 ≤ n ∧ n < 2 ^ 40 ∧ K (List.replicate n.toNat zero)
 | .nilsl => (elOf P tX).isSome = true ∧ K []
 | .sl φ s ys => elOf P tX = some s ∧ s = sz ∧ Readable F φ ∧ K ys
 | .str bs => isStr P tX = true ∧ sz = 1 ∧ K (bs.map fun b => .int .u8 b.toNat)
 | _ => False
structure Src (P : Program) (M : Mp) (F : Nat → FSt) (w : World) (e tX : TypeId) (sz : Nat) (x' : Value) (ys : List AV) (zeros : Bool) (new : Array Value) : Prop where
 typ : ∃ d, P.underlying tX = some d ∧ (zeros = true ↔ ∃ k, d = .int k)
 len : ∀ w', zeros = false → (Builtin.lenOf x').run P w' = .ok ys.length w'
 first : ∀ w', w'.heap = w.heap → zeros = false → (Builtin.firstCells sz ys.length x').run P w' = .ok new w'
 num : zeros = true → ∃ k, x' = .int k ys.length ∧ ys.length < 2 ^ 40
 fill : ∀ zv, zeros = true → ∀ w', (zeroValue e).run P w' = .ok zv w' → new = if ys.length * sz = 0 then #[] else Builtin.zeroCells zv.cells ys.length
 cells : Cells M F w (flat ys) new
theorem zeroCells_eq (z : Array Value) (n : Nat) : Builtin.zeroCells z n = (Array.range (n * z.size)).map fun i => z[i % z.size]! := rfl
theorem asource_sound {P : Program} {tX zero sz x F} {K : List AV → Prop} {e : TypeId} (hz : zeroOf P e = some zero) (hzk : zero.known = true) (hzl : zero.cells.length = sz)
  (h : asource P tX zero sz x F K) :
  ∃ ys, K ys ∧ ∀ M F' w x', (∀ φ, Readable F φ → Readable F' φ) → VR M F' w x x' → ∃ zeros new, Src P M F' w e tX sz x' ys zeros new := by
 unfold asource at h
 split at h
 ·rename_i k n
  obtain ⟨hi, h0, h1, hK⟩ := h
  obtain ⟨k', hk'⟩ := Option.isSome_iff_exists.1 hi
  refine ⟨_, hK, fun M F' w x' hF hx => ?_⟩
  obtain ⟨zv, hzv, rfl⟩ := zeroOf_spec hz w
  have hzr := ofVal_VR M F' w zv
  have hcz := Cells.zeros hzr hzk hzl n.toNat
  have hzs : zv.cells.size = sz := by rw [(hzr.cells_rel hzk).1, hzl]
  refine ⟨true, (Array.range (n.toNat * sz)).map fun i => zv.cells[i % zv.cells.size]!, ⟨⟨_, intOf?_spec hk', by simp⟩, by simp, by simp, fun _ => ⟨k, ?_, by simp; omega⟩, ?_, hcz⟩⟩
  ·rw [hx.int_inv]; simp; omega
  ·intro zv' _ w' hw'
   have : zv' = zv := by
    unfold zeroOf at hz
    have hzv2 := hzv
    unfold zeroValue at hw' hzv2
    cases hi2 : P.info? e with
    | none => simp [typeInfo, hi2] at hw'
    | some i =>
     simp [typeInfo, hi2] at hw' hzv2
     cases hiz : i.zero with
     | none => simp [hiz] at hw'
     | some u => simp [hiz] at hw' hzv2; rw [← hw', ← hzv2]
   subst this
   simp only [List.length_replicate]
   split
   ·rename_i h0'
    have : n.toNat * sz = 0 := h0'
    rw [this, show Array.range 0 = #[] from rfl, Array.map_empty]
   ·rw [zeroCells_eq, hzs]
 ·obtain ⟨he, hK⟩ := h
  obtain ⟨s, he⟩ := Option.isSome_iff_exists.1 he
  obtain ⟨e', hu, hs⟩ := elOf_spec he
  refine ⟨_, hK, fun M F' w x' hF hx => ⟨false, #[], ⟨⟨_, hu, by simp⟩, fun w' _ => ?_, fun w' _ _ => ?_, by simp, by simp, ⟨by simp [flat], by simp [flat]⟩⟩⟩⟩
  ·rw [nilsl_inv hx]; simp [Builtin.lenOf]
  ·rw [nilsl_inv hx]; simp [Builtin.firstCells]
 ·rename_i φ s ys
  obtain ⟨he, rfl, hrd, hK⟩ := h
  obtain ⟨e', hu, hs⟩ := elOf_spec he
  refine ⟨_, hK, fun M F' w x' hF hx => ?_⟩
  cases hx with
  | slz b sz a => exact ⟨false, #[], ⟨⟨_, hu, by simp⟩, fun w' _ => by simp [Builtin.lenOf], fun w' hw' _ => by have := run_loadCells_list (P := P) w' a [] (by simp); simpa [Builtin.firstCells] using this, by simp, by simp, ⟨by simp [flat], by simp [flat]⟩⟩⟩
  | sl _ _ _ B off cap cs hcap hlit hsz hm hc hv =>
  have hfl := flat_length s ys hsz
  refine ⟨false, ((List.range (flat ys).length).map cs).toArray, ⟨⟨_, hu, by simp⟩, fun w' _ => by simp [Builtin.lenOf], fun w' hw' _ => ?_, by simp, by simp, ?_⟩⟩
  ·simp only [Builtin.firstCells]
   have := run_loadCells_list (P := P) w' ⟨B, off, none⟩ ((List.range (flat ys).length).map cs) (fun j v hj => by
    obtain ⟨h1, rfl⟩ := List.getElem?_eq_some_iff.1 hj
    simp at h1
    rw [addr_add, cell?_of_heap (w := w) (by rw [hw'])]
    simp only [List.getElem_map, List.getElem_range]
    exact hc (hF _ hrd) j h1)
   simp only [List.length_map, List.length_range, hfl] at this
   rw [this, hfl]
  ·refine Cells.of (by simp) (fun j h1 h2 => ?_)
   simpa using hv (hF _ hrd) j h1
 ·rename_i bs
  obtain ⟨hs, rfl, hK⟩ := h
  refine ⟨_, hK, fun M F' w x' hF hx => ?_⟩
  obtain ⟨b, rfl, rfl⟩ := hx.str_inv
  refine ⟨false, (b.data.map fun b => .int .u8 b.toNat), ⟨⟨_, isStr_spec hs, by simp⟩, fun w' _ => ?_, fun w' _ _ => ?_, by simp, by simp, ?_⟩⟩
  ·simp [Builtin.lenOf]
  ·have hlen : (b.data.toList.map fun c => AV.int .u8 c.toNat).length = b.size := by simp
   rw [hlen]
   have hb : b.extract 0 b.size = b := by simp
   simp [Builtin.firstCells, hb]
  ·refine ⟨?_, fun j v hj => ?_⟩
   ·rw [flat_length 1 _ (by intro x hx; simp at hx; obtain ⟨c, _, rfl⟩ := hx; rfl)]; simp
   ·have : flat (b.data.toList.map fun c => AV.int .u8 c.toNat) = b.data.toList.map fun c => AV.int .u8 c.toNat := by
     simp [flat, AV.cells, List.flatMap_map]
     induction b.data.toList with
     | nil => rfl
     | cons a l ih => simp [List.flatMap_cons, ih]
    rw [this] at hj
    obtain ⟨h1, rfl⟩ := List.getElem?_eq_some_iff.1 hj
    simp at h1
    refine ⟨.int .u8 (b.data[j]).toNat, ?_, ?_⟩
    ·rw [Array.getElem?_map, Array.getElem?_eq_getElem (by simpa using h1)]; rfl
    ·simp; exact .int ..
 ·exact h.elim
theorem wrap_nat {n : Nat} (h : n < 2 ^ 62) : IntKind.i64.wrap (n : Int) = n := by
 have e : (n : Int) % (2 ^ IntKind.i64.bits : Int) = n := by
  show (n : Int) % (2 ^ 64 : Int) = n
  omega
 simp only [IntKind.wrap, e]
 rw [if_neg]
 simp [IntKind.bits, IntKind.signed]
 omega
theorem run_append_fit {P : Program} {tS tX e : TypeId} {sz : Nat} (hu : P.underlying tS = some (.slice e)) (hs : szOf P e = some sz) {i : TypeInfo} (hi : P.info? e = some i) {zv : Value} (hz : i.zero = some zv)
  {M F} {w : World} {x' : Value} {ys zeros new} (hsrc : Src P M F w e tX sz x' ys zeros new) (hb : zeros = true → ys.length * i.bytes ≤ 2 ^ 47)
  {B off len cap : Nat} (hfit : len + ys.length ≤ cap) (hc : ∀ j, j < new.toList.length → (w.cell? ⟨B, off + len * sz + j, none⟩).isSome = true)
  (hf : ∀ j, j < new.toList.length → w.frozen? ⟨B, off + len * sz + j, none⟩ = false) (h1 : ∀ v ∈ new.toList, v.oneCell' = true) (ty : TypeId) :
  (Builtin.append_ #[tS, tX] ty #[.slice (some ⟨B, off, none⟩) len cap, x']).run P w = .ok (.slice (some ⟨B, off, none⟩) (len + ys.length) cap) (w.setCells B (off + len * sz) new.toList) := by
 have hst := run_storeCells_cells (P := P) B (off + len * sz) new.toList 0 w (by simpa using hc) (by simpa using hf) h1
 rw [Nat.add_zero] at hst
 have hzv : ∀ w', (zeroValue e).run P w' = .ok zv w' := fun w' => by simp [zeroValue, typeInfo, hi, hz]
 have hti : ∀ w', (typeInfo e).run P w' = .ok i w' := fun w' => by simp [typeInfo, hi]
 obtain ⟨d, hd, hzi⟩ := hsrc.typ
 have ea : (#[tS, tX] : Array TypeId)[0]? = some tS := rfl
 have eb : (#[tS, tX] : Array TypeId)[1]? = some tX := rfl
 have ec : (#[Value.slice (some ⟨B, off, none⟩) len cap, x'] : Array Value)[0]? = some (.slice (some ⟨B, off, none⟩) len cap) := rfl
 have ed : (#[Value.slice (some ⟨B, off, none⟩) len cap, x'] : Array Value)[1]? = some x' := rfl
 unfold Builtin.append_
 rw [ea, eb, ec, ed]
 simp only [Sem.run_bind, run_underlying hu, run_underlying hd, run_sizeOf' hs, Result.andThen_ok, Sem.run_pure]
 cases zeros with
 | false =>
  cases d
  case int k => exact absurd (hzi.2 ⟨_, rfl⟩) (by simp)
  all_goals
   simp only [Bool.false_eq_true, if_false, hsrc.len w rfl, Result.andThen_ok, Sem.run_ite, hfit, if_true, Bool.not_false, Sem.run_bind, hsrc.first w rfl rfl, addr_add, hst, Sem.run_pure]
 | true =>
  obtain ⟨k, rfl⟩ := hzi.1 rfl
  obtain ⟨k', rfl, hlt⟩ := hsrc.num rfl
  have hw : IntKind.i64.wrap (ys.length : Int) = ys.length := wrap_nat (by omega)
  have hb' := hb rfl
  have hb2 : ¬ ((ys.length : Int) * (i.bytes : Int) > 2 ^ 48) := by
   have : ((ys.length * i.bytes : Nat) : Int) ≤ 2 ^ 47 := by exact_mod_cast hb'
   rw [Int.natCast_mul] at this
   omega
  have hnew := hsrc.fill zv rfl w (hzv w)
  have h0 : ¬ ((ys.length : Int) < 0) := by omega
  simp only [if_true, asInt, asIntOf, Sem.run_bind, Sem.run_pure, Result.andThen_ok, hw, Sem.run_ite, if_neg h0, hti, if_neg hb2, Int.toNat_natCast, hfit, Bool.not_true, Bool.false_eq_true, if_false]
  by_cases hz0 : ys.length * sz = 0
  ·rw [if_pos hz0] at hnew
   subst hnew
   simp only [if_pos hz0, Result.andThen_ok, addr_add]
   rfl
  ·rw [if_neg hz0] at hnew
   subst hnew
   simp only [if_neg hz0, hzv, Result.andThen_ok, addr_add, hst]
theorem run_append_grow {P : Program} {tS tX e : TypeId} {sz : Nat} (hu : P.underlying tS = some (.slice e)) (hs : szOf P e = some sz) {i : TypeInfo} (hi : P.info? e = some i) {zv : Value} (hz : i.zero = some zv)
  {M F} {w : World} {x' : Value} {ys zeros new} (hsrc : Src P M F w e tX sz x' ys zeros new) {base : Option Addr} {len cap : Nat} (hfit : ¬ len + ys.length ≤ cap) (hbound : (len + ys.length) * i.bytes ≤ 2 ^ 47)
  (hpos : i.bytes ≠ 0) {old : Array Value} (hold : ∀ w', w'.heap = w.heap → (Builtin.firstCells sz len (.slice base len cap)).run P w' = .ok old w') (ty : TypeId) :
  ∃ newCap w', len + ys.length ≤ newCap ∧ (Builtin.append_ #[tS, tX] ty #[.slice base len cap, x']).run P w = .ok (.slice (some ⟨w.heap.size, 0, none⟩) (len + ys.length) newCap) w' ∧
   w'.heap = w.heap.push (.cells (old ++ new ++ Builtin.zeroCells zv.cells (newCap - (len + ys.length))) e) ∧ SameIO w w' := by
 have hzv : ∀ w', (zeroValue e).run P w' = .ok zv w' := fun w' => by simp [zeroValue, typeInfo, hi, hz]
 have hti : ∀ w', (typeInfo e).run P w' = .ok i w' := fun w' => by simp [typeInfo, hi]
 obtain ⟨d, hd, hzi⟩ := hsrc.typ
 have hcap : cap < len + ys.length := by omega
 have hgrow : ¬ (Builtin.nextslicecap (len + ys.length) cap * i.bytes > 2 ^ 48) := by
  have := growslice_fits hcap hbound; omega
 have hlen47 : len + ys.length ≤ 2 ^ 47 := by
  have : (len + ys.length) * 1 ≤ (len + ys.length) * i.bytes := Nat.mul_le_mul_left _ (by omega)
  omega
 have hmax : ¬ (((len + ys.length : Nat) : Int) > IntKind.i64.max) := by simp [IntKind.max, IntKind.signed, IntKind.bits]; omega
 have ea : (#[tS, tX] : Array TypeId)[0]? = some tS := rfl
 have eb : (#[tS, tX] : Array TypeId)[1]? = some tX := rfl
 have ec : (#[Value.slice base len cap, x'] : Array Value)[0]? = some (.slice base len cap) := rfl
 have ed : (#[Value.slice base len cap, x'] : Array Value)[1]? = some x' := rfl
 have hforced : (Question.appendCap (len + ys.length) cap e).forced = false := rfl
 generalize hcut : (Question.appendCap (len + ys.length) cap e).cut (w.tape w.drawn (.appendCap (len + ys.length) cap e)) = newCap
 have hle : len + ys.length ≤ newCap := by rw [← hcut]; exact Nat.le_add_right _ _
 refine ⟨newCap, { w with drawn := w.drawn + 1, heap := w.heap.push (.cells (old ++ new ++ Builtin.zeroCells zv.cells (newCap - (len + ys.length))) e) }, hle, ?_, rfl, ⟨rfl, rfl, rfl⟩⟩
 unfold Builtin.append_
 rw [ea, eb, ec, ed]
 simp only [Sem.run_bind, run_underlying hu, run_underlying hd, run_sizeOf' hs, Result.andThen_ok, Sem.run_pure]
 cases zeros with
 | false =>
  cases d
  case int k => exact absurd (hzi.2 ⟨_, rfl⟩) (by simp)
  all_goals
   simp only [Bool.false_eq_true, if_false, hsrc.len w rfl, Result.andThen_ok, Sem.run_ite, hfit, Bool.not_false, if_true, Sem.run_bind, hti, hmax, false_and, hgrow, run_choose, hforced, hcut, run_askRoom, Sem.run_pure]
   simp only [hold { w with drawn := w.drawn + 1 } rfl, Result.andThen_ok, hsrc.first { w with drawn := w.drawn + 1 } rfl rfl, hzv, newRow, run_newObj, Sem.run_bind, Sem.run_pure]
 | true =>
  obtain ⟨k, rfl⟩ := hzi.1 rfl
  obtain ⟨k', rfl, hlt⟩ := hsrc.num rfl
  have hw : IntKind.i64.wrap (ys.length : Int) = ys.length := wrap_nat (by omega)
  have hb2 : ¬ ((ys.length : Int) * (i.bytes : Int) > 2 ^ 48) := by
   have h1 : ys.length * i.bytes ≤ (len + ys.length) * i.bytes := Nat.mul_le_mul_right _ (by omega)
   have : ((ys.length * i.bytes : Nat) : Int) ≤ 2 ^ 47 := by exact_mod_cast Nat.le_trans h1 hbound
   rw [Int.natCast_mul] at this
   omega
  have h0 : ¬ ((ys.length : Int) < 0) := by omega
  simp only [if_true, asInt, asIntOf, Sem.run_bind, Sem.run_pure, Result.andThen_ok, hw, Sem.run_ite, if_neg h0, hti, if_neg hb2, Int.toNat_natCast, hfit, Bool.not_true, Bool.false_eq_true, if_false, hmax, false_and,
   hgrow, run_choose, hforced, hcut, run_askRoom]
  simp only [hold { w with drawn := w.drawn + 1 } rfl]
  by_cases hz0 : ys.length * sz = 0
  ·have hnew := hsrc.fill zv rfl w (hzv w)
   rw [if_pos hz0] at hnew
   simp only [if_pos hz0, Result.andThen_ok, hzv, newRow, run_newObj, Sem.run_bind, Sem.run_pure, hnew]
  ·have hnew := hsrc.fill zv rfl w (hzv w)
   rw [if_neg hz0] at hnew
   simp only [if_neg hz0, hzv, Result.andThen_ok, newRow, run_newObj, Sem.run_bind, Sem.run_pure, hnew]
end Go.Abs
namespace Go.Abs
open Go
theorem upd_ite {α : Type} (f : Nat → α) (i : Nat) (x : α) (j : Nat) : upd f i x j = if j = i then x else f j := rfl
open Classical in
noncomputable def Mp.own (M : Mp) (f B off : Nat) : Mp := { M with role := fun C => if M.role C = some (.fam f) then some .obj else M.role C, obj := upd M.obj M.no (B, off), no := M.no + 1 }
theorem ext_own {M : Mp} {F : Nat → FSt} {w : World} {f B off : Nat} (h : F f = .alive) : Ext M F w (M.own f B off) (upd F f .dead) w where
 io := .refl _
 no := by simp [Mp.own]
 nf := Nat.le_refl _
 obj o ho := by simp only [Mp.own]; rw [upd_ne _ _ (by omega)]
 dead g _ hd := by simp only [upd_ite]; split <;> simp_all
 spoil g _ hs := by simp only [upd_ite]; split <;> simp_all
 size := Nat.le_refl _
 shape _ c _ _ h := ⟨c, h, rfl⟩
 stat B hB := ⟨by simp [Mp.own, hB], rfl⟩
 free B _ hB := ⟨by simp [Mp.own, hB], rfl⟩
 famr B g _ hB hd := by
  have hg : g ≠ f := by intro e; subst e; simp [upd_ite] at hd
  exact (if_neg (by rw [hB]; simpa using hg)).trans hB
 famc _ _ _ _ _ := rfl
def AS.ownV (σ : AS) (f : Nat) (xs : List AV) : AS :=
 { σ with F := upd σ.F f .dead, objs := upd σ.objs σ.no (some xs), no := σ.no + 1 }
theorem Sim.ownV {M : Mp} {σ : AS} {w : World} {f : Nat} {xs : List AV} {b : Bool} {sz : Nat} {c : Value} (S : Sim M σ w) (ha : σ.F f = .alive) (hc3 : VR M σ.F w (.sl (.fam f b) sz xs) c) :
  ∃ B off, Sim (M.own f B off) (σ.ownV f (flat xs)) w ∧ VR (M.own f B off) (upd σ.F f .dead) w (.slm σ.no 0 sz xs.length) c := by
 cases hc3 with
 | sl _ _ _ B off cap vs hcap hlit hsz hm hc hv =>
 have E := ext_own (M := M) (w := w) (B := B) (off := off) ha
 obtain ⟨hf, hmem⟩ := hm
 obtain ⟨hrole, hcell⟩ := hmem (by rw [ha]; simp)
 have hno := S.no
 have hfl := flat_length sz xs hsz
 refine ⟨B, off, ⟨by simp [Mp.own, AS.ownV, S.no], S.nf, fun C r h => ?_, fun o cs' h => ?_, fun o o' h h' => ?_⟩, ?_⟩
 ·simp only [Mp.own] at h
  split at h
  ·rename_i h1; exact S.role C _ h1
  ·exact S.role C r h
 ·simp only [AS.ownV, upd_ite] at h
  split at h
  ·rename_i he
   subst he
   cases h
   refine ⟨by simp [AS.ownV], ?_, fun i hi => ?_⟩
   ·simp [Mp.own, hno, upd_ite, hrole]
   ·refine ⟨vs i, ?_, ?_, ?_⟩
    ·simp only [Mp.own, hno, upd_same]; exact hc ha i hi
    ·simp only [Mp.own, hno, upd_same]; exact (hcell i (by rw [hfl] at hi; have := Nat.mul_le_mul_right sz hcap; omega)).2
    ·exact (hv ha i hi).mono E
  ·obtain ⟨g1, g2, g3⟩ := S.obj o cs' h
   refine ⟨by simp [AS.ownV]; omega, ?_, fun i hi => ?_⟩
   ·simp only [Mp.own]; rw [upd_ne _ _ (by omega)]; simp [g2]
   ·obtain ⟨d, d1, d2, d3⟩ := g3 i hi
    refine ⟨d, ?_, ?_, d3.mono E⟩
    ·simp only [Mp.own]; rw [upd_ne _ _ (by omega)]; exact d1
    ·simp only [Mp.own]; rw [upd_ne _ _ (by omega)]; exact d2
 ·have key : ∀ p, (((σ.ownV f (flat xs)).objs p).isSome = true) → p ≠ σ.no → (σ.objs p).isSome = true := fun p hp hne => by
   simp only [AS.ownV, upd_ite] at hp
   rw [if_neg hne] at hp
   exact hp
  have blk : ∀ p, p ≠ σ.no → ((M.own f B off).obj p).1 = (M.obj p).1 := fun p hp => by simp only [Mp.own]; rw [upd_ne _ _ (by omega)]
  have blk0 : ((M.own f B off).obj σ.no).1 = B := by simp [Mp.own, hno, upd_same]
  have no' : ∀ p, (σ.objs p).isSome = true → (M.obj p).1 ≠ B := fun p hp e => by
   obtain ⟨ds, hds⟩ := Option.isSome_iff_exists.1 hp
   have := (S.obj p ds hds).2.1
   rw [e, hrole] at this
   cases this
  by_cases e1 : o = σ.no <;> by_cases e2 : o' = σ.no
  ·omega
  ·intro hh; subst e1; rw [blk0, blk o' e2] at hh; exact absurd hh.symm (no' o' (key o' h' e2))
  ·intro hh; subst e2; rw [blk0, blk o e1] at hh; exact absurd hh (no' o (key o h e1))
  ·intro hh; rw [blk o e1, blk o' e2] at hh; exact S.inj o o' (key o h e1) (key o' h' e2) hh
 ·have := VR.slm (M := M.own f B off) (F := upd σ.F f .dead) (w := w) σ.no 0 sz xs.length cap (by simp [Mp.own, hno, upd_same]) hcap (fun j hj => by simpa [Mp.own, hno, upd_same] using hcell j hj)
  simpa [Mp.own, hno, upd_same] using this
def AS.famV (σ : AS) (o : Nat) : AS := { σ with F := upd σ.F σ.nf .alive, nf := σ.nf + 1, objs := upd σ.objs o none }
open Classical in
noncomputable def Mp.famV (M : Mp) (B : Nat) : Mp := { M with role := fun C => if C = B then some (.fam M.nf) else M.role C, nf := M.nf + 1 }
theorem Sim.famV {M : Mp} {σ : AS} {w : World} {o sz len : Nat} {rows cs : List AV} {c : Value} (S : Sim M σ w) (ho : σ.objs o = some cs) (hv : VR M σ.F w (.slm o 0 sz len) c) (hl : rows.length = len) (hr : flat rows = cs.take (len * sz)) (hle : len * sz ≤ cs.length) (hsz : ∀ x ∈ rows, x.cells.length = sz) :
  ∃ M', Sim M' (σ.famV o) w ∧ VR M' (σ.famV o).F w (.sl (.fam σ.nf false) sz rows) c ∧ Ext M σ.F w M' (σ.famV o).F w := by
 obtain ⟨hlt, cap, hcap, rfl, hroom⟩ := slm_room hv
 obtain ⟨h1, h2, h3⟩ := S.obj o cs ho
 have hnf := S.nf
 have hB := h2
 have E : Ext M σ.F w (M.famV (M.obj o).1) (upd σ.F σ.nf .alive) w := {
  io := .refl _
  no := Nat.le_refl _
  nf := Nat.le_succ _
  obj := fun _ _ => rfl
  dead := fun k hk hd => by rw [upd_ne _ _ (by omega)]; exact hd
  spoil := fun k hk hs => by rw [upd_ne _ _ (by omega), hs]; simp
  size := Nat.le_refl _
  shape := fun _ c _ _ h => ⟨c, h, rfl⟩
  stat := fun C hC => ⟨by simp only [Mp.famV]; rw [if_neg (fun e => by rw [e, hB] at hC; cases hC)]; exact hC, rfl⟩
  free := fun C _ hC => ⟨by simp only [Mp.famV]; rw [if_neg (fun e => by rw [e, hB] at hC; cases hC)]; exact hC, rfl⟩
  famr := fun C g _ hC _ => by simp only [Mp.famV]; rw [if_neg (fun e => by rw [e, hB] at hC; cases hC)]; exact hC
  famc := fun _ _ _ _ _ => rfl }
 refine ⟨M.famV (M.obj o).1, ⟨S.no, by simp [Mp.famV, AS.famV, hnf], fun C r h => ?_, fun p ds h => ?_, fun p p' h h' => ?_⟩, ?_, E⟩
 ·simp only [Mp.famV] at h
  split at h
  ·rename_i e
   subst e
   exact S.role _ _ h2
  ·exact S.role C r h
 ·simp only [AS.famV, upd_ite] at h
  split at h
  ·cases h
  rename_i hne
  obtain ⟨g1, g2, g3⟩ := S.obj p ds h
  have hb : (M.obj p).1 ≠ (M.obj o).1 := fun e => hne (S.inj p o (by simp [h]) (by simp [ho]) e)
  refine ⟨g1, ?_, fun i hi => ?_⟩
  ·show (M.famV (M.obj o).1).role (M.obj p).1 = some .obj
   simp only [Mp.famV]
   rw [if_neg hb]
   exact g2
  ·obtain ⟨d, d1, d2, d3⟩ := g3 i hi
   exact ⟨d, d1, d2, d3.mono E⟩
 ·have key : ∀ q, ((σ.famV o).objs q).isSome = true → (σ.objs q).isSome = true := fun q hq => by
   simp only [AS.famV, upd_ite] at hq
   split at hq
   ·cases hq
   ·exact hq
  exact S.inj p p' (key p h) (key p' h')
 ·have hfl := flat_length sz rows hsz
  have hlen : (flat rows).length = len * sz := by rw [hr, List.length_take]; omega
  have := VR.sl (M := M.famV (M.obj o).1) (F := upd σ.F σ.nf .alive) (w := w) (.fam σ.nf false) sz rows (M.obj o).1 (M.obj o).2 cap (fun j => if hj : j < cs.length then (h3 j hj).choose else .nilFunc) (by omega) (by simp [Own.full]) hsz
   ⟨by simp [Mp.famV, hnf], fun _ => ⟨by simp [Mp.famV, hnf], fun j hj => by simpa using hroom j hj⟩⟩
   (fun _ j hj => by
    have hj' : j < cs.length := by omega
    simp only [hj', dif_pos]
    exact (h3 j hj').choose_spec.1)
   (fun _ j hj => by
    have hj' : j < cs.length := by omega
    simp only [hj', dif_pos]
    have e : (flat rows)[j] = cs[j] := by
     have := List.getElem_of_eq hr hj
     rw [this]
     simp
    rw [e]
    exact (h3 j hj').choose_spec.2.2.mono E)
  rw [hl] at this
  exact this
def rowsOf (sz : Nat) : Nat → List AV → List AV
 | 0, _ => []
 | n + 1, cs => .agg (cs.take sz) :: rowsOf sz n (cs.drop sz)
theorem rowsOf_spec (sz : Nat) : ∀ (n : Nat) (cs : List AV), n * sz ≤ cs.length → (rowsOf sz n cs).length = n ∧ flat (rowsOf sz n cs) = cs.take (n * sz) ∧ ∀ x ∈ rowsOf sz n cs, x.cells.length = sz
 | 0, cs, _ => by simp [rowsOf, flat]
 | n + 1, cs, h => by
  rw [Nat.add_mul, Nat.one_mul] at h
  obtain ⟨h1, h2, h3⟩ := rowsOf_spec sz n (cs.drop sz) (by simp; omega)
  refine ⟨by simp [rowsOf, h1], ?_, fun x hx => ?_⟩
  ·have e : flat (rowsOf sz (n + 1) cs) = cs.take sz ++ flat (rowsOf sz n (cs.drop sz)) := by simp [rowsOf, flat, AV.cells]
   rw [e, h2, Nat.add_mul, Nat.one_mul, Nat.add_comm (n * sz) sz, List.take_add]
  ·rw [rowsOf] at hx
   rcases List.mem_cons.1 hx with rfl | hx
   ·simp only [AV.cells, List.length_take]; omega
   ·exact h3 x hx
def AS.moveO (σ : AS) (o : Nat) (cs : List AV) : AS :=
 { objs := upd (upd σ.objs o none) σ.no (some cs), no := σ.no + 1, F := upd (upd (upd (upd σ.F σ.nf .alive) σ.nf .dead) (σ.nf + 1) .alive) (σ.nf + 1) .dead, nf := σ.nf + 1 + 1 }
theorem readable_alive {F : Nat → FSt} {n : Nat} {φ : Own} (h : Readable F φ) : Readable (upd F n .alive) φ := by
 cases φ with
 | stat b => trivial
 | fam f b =>
  simp only [Readable, upd_ite] at h ⊢
  split
  ·rfl
  ·exact h
def aappend (P : Program) (tS tX : TypeId) (s x : AV) (σ : AS) (K : AV → AS → Prop) : Prop :=
 ∃ sz bs z, elOf P tS = some sz ∧ elBytes P tS = some bs ∧ 0 < bs ∧ elZero P tS = some z ∧ z.known = true ∧ z.cells.length = sz ∧ 0 < sz ∧
  asource P tX z sz x σ.F fun ys => (∀ y ∈ ys, y.cells.length = sz ∧ ∀ c ∈ y.cells, c.one = true) ∧
   match s with
   | .nilsl => ys.length * bs ≤ 2 ^ 47 ∧ (ys = [] → K .nilsl σ) ∧ (ys ≠ [] → K (.sl (.fam σ.nf false) sz ys) σ.newF)
   | .sl (.stat true) s' xs => s' = sz ∧ (xs.length + ys.length) * bs ≤ 2 ^ 47 ∧ (ys = [] → K (.sl (.stat true) s' xs) σ) ∧ (ys ≠ [] → K (.sl (.fam σ.nf false) sz (xs ++ ys)) σ.newF)
   | .sl (.fam f true) s' xs => s' = sz ∧ (xs.length + ys.length) * bs ≤ 2 ^ 47 ∧ σ.F f = .alive ∧ (ys = [] → K (.sl (.fam f true) s' xs) σ) ∧ (ys ≠ [] → K (.sl (.fam σ.nf false) sz (xs ++ ys)) σ.newF)
   | .sl (.fam f false) s' xs => s' = sz ∧ (xs.length + ys.length) * bs ≤ 2 ^ 47 ∧ σ.F f = .alive ∧ K (.sl (.fam σ.nf false) sz (xs ++ ys)) (σ.setF f .dead).newF
   | .sl (.stat false) s' xs => ys = [] ∧ K (.sl (.stat false) s' xs) σ
   | .slm o off s' len => s' = sz ∧ off = 0 ∧ (len + ys.length) * bs ≤ 2 ^ 47 ∧ ∃ cs, σ.objs o = some cs ∧ len * sz ≤ cs.length ∧ K (.slm σ.no 0 sz (len + ys.length)) (σ.moveO o (cs.take (len * sz) ++ flat ys))
   | _ => False
def Mp.newFam (M : Mp) (B : Nat) : Mp := { M with role := upd M.role B (some (.fam M.nf)), nf := M.nf + 1 }
theorem ext_newFam {M F F'} {w w' : World} (hM : ∀ B r, M.role B = some r → B < w.heap.size) (o : Obj) (hw : w'.heap = w.heap.push o) (hio : SameIO w w') (hF : ∀ g, g < M.nf → F' g = F g ∨ F' g = .dead) :
  Ext M F w (M.newFam w.heap.size) F' w' := by
 have hlt : ∀ B, B < w.heap.size → w'.heap[B]? = w.heap[B]? := fun B hB => by rw [hw]; simp [Array.getElem?_push, Nat.ne_of_lt hB]
 refine ⟨hio, Nat.le_refl _, by simp [Mp.newFam], fun _ _ => rfl, fun f hf hd => ?_, fun f hf hd => ?_, by rw [hw]; simp, fun B c e z h => ?_, fun B h => ?_, fun B hB h => ?_, fun B f hf h hd => ?_, fun B f hf h hd => ?_⟩
 ·rcases hF f hf with e | e
  ·rw [e, hd]
  ·exact e
 ·rcases hF f hf with e | e
  ·rw [e, hd]; simp
  ·rw [e]; simp
 ·have hB : B < w.heap.size := (Array.getElem?_eq_some_iff.1 h).1
  exact ⟨c, by rw [hlt B hB]; exact h, rfl⟩
 ·have hB := hM B _ h
  exact ⟨by simp only [Mp.newFam]; rw [upd_ne _ _ (by omega)]; exact h, hlt B hB⟩
 ·exact ⟨by simp only [Mp.newFam]; rw [upd_ne _ _ (by omega)]; exact h, hlt B hB⟩
 ·have hB := hM B _ h
  simp only [Mp.newFam]; rw [upd_ne _ _ (by omega)]; exact h
 ·exact hlt B (hM B _ h)
theorem sim_newFam {M σ} {w w' : World} (S : Sim M σ w) (o : Obj) (hw : w'.heap = w.heap.push o) (hio : SameIO w w') {F' : Nat → FSt} (hF : ∀ g, g < M.nf → F' g = σ.F g ∨ F' g = .dead) :
  Sim (M.newFam w.heap.size) { σ with F := F', nf := σ.nf + 1 } w' := by
 have hE := ext_newFam (F := σ.F) S.role o hw hio hF
 refine ⟨S.no, by simp [Mp.newFam, S.nf], fun B r h => ?_, fun x cs hx => ?_, S.inj⟩
 ·simp only [Mp.newFam, upd] at h
  rw [hw]
  split at h
  ·simp; omega
  ·have := S.role B r h
   simp; omega
 ·obtain ⟨a, b, c⟩ := S.obj x cs hx
  have hB := S.role _ _ b
  refine ⟨a, by simp only [Mp.newFam]; rw [upd_ne _ _ (by omega)]; exact b, fun j hj => ?_⟩
  obtain ⟨v, h1, h2, h3⟩ := c j hj
  have e : w'.heap[(M.obj x).1]? = w.heap[(M.obj x).1]? := by rw [hw]; simp [Array.getElem?_push, Nat.ne_of_lt hB]
  exact ⟨v, (cell?_of_heap e).trans h1, (frozen?_of_heap e).trans h2, h3.mono hE⟩
theorem ext_grow {M F F'} {w : World} {B f : Nat} (hr : M.role B = some (.fam f)) (hf : F' f = .dead) (hF : ∀ g, g < M.nf → F' g = F g ∨ F' g = .dead) (vs : List Value) (o : Nat) :
  Ext M F w (M.newFam B) F' (w.setCells B o vs) := by
 refine ⟨setCells_io _ _ _ _, Nat.le_refl _, by simp [Mp.newFam], fun _ _ => rfl, fun f hf hd => ?_, fun f hf hd => ?_, by rw [setCells_size]; exact Nat.le_refl _, fun C c e z h => ?_, fun C h => ?_, fun C hC h => ?_, fun C g hg h hd => ?_, fun C g hg h hd => ?_⟩
 ·rcases hF f hf with e | e
  ·rw [e, hd]
  ·exact e
 ·rcases hF f hf with e | e
  ·rw [e, hd]; simp
  ·rw [e]; simp
 ·by_cases hB : C = B
  ·subst hB; exact setCells_heap_eq C vs o w c e z h
  ·exact ⟨c, by rw [setCells_heap_ne B vs o w C hB]; exact h, rfl⟩
 ·have hne : C ≠ B := by rintro rfl; rw [h] at hr; cases hr
  exact ⟨by simp only [Mp.newFam]; rw [upd_ne _ _ hne]; exact h, setCells_heap_ne B vs o w C hne⟩
 ·have hne : C ≠ B := by rintro rfl; rw [h] at hr; cases hr
  exact ⟨by simp only [Mp.newFam]; rw [upd_ne _ _ hne]; exact h, setCells_heap_ne B vs o w C hne⟩
 ·have hne : C ≠ B := by rintro rfl; rw [h] at hr; cases hr; exact hd hf
  simp only [Mp.newFam]; rw [upd_ne _ _ hne]; exact h
 ·have hne : C ≠ B := by rintro rfl; rw [h] at hr; cases hr; rw [hf] at hd; cases hd
  exact setCells_heap_ne B vs o w C hne
theorem sim_grow {M σ} {w : World} (S : Sim M σ w) {B f : Nat} (hr : M.role B = some (.fam f)) {F' : Nat → FSt} (hf : F' f = .dead) (hF : ∀ g, g < M.nf → F' g = σ.F g ∨ F' g = .dead) (vs : List Value) (o : Nat) :
  Sim (M.newFam B) { σ with F := F', nf := σ.nf + 1 } (w.setCells B o vs) := by
 have hE := ext_grow (F := σ.F) (w := w) hr hf hF vs o
 refine ⟨S.no, by simp [Mp.newFam, S.nf], fun C r h => ?_, fun x cs hx => ?_, S.inj⟩
 ·rw [setCells_size]
  simp only [Mp.newFam, upd] at h
  split at h
  ·rename_i e; subst e; exact S.role C _ hr
  ·exact S.role C r h
 ·obtain ⟨a, b, c⟩ := S.obj x cs hx
  have hne : (M.obj x).1 ≠ B := by rintro e; rw [e, hr] at b; cases b
  refine ⟨a, by simp only [Mp.newFam]; rw [upd_ne _ _ hne]; exact b, fun j hj => ?_⟩
  obtain ⟨v, h1, h2, h3⟩ := c j hj
  have e := setCells_heap_ne B vs o w _ hne
  exact ⟨v, (cell?_of_heap e).trans h1, (frozen?_of_heap e).trans h2, h3.mono hE⟩
def Post (M : Mp) (F : Nat → FSt) (w : World) (K : AV → AS → Prop) (v' : Value) (w' : World) : Prop :=
 ∃ v σ' M', K v σ' ∧ VR M' σ'.F w' v v' ∧ Sim M' σ' w' ∧ Ext M F w M' σ'.F w'
theorem elBytes_spec {P : Program} {t b e} (h : elBytes P t = some b) (hu : P.underlying t = some (.slice e)) : ∃ i, P.info? e = some i ∧ i.bytes = b := by
 unfold elBytes at h; rw [hu] at h
 cases hi : P.info? e with
 | none => simp [hi] at h
 | some i => simp [hi] at h; exact ⟨i, rfl, h⟩
theorem flat_one {ys : List AV} (h : ∀ y ∈ ys, ∀ c ∈ y.cells, c.one = true) : ∀ c ∈ flat ys, c.one = true := by
 intro c hc
 simp only [flat, List.mem_flatMap] at hc
 obtain ⟨y, hy, hc⟩ := hc
 exact h y hy c hc
theorem post_new {P : Program} {M σ} {w : World} (S : Sim M σ w) {tS tX e : TypeId} {sz : Nat} (hu : P.underlying tS = some (.slice e)) (hs : szOf P e = some sz) {i : TypeInfo} (hi : P.info? e = some i)
  (hb0 : 0 < i.bytes) {zv : Value} (hz : i.zero = some zv) (hzs : zv.cells.size = sz) {x' : Value} {ys : List AV} {zeros new} (hsrc : Src P M σ.F w e tX sz x' ys zeros new) (hys : ∀ y ∈ ys, y.cells.length = sz)
  {base : Option Addr} {xs : List AV} {cap : Nat} (hfit : ¬ xs.length + ys.length ≤ cap) (hbound : (xs.length + ys.length) * i.bytes ≤ 2 ^ 47) (hxs : ∀ y ∈ xs, y.cells.length = sz)
  {old : Array Value} (hold : ∀ w', w'.heap = w.heap → (Builtin.firstCells sz xs.length (.slice base xs.length cap)).run P w' = .ok old w') (hco : Cells M σ.F w (flat xs) old) (ty : TypeId)
  {F' : Nat → FSt} (hF : ∀ g, g < σ.nf → F' g = σ.F g ∨ F' g = .dead) {K : AV → AS → Prop} (hK : K (.sl (.fam σ.nf false) sz (xs ++ ys)) { σ with F := F', nf := σ.nf + 1 }) :
  ∃ v' w', (Builtin.append_ #[tS, tX] ty #[.slice base xs.length cap, x']).run P w = .ok v' w' ∧ Post M σ.F w K v' w' := by
 obtain ⟨newCap, w', hle, hrun, hheap, hio⟩ := run_append_grow hu hs hi hz hsrc hfit hbound (by omega) hold ty
 have hF2 : ∀ g, g < M.nf → F' g = σ.F g ∨ F' g = .dead := by rw [S.nf]; exact hF
 have hE := ext_newFam (F := σ.F) S.role _ hheap hio hF2
 refine ⟨_, _, hrun, _, _, _, hK, ?_, sim_newFam S _ hheap hio hF2, hE⟩
 have hlen : (xs ++ ys).length = xs.length + ys.length := by simp
 have hall : ∀ y ∈ xs ++ ys, y.cells.length = sz := by
  intro y hy; rcases List.mem_append.1 hy with h | h
  ·exact hxs y h
  ·exact hys y h
 have hflx := flat_length sz xs hxs
 have hfly := flat_length sz ys hys
 have hcell : ∀ j, w'.cell? ⟨w.heap.size, 0 + j, none⟩ = (old ++ new ++ Builtin.zeroCells zv.cells (newCap - (xs.length + ys.length)))[j]? := by
  intro j; simp [World.cell?, hheap]
 have hfz : ∀ j, w'.frozen? ⟨w.heap.size, 0 + j, none⟩ = false := by
  intro j; simp [World.frozen?, hheap]
 have hsz : (old ++ new ++ Builtin.zeroCells zv.cells (newCap - (xs.length + ys.length))).size = newCap * sz := by
  simp only [Array.size_append, size_zeroCells, hzs, hco.1, hsrc.cells.1, hflx, hfly]
  rw [← Nat.add_mul, ← Nat.add_mul]; congr 1; omega
 have hflat : (flat (xs ++ ys)).length = xs.length * sz + ys.length * sz := by rw [flat_append, List.length_append, hflx, hfly]
 have hget : ∀ (j : Nat) v, (flat (xs ++ ys))[j]? = some v → ∃ c, (old ++ new ++ Builtin.zeroCells zv.cells (newCap - (xs.length + ys.length)))[j]? = some c ∧ VR M σ.F w v c := by
  intro j v hj
  rw [flat_append] at hj
  by_cases h : j < (flat xs).length
  ·rw [List.getElem?_append_left h] at hj
   obtain ⟨c, h1, h2⟩ := hco.2 j v hj
   refine ⟨c, ?_, h2⟩
   rw [Array.append_assoc, Array.getElem?_append_left (by rw [hco.1]; exact h)]
   exact h1
  ·rw [List.getElem?_append_right (by omega)] at hj
   obtain ⟨c, h1, h2⟩ := hsrc.cells.2 _ v hj
   have h3 := (List.getElem?_eq_some_iff.1 hj).1
   refine ⟨c, ?_, h2⟩
   rw [Array.getElem?_append_left (by simp only [Array.size_append, hco.1, hsrc.cells.1]; omega), Array.getElem?_append_right (by rw [hco.1]; omega), hco.1]
   exact h1
 rw [← hlen]
 refine .sl _ sz (xs ++ ys) w.heap.size 0 newCap (fun j => ((old ++ new ++ Builtin.zeroCells zv.cells (newCap - (xs.length + ys.length)))[j]?).getD undef) (by omega) (by simp [Own.full]) hall ?_ (fun _ j hj => ?_) (fun _ j hj => ?_)
 ·refine ⟨by simp [Mp.newFam, S.nf], fun _ => ⟨by simp [Mp.newFam, upd, S.nf], fun j hj => ⟨?_, hfz j⟩⟩⟩
  rw [hcell, Array.getElem?_eq_getElem (by rw [hsz]; exact hj)]; rfl
 ·obtain ⟨c, h1, h2⟩ := hget j _ (List.getElem?_eq_getElem hj)
  rw [hcell, h1]; rfl
 ·obtain ⟨c, h1, h2⟩ := hget j _ (List.getElem?_eq_getElem hj)
  rw [h1]
  exact h2.mono hE
theorem post_grow {P : Program} {M σ} {w : World} (S : Sim M σ w) {tS tX e : TypeId} {sz : Nat} (hu : P.underlying tS = some (.slice e)) (hs : szOf P e = some sz) {i : TypeInfo} (hi : P.info? e = some i)
  {zv : Value} (hz : i.zero = some zv) {x' : Value} {ys : List AV} {zeros new} (hsrc : Src P M σ.F w e tX sz x' ys zeros new) (hys : ∀ y ∈ ys, y.cells.length = sz) (hone : ∀ y ∈ ys, ∀ c ∈ y.cells, c.one = true)
  {xs : List AV} {f B off cap : Nat} (hfit : xs.length + ys.length ≤ cap) (hbound : (xs.length + ys.length) * i.bytes ≤ 2 ^ 47)
  (hv : VR M σ.F w (.sl (.fam f false) sz xs) (.slice (some ⟨B, off, none⟩) xs.length cap)) (hal : σ.F f = .alive) (ty : TypeId)
  {K : AV → AS → Prop} (hK : K (.sl (.fam σ.nf false) sz (xs ++ ys)) (σ.setF f .dead).newF) :
  ∃ v' w', (Builtin.append_ #[tS, tX] ty #[.slice (some ⟨B, off, none⟩) xs.length cap, x']).run P w = .ok v' w' ∧ Post M σ.F w K v' w' := by
 cases hv with
 | sl _ _ _ _ _ _ cs hcap hlit hxs hm hc hv =>
 obtain ⟨hfl, hm⟩ := hm
 obtain ⟨hr, hmem⟩ := hm (by rw [hal]; simp)
 have hfn : f ≠ σ.nf := by rw [← S.nf]; omega
 have hflx := flat_length sz xs hxs
 have hfly := flat_length sz ys hys
 have hnl : new.toList.length = ys.length * sz := by simp [hsrc.cells.1, hfly]
 have hroom : xs.length * sz + ys.length * sz ≤ cap * sz := by rw [← Nat.add_mul]; exact Nat.mul_le_mul_right _ hfit
 have hcell : ∀ j, j < new.toList.length → (w.cell? ⟨B, off + xs.length * sz + j, none⟩).isSome = true := fun j hj => by
  rw [Nat.add_assoc]; exact (hmem _ (by omega)).1
 have hfz : ∀ j, j < new.toList.length → w.frozen? ⟨B, off + xs.length * sz + j, none⟩ = false := fun j hj => by
  rw [Nat.add_assoc]; exact (hmem _ (by omega)).2
 have hnv : ∀ v ∈ new.toList, v.oneCell' = true := by
  intro v hv'
  obtain ⟨j, hj, rfl⟩ := List.getElem_of_mem hv'
  have hj' : j < new.size := by simpa using hj
  have := hsrc.cells.get j (by rw [← hsrc.cells.1]; exact hj') hj'
  simp only [Array.getElem_toList]
  exact this.oneCell (flat_one hone _ (List.getElem_mem _))
 have hrun := run_append_fit hu hs hi hz hsrc (fun _ => Nat.le_trans (Nat.mul_le_mul_right _ (Nat.le_add_left _ _)) hbound) hfit hcell hfz hnv ty
 have hF : ∀ g, g < M.nf → (upd (upd σ.F f .dead) σ.nf .alive) g = σ.F g ∨ (upd (upd σ.F f .dead) σ.nf .alive) g = .dead := by
  intro g hg
  rw [upd_ne _ _ (by rw [← S.nf]; omega)]
  by_cases e : g = f
  ·subst e; right; rw [upd_same]
  ·left; rw [upd_ne _ _ e]
 have hFf : (upd (upd σ.F f .dead) σ.nf .alive) f = .dead := by rw [upd_ne _ _ hfn, upd_same]
 have hE := ext_grow (F := σ.F) (w := w) hr hFf hF new.toList (off + xs.length * sz)
 refine ⟨_, _, hrun, _, _, _, hK, ?_, sim_grow S hr hFf hF _ _, hE⟩
 have hlen : (xs ++ ys).length = xs.length + ys.length := by simp
 have hall : ∀ y ∈ xs ++ ys, y.cells.length = sz := by
  intro y hy; rcases List.mem_append.1 hy with h | h
  ·exact hxs y h
  ·exact hys y h
 have hget : ∀ (j : Nat) v, (flat (xs ++ ys))[j]? = some v → ∃ c, (w.setCells B (off + xs.length * sz) new.toList).cell? ⟨B, off + j, none⟩ = some c ∧ VR M σ.F w v c := by
  intro j v hj
  rw [flat_append] at hj
  by_cases h : j < (flat xs).length
  ·rw [List.getElem?_append_left h] at hj
   obtain ⟨h1, rfl⟩ := List.getElem?_eq_some_iff.1 hj
   refine ⟨cs j, ?_, hv hal j h1⟩
   rw [World.cell?_setCells_out]
   ·exact hc hal j h1
   ·intro _ _; left; simp only; omega
  ·rw [List.getElem?_append_right (by omega)] at hj
   obtain ⟨c, h1, h2⟩ := hsrc.cells.2 _ v hj
   have h3 := (List.getElem?_eq_some_iff.1 hj).1
   have h4 : j - (flat xs).length < new.toList.length := by omega
   refine ⟨c, ?_, h2⟩
   have := World.cell?_setCells_in B new.toList (off + xs.length * sz) w hcell (j - (flat xs).length) h4
   rw [show off + j = off + xs.length * sz + (j - (flat xs).length) by omega, this]
   rw [← h1, Array.getElem_toList]
   exact (Array.getElem?_eq_getElem (by simpa using h4)).symm
 rw [← hlen]
 refine .sl _ sz (xs ++ ys) B off cap (fun j => (((w.setCells B (off + xs.length * sz) new.toList).cell? ⟨B, off + j, none⟩)).getD undef) (by omega) (by simp [Own.full]) hall ?_ (fun _ j hj => ?_) (fun _ j hj => ?_)
 ·refine ⟨by simp [Mp.newFam, S.nf], fun _ => ⟨by simp [Mp.newFam, upd, S.nf], fun j hj => ?_⟩⟩
  exact hE.keeps (hmem j hj).1 (hmem j hj).2
 ·obtain ⟨c, h1, h2⟩ := hget j _ (List.getElem?_eq_getElem hj)
  rw [h1]; rfl
 ·obtain ⟨c, h1, h2⟩ := hget j _ (List.getElem?_eq_getElem hj)
  rw [h1]
  exact h2.mono hE
theorem Post.same {M σ} {w w' : World} {K : AV → AS → Prop} {v v'} (S : Sim M σ w) (hK : K v σ) (hw : w'.heap = w.heap) (hio : SameIO w w') (hv : VR M σ.F w v v') : Post M σ.F w K v' w' :=
 ⟨v, σ, M, hK, hv.mono (.of_heap hw hio), S.of_heap hw hio, .of_heap hw hio⟩
theorem run_append_none {P : Program} {tS tX e : TypeId} {sz : Nat} (hu : P.underlying tS = some (.slice e)) (hs : szOf P e = some sz) {i : TypeInfo} (hi : P.info? e = some i) {zv : Value} (hz : i.zero = some zv)
  {M F} {w : World} {x' : Value} {zeros new} (hsrc : Src P M F w e tX sz x' [] zeros new) {ad : Addr} {len cap : Nat} (hfit : len ≤ cap) (ty : TypeId) :
  (Builtin.append_ #[tS, tX] ty #[.slice (some ad) len cap, x']).run P w = .ok (.slice (some ad) len cap) w := by
 have hn : new.toList = [] := by
  have := hsrc.cells.1
  simp [flat] at this
  simp [this]
 have hnew0 : new = #[] := by simpa using hn
 subst hnew0
 have hst : ∀ (a : Addr), (storeCells a (#[] : Array Value).toList).run P w = .ok () w := fun a => rfl
 have hzv : ∀ w', (zeroValue e).run P w' = .ok zv w' := fun w' => by simp [zeroValue, typeInfo, hi, hz]
 have hti : ∀ w', (typeInfo e).run P w' = .ok i w' := fun w' => by simp [typeInfo, hi]
 obtain ⟨d, hd, hzi⟩ := hsrc.typ
 have ea : (#[tS, tX] : Array TypeId)[0]? = some tS := rfl
 have eb : (#[tS, tX] : Array TypeId)[1]? = some tX := rfl
 have ec : (#[Value.slice (some ad) len cap, x'] : Array Value)[0]? = some (.slice (some ad) len cap) := rfl
 have ed : (#[Value.slice (some ad) len cap, x'] : Array Value)[1]? = some x' := rfl
 have hfit' : len + ([] : List AV).length ≤ cap := by simpa using hfit
 unfold Builtin.append_
 rw [ea, eb, ec, ed]
 simp only [Sem.run_bind, run_underlying hu, run_underlying hd, run_sizeOf' hs, Result.andThen_ok, Sem.run_pure]
 cases zeros with
 | false =>
  cases d
  case int k => exact absurd (hzi.2 ⟨_, rfl⟩) (by simp)
  all_goals
   simp only [Bool.false_eq_true, if_false, hsrc.len w rfl, Result.andThen_ok, Sem.run_ite, hfit', if_true, Bool.not_false, Sem.run_bind, hsrc.first w rfl rfl, hst, Sem.run_pure]
   rfl
 | true =>
  obtain ⟨k, rfl⟩ := hzi.1 rfl
  obtain ⟨k', rfl, hlt⟩ := hsrc.num rfl
  have hw : IntKind.i64.wrap (([] : List AV).length : Int) = 0 := wrap_nat (n := 0) (by omega)
  have hnb : ¬ ((0 : Int) * (i.bytes : Int) > 2 ^ 48) := by omega
  simp only [if_true, asInt, asIntOf, Sem.run_bind, Sem.run_pure, Result.andThen_ok, hw, Sem.run_ite, hti, if_neg hnb, show ¬ ((0 : Int) < 0) by omega, if_false, Int.toNat_zero, Nat.add_zero, hfit, Bool.not_true,
   Bool.false_eq_true, Nat.zero_mul]
  rfl
theorem run_append_nil {P : Program} {tS tX e : TypeId} {sz : Nat} (hu : P.underlying tS = some (.slice e)) (hs : szOf P e = some sz) {i : TypeInfo} (hi : P.info? e = some i) {zv : Value} (hz : i.zero = some zv)
  {M F} {w : World} {x' : Value} {zeros new} (hsrc : Src P M F w e tX sz x' [] zeros new) (ty : TypeId) :
  (Builtin.append_ #[tS, tX] ty #[.slice none 0 0, x']).run P w = .ok (.slice none 0 0) w := by
 have hzv : ∀ w', (zeroValue e).run P w' = .ok zv w' := fun w' => by simp [zeroValue, typeInfo, hi, hz]
 have hti : ∀ w', (typeInfo e).run P w' = .ok i w' := fun w' => by simp [typeInfo, hi]
 obtain ⟨d, hd, hzi⟩ := hsrc.typ
 have ea : (#[tS, tX] : Array TypeId)[0]? = some tS := rfl
 have eb : (#[tS, tX] : Array TypeId)[1]? = some tX := rfl
 have ec : (#[Value.slice none 0 0, x'] : Array Value)[0]? = some (.slice none 0 0) := rfl
 have ed : (#[Value.slice none 0 0, x'] : Array Value)[1]? = some x' := rfl
 unfold Builtin.append_
 rw [ea, eb, ec, ed]
 simp only [Sem.run_bind, run_underlying hu, run_underlying hd, run_sizeOf' hs, Result.andThen_ok, Sem.run_pure]
 cases zeros with
 | false =>
  cases d
  case int k => exact absurd (hzi.2 ⟨_, rfl⟩) (by simp)
  all_goals
   simp only [Bool.false_eq_true, if_false, hsrc.len w rfl, List.length_nil, Result.andThen_ok, Sem.run_ite, Nat.add_zero, Nat.le_refl, if_true, Bool.not_false, Sem.run_bind, Sem.run_pure]
   have h1 := hsrc.first w rfl rfl
   simp only [List.length_nil] at h1
   rw [h1]
   rfl
 | true =>
  obtain ⟨k, rfl⟩ := hzi.1 rfl
  obtain ⟨k', rfl, hlt⟩ := hsrc.num rfl
  have hw : IntKind.i64.wrap (([] : List AV).length : Int) = 0 := wrap_nat (n := 0) (by omega)
  have hnb : ¬ ((0 : Int) * (i.bytes : Int) > 2 ^ 48) := by omega
  simp only [if_true, asInt, asIntOf, Sem.run_bind, Sem.run_pure, Result.andThen_ok, hw, Sem.run_ite, hti, if_neg hnb, show ¬ ((0 : Int) < 0) by omega, if_false, Int.toNat_zero, Nat.add_zero, Nat.le_refl, Bool.not_true,
   Bool.false_eq_true, Nat.zero_mul]
theorem aappend_sound {P : Program} {tS tX s x σ} {K : AV → AS → Prop} (h : aappend P tS tX s x σ K) {M w s' x'} (S : Sim M σ w) (hs' : VR M σ.F w s s') (hx' : VR M σ.F w x x') (ty : TypeId) :
  ∃ v' w', (Builtin.append_ #[tS, tX] ty #[s', x']).run P w = .ok v' w' ∧ Post M σ.F w K v' w' := by
 obtain ⟨sz, bs, z, he, hb, hb0, hz, hzk, hzl, hsz0, h⟩ := h
 obtain ⟨e, hu, hs⟩ := elOf_spec he
 obtain ⟨i, hi, rfl⟩ := elBytes_spec hb hu
 have hz' : zeroOf P e = some z := by unfold elZero at hz; rw [hu] at hz; exact hz
 obtain ⟨zv, hzv, hzof⟩ : ∃ zv, i.zero = some zv ∧ z = ofVal zv := by
  unfold zeroOf at hz'
  rw [hi] at hz'
  cases hq : i.zero with
  | none => simp [hq] at hz'
  | some v => simp [hq] at hz'; exact ⟨v, rfl, hz'.symm⟩
 have hzs : zv.cells.size = sz := by
  have := (ofVal_VR M σ.F w zv).cells_rel (by rw [← hzof]; exact hzk)
  rw [this.1, ← hzof, hzl]
 obtain ⟨ys, ⟨hys, hK⟩, hsrc⟩ := asource_sound hz' hzk hzl h
 have hsrcF := hsrc
 obtain ⟨zeros, new, hsrc⟩ := hsrc M σ.F w x' (fun _ h => h) hx'
 have hy1 : ∀ y ∈ ys, y.cells.length = sz := fun y hy => (hys y hy).1
 have hy2 : ∀ y ∈ ys, ∀ c ∈ y.cells, c.one = true := fun y hy => (hys y hy).2
 have hnew : ∀ g, g < σ.nf → (upd σ.F σ.nf .alive) g = σ.F g ∨ (upd σ.F σ.nf .alive) g = .dead := fun g hg => .inl (upd_ne _ _ (by omega))
 -- a slice that is read
 have holdF : ∀ {M : Mp} {F : Nat → FSt} {φ xs c ad cap}, VR M F w (.sl φ sz xs) c → c = .slice (some ad) xs.length cap → Readable F φ → (∀ y ∈ xs, y.cells.length = sz) ∧
   ∃ old, (∀ w', w'.heap = w.heap → (Builtin.firstCells sz xs.length (.slice (some ad) xs.length cap)).run P w' = .ok old w') ∧ Cells M F w (flat xs) old := by
  intro M F φ xs c ad cap hv hcc hrd
  cases hv with
  | slz b sz a => exact ⟨by simp, #[], fun w' _ => by have := run_loadCells_list (P := P) w' ad [] (by simp); simpa [Builtin.firstCells] using this, ⟨by simp [flat], by simp [flat]⟩⟩
  | sl _ _ _ B off _ cs hcap hlit hsz hm hc hv =>
  cases hcc
  have hfl := flat_length sz xs hsz
  refine ⟨hsz, ((List.range (flat xs).length).map cs).toArray, fun w' hw' => ?_, Cells.of (by simp) (fun j h1 h2 => by simpa using hv hrd j h1)⟩
  simp only [Builtin.firstCells]
  have := run_loadCells_list (P := P) w' ⟨B, off, none⟩ ((List.range (flat xs).length).map cs) (fun j v hj => by
   obtain ⟨h1, rfl⟩ := List.getElem?_eq_some_iff.1 hj
   simp at h1
   rw [addr_add, cell?_of_heap (w := w) (by rw [hw'])]
   simp only [List.getElem_map, List.getElem_range]
   exact hc hrd j h1)
  simp only [List.length_map, List.length_range, hfl] at this
  rw [this, hfl]
 have hold : ∀ {φ xs c ad cap}, VR M σ.F w (.sl φ sz xs) c → c = .slice (some ad) xs.length cap → Readable σ.F φ → (∀ y ∈ xs, y.cells.length = sz) ∧
   ∃ old, (∀ w', w'.heap = w.heap → (Builtin.firstCells sz xs.length (.slice (some ad) xs.length cap)).run P w' = .ok old w') ∧ Cells M σ.F w (flat xs) old := fun a b c => holdF a b c
 split at hK
 ·obtain ⟨hbd, k1, k2⟩ := hK
  rw [nilsl_inv hs']
  by_cases hn : ys = []
  ·subst hn
   exact ⟨_, _, run_append_nil hu hs hi hzv hsrc ty, .same S (k1 rfl) rfl (.refl _) .nilsl⟩
  ·have hpos : 0 < ys.length := List.length_pos_iff.2 hn
   exact post_new (K := K) S hu hs hi hb0 hzv hzs hsrc hy1 (base := none) (xs := []) (cap := 0) (by simp; omega) (by simpa using hbd) (by simp) (old := #[]) (fun w' _ => by simp [Builtin.firstCells])
    ⟨by simp [flat], by simp [flat]⟩ ty hnew (k2 hn)
 ·rename_i s1 xs
  obtain ⟨rfl, hbd, k1, k2⟩ := hK
  obtain ⟨ad, cap, rfl, hcap⟩ := sl_inv hs'
  by_cases hn : ys = []
  ·subst hn
   exact ⟨_, _, run_append_none hu hs hi hzv hsrc hcap ty, .same S (k1 rfl) rfl (.refl _) hs'⟩
  ·have hpos : 0 < ys.length := List.length_pos_iff.2 hn
   obtain ⟨hx1, old, ho, hco⟩ := hold hs' rfl trivial
   have hl : cap = xs.length := by cases hs' with | slz => rfl | sl _ _ _ _ _ _ _ _ hl => exact hl rfl
   exact post_new (K := K) S hu hs hi hb0 hzv hzs hsrc hy1 (by omega) hbd hx1 ho hco ty hnew (k2 hn)
 ·rename_i f s1 xs
  obtain ⟨rfl, hbd, hal, k1, k2⟩ := hK
  obtain ⟨ad, cap, rfl, hcap⟩ := sl_inv hs'
  by_cases hn : ys = []
  ·subst hn
   exact ⟨_, _, run_append_none hu hs hi hzv hsrc hcap ty, .same S (k1 rfl) rfl (.refl _) hs'⟩
  ·have hpos : 0 < ys.length := List.length_pos_iff.2 hn
   obtain ⟨hx1, old, ho, hco⟩ := hold hs' rfl hal
   have hl : cap = xs.length := by cases hs' with | sl _ _ _ _ _ _ _ _ hl => exact hl rfl
   exact post_new (K := K) S hu hs hi hb0 hzv hzs hsrc hy1 (by omega) hbd hx1 ho hco ty hnew (k2 hn)
 ·rename_i f s1 xs
  obtain ⟨rfl, hbd, hal, k⟩ := hK
  obtain ⟨B, off, cap, rfl, hcap⟩ := sl_inv_fam hs'
  by_cases hfit : xs.length + ys.length ≤ cap
  ·exact post_grow (K := K) S hu hs hi hzv hsrc hy1 hy2 hfit hbd hs' hal ty k
  ·obtain ⟨hx1, old, ho, hco⟩ := hold hs' rfl hal
   refine post_new (K := K) S hu hs hi hb0 hzv hzs hsrc hy1 hfit hbd hx1 ho hco ty (F' := upd (upd σ.F f .dead) σ.nf .alive) (fun g hg => ?_) k
   rw [upd_ne _ _ (by omega)]
   by_cases e : g = f
   ·subst e; right; rw [upd_same]
   ·left; rw [upd_ne _ _ e]
 ·rename_i s1 xs
  obtain ⟨rfl, k⟩ := hK
  obtain ⟨ad, cap, rfl, hcap⟩ := sl_inv hs'
  exact ⟨_, _, run_append_none hu hs hi hzv hsrc hcap ty, .same S k rfl (.refl _) hs'⟩
 ·rename_i o off s1 len
  obtain ⟨rfl, rfl, hbd, cs, ho, hle, k⟩ := hK
  obtain ⟨r1, r2, r3⟩ := rowsOf_spec s1 len cs hle
  obtain ⟨M1, S1, v1, E1⟩ := S.famV ho hs' r1 r2 hle r3
  obtain ⟨zeros1, new1, hsrc1⟩ := hsrcF M1 (σ.famV o).F w x' (fun φ h => readable_alive h) (hx'.mono E1)
  obtain ⟨B, boff, cap, rfl, hcap⟩ := sl_inv_fam v1
  have hbd' : ((rowsOf s1 len cs).length + ys.length) * i.bytes ≤ 2 ^ 47 := by rw [r1]; exact hbd
  have hal : (σ.famV o).F σ.nf = .alive := by simp [AS.famV, upd_same]
  have fin : ∃ v' w', (Builtin.append_ #[tS, tX] ty #[.slice (some ⟨B, boff, none⟩) (rowsOf s1 len cs).length cap, x']).run P w = .ok v' w' ∧
    Post M1 (σ.famV o).F w (fun v σ2 => v = .sl (.fam (σ.famV o).nf false) s1 (rowsOf s1 len cs ++ ys) ∧ σ2 = ((σ.famV o).setF σ.nf .dead).newF) v' w' := by
   by_cases hfit : (rowsOf s1 len cs).length + ys.length ≤ cap
   ·exact post_grow S1 hu hs hi hzv hsrc1 hy1 hy2 hfit hbd' v1 hal ty ⟨rfl, rfl⟩
   ·obtain ⟨hx1, old, hold1, hco⟩ := holdF v1 rfl hal
    refine post_new S1 hu hs hi hb0 hzv hzs hsrc1 hy1 hfit hbd' hx1 hold1 hco ty (F' := upd (upd (σ.famV o).F σ.nf .dead) (σ.famV o).nf .alive) (fun g hg => ?_) ⟨rfl, rfl⟩
    rw [upd_ne _ _ (by omega)]
    by_cases e : g = σ.nf
    ·subst e; right; rw [upd_same]
    ·left; rw [upd_ne _ _ e]
  obtain ⟨v', w', hrun, v2, σ2, M2, ⟨rfl, rfl⟩, v3, S2, E2⟩ := fin
  obtain ⟨B2, off2, S3, v4⟩ := S2.ownV (show ((σ.famV o).setF σ.nf .dead).newF.F (σ.nf + 1) = .alive from upd_same _ _ _) v3
  have E3 := ext_own (M := M2) (w := w') (B := B2) (off := off2) (F := ((σ.famV o).setF σ.nf .dead).newF.F) (f := σ.nf + 1) (upd_same _ _ _)
  have hst : (((σ.famV o).setF σ.nf .dead).newF).ownV (σ.nf + 1) (flat (rowsOf s1 len cs ++ ys)) = σ.moveO o (cs.take (len * s1) ++ flat ys) := by
   rw [flat_append, r2]; rfl
  have hln : (rowsOf s1 len cs ++ ys).length = len + ys.length := by rw [List.length_append, r1]
  have S3' : Sim (M2.own (σ.nf + 1) B2 off2) (σ.moveO o (cs.take (len * s1) ++ flat ys)) w' := hst ▸ S3
  rw [hln] at v4
  exact ⟨v', w', hrun, .slm σ.no 0 s1 (len + ys.length), σ.moveO o (cs.take (len * s1) ++ flat ys), M2.own (σ.nf + 1) B2 off2, k, v4, S3', E1.trans (E2.trans E3)⟩
 ·exact hK.elim
end Go.Abs
namespace Go.Abs
open Go
inductive Out where
 | ret (v : AV)
 | panic (v : AV)
def OutRel (M : Mp) (F : Nat → FSt) (w : World) : Out → Ending → Prop
 | .ret v, .returned v' => VR M F w v v'
 | .panic v, .panicked ch => ∃ v', ch = [{ v := v', recovered := false }] ∧ VR M F w v v'
 | _, _ => False
def YRun (P : Program) (G : Env) (M0 : Mp) (F0 : Nat → FSt) (w0 : World) (l f0 : Nat) (r : Loop) : Prop :=
 ∀ (args : List AV) (σ : AS) (K PK : AV → AS → Prop) (M : Mp) (w : World) (cargs : Array Value), G.y l args σ K PK → Sim M σ w → Ext M0 F0 w0 M σ.F w → M.role l = some (.fam f0) → w.heap[l]? = some (.loop r) → Cells M σ.F w args cargs →
  ∃ fn tmps assign body, (Instr.yield l cargs).run P w = .ok (.round l fn tmps assign body) w ∧ RoundIn Fence.wide 0 P l fn tmps assign body w fun e w'' => match e with
   | .returned v' => Post M σ.F w K v' w''
   | .panicked ch => ∃ v', ch = [{ v := v', recovered := false }] ∧ Post M σ.F w PK v' w''
   | .outgrown => False
structure GOk (P : Program) (G : Env) (M : Mp) (F : Nat → FSt) (w : World) : Prop where
 vars : ∀ g, VR M F w (G.g g) (.pointer (some ⟨g, 0, none⟩))
 yields : ∀ l, G.has l → ∃ r f0 M0 F0 w0, Ext M0 F0 w0 M F w ∧ f0 < M.nf ∧ (F f0 = .alive → M.role l = some (.fam f0) ∧ w.heap[l]? = some (.loop r)) ∧ (∀ args σ K PK, G.y l args σ K PK → σ.F f0 = .alive) ∧
  (∀ B r, M0.role B = some r → B < w0.heap.size) ∧ YRun P G M0 F0 w0 l f0 r
 fixed : ∀ B cs, G.fix B = some cs → M.role B = some .stat ∧ ∃ t fr, w.heap[B]? = some (.cells cs t fr)
theorem GOk.mono {P G M F w M' F' w'} (h : GOk P G M F w) (E : Ext M F w M' F' w') : GOk P G M' F' w' where
 vars g := (h.vars g).mono E
 yields l hl := by
  obtain ⟨r, f0, M0, F0, w0, E0, hf, h1, h2, h3, h4⟩ := h.yields l hl
  refine ⟨r, f0, M0, F0, w0, E0.trans E, Nat.lt_of_lt_of_le hf E.nf, fun ha => ?_, h2, h3, h4⟩
  obtain ⟨h5, h6⟩ := h1 (E.alive hf ha)
  exact ⟨E.famr l f0 hf h5 (by rw [ha]; simp), by rw [E.famc l f0 hf h5 ha, h6]⟩
 fixed B cs hB := by
  obtain ⟨hr, t, fr, hh⟩ := h.fixed B cs hB
  obtain ⟨h1, h2⟩ := E.stat B hr
  exact ⟨h1, t, fr, h2.trans hh⟩
def ACalls (P : Program) (G : Env) (f : FuncId) (args : List AV) (σ : AS) (R : Out → AS → Prop) : Prop :=
 ∀ (M : Mp) (w : World) (cargs : Array Value), Sim M σ w → GOk P G M σ.F w → Cells M σ.F w args cargs →
  Calls P f cargs w fun e w' => ∃ out σ' M', R out σ' ∧ OutRel M' σ'.F w' out e ∧ Sim M' σ' w' ∧ Ext M σ.F w M' σ'.F w'
theorem ACalls.mono {P G f args σ} {R R' : Out → AS → Prop} (h : ACalls P G f args σ R) (hr : ∀ o σ', R o σ' → R' o σ') : ACalls P G f args σ R' :=
 fun M w cargs S g c => (h M w cargs S g c).mono fun _ _ ⟨o, σ', M', a, b⟩ => ⟨o, σ', M', hr _ _ a, b⟩
def callable (P : Program) (f : FuncId) : Bool :=
 match P.funcs[f]? with
 | some fn => fn.body.isSome && !(fn.name == "runtime.NumGoroutine")
 | none => false
def isU8 (P : Program) (t : TypeId) : Bool :=
 match P.underlying t with
 | some (.slice e) => match P.underlying e with
  | some (.int .u8) => true
  | _ => false
 | _ => false
def B (bs : List UInt8) : List AV := bs.map fun b => .int .u8 b.toNat
def aconvE (P : Program) (s d : TypeId) (x : AV) (σ : AS) (K : AV → AS → Prop) : Prop :=
 match x with
 | .nilsl => isU8 P s = true ∧ isStr P d = true ∧ K (.str []) σ
 | .sl φ _ xs => isU8 P s = true ∧ isStr P d = true ∧ Readable σ.F φ ∧ ∃ bs, xs = B bs ∧ K (.str bs) σ
 | .slm o off _ len => isU8 P s = true ∧ isStr P d = true ∧ ∃ cs bs, σ.objs o = some cs ∧ off + len ≤ cs.length ∧ (cs.drop off).take len = B bs ∧ K (.str bs) σ
 | .str bs => isStr P s = true ∧ isU8 P d = true ∧ (K (.sl (.fam σ.nf false) 1 (B bs)) σ.newF ∨ K (.slm σ.no 0 1 bs.length) (σ.newO (B bs)))
 | _ => False
def amake (P : Program) (t : TypeId) (l c : AV) (σ : AS) (K : AV → AS → Prop) : Prop :=
 match l, c with
 | .int _ n, .int _ m => ∃ sz bs z, elOf P t = some sz ∧ elBytes P t = some bs ∧ elZero P t = some z ∧ z.known = true ∧ z.cells.length = sz ∧ n = m ∧ 0 ≤ n ∧ n < 2 ^ 40 ∧ n.toNat * bs ≤ 2 ^ 47 ∧
   K (.slm σ.no 0 sz n.toNat) (σ.newO (flat (List.replicate n.toNat z)))
 | _, _ => False
def abuildFam (P : Program) (t : TypeId) (n : Nat) (a : Operand → AV) (parts : List (Nat × Operand)) (σ : AS) (K : AV → AS → Prop) : Prop :=
 ∃ sz z, elOf P t = some sz ∧ elZero P t = some z ∧ z.known = true ∧ z.cells.length = sz ∧ 0 < sz ∧ n * sz ≤ 2 ^ 24 ∧ fillA n sz a parts (List.replicate n z) fun xs => K (.sl (.fam σ.nf true) sz xs) σ.newF
def acall (P : Program) (G : Env) (f : AV) (args : List AV) (σ : AS) (K : AV → AS → Prop) (PK : AV → AS → Prop) : Prop :=
 match f with
 | .fn (.func n) first cap => callable P n = true ∧ ACalls P G n (first ++ args ++ cap) σ fun o σ' => match o with
  | .ret v => K v σ'
  | .panic v => PK v σ'
 | .fn (.yield l) first cap => first = [] ∧ cap = [] ∧ G.has l ∧ G.y l args σ K PK
 | _ => False
def aeff (P : Program) (G : Env) (a : Operand → AV) (σ : AS) (K : AV → AS → Prop) (PK : AV → AS → Prop) : Op → Prop
 | .load t x => aload P t (a x) σ fun v => K v σ
 | .store t p x => astore P t (a p) (a x) σ fun σ' => K (.tuple []) σ'
 | .alloc t => ∃ z, zeroOf P t = some z ∧ z.known = true ∧ K (.ptr σ.no 0) (σ.newO z.cells)
 | .box _ x => (a x).known = true ∧ K (.ptr σ.no 0) (σ.newO (a x).cells)
 | .makeSlice t l c => amake P t (a l) (a c) σ K
 | .buildSlice t n parts => abuildFam P t n a parts.toList σ K
 | .convert s d x => match a x with
  | .int _ _ => aconv P s d (a x) fun v => K v σ
  | .str bs => (isStr P d = true → (P.underlying s).isSome = true ∧ K (.str bs) σ) ∧ (isStr P d = false → aconvE P s d (a x) σ K)
  | _ => aconvE P s d (a x) σ K
 | .panic x => match a x with
  | .iface t v => PK (.iface t v) σ
  | _ => False
 | .call c => match c.callee with
  | .builtin .append => match c.argTypes.toList, c.args.toList with
   | [t, u], [s, x] => aappend P t u (a s) (a x) σ K
   | _, _ => False
  | .value f => acall P G (a f) (c.args.toList.map a) σ K PK
  | _ => False
 | _ => False
def Lands (P : Program) (M : Mp) (F : Nat → FSt) (w : World) (K PK : AV → AS → Prop) : Result Next → Prop
 | .ok (.value v') w' => Post M F w K v' w'
 | .ok .skip w' => Post M F w K undef w'
 | .ok (.enter f args) w' => w' = w ∧ Calls P f args w fun e w'' => match e with
  | .returned v' => Post M F w K v' w''
  | .panicked ch => ∃ v', ch = [{ v := v', recovered := false }] ∧ Post M F w PK v' w''
  | .outgrown => False
 | .ok (.round l fn tmps assign body) w' => w' = w ∧ RoundIn Fence.wide 0 P l fn tmps assign body w fun e w'' => match e with
  | .returned v' => Post M F w K v' w''
  | .panicked ch => ∃ v', ch = [{ v := v', recovered := false }] ∧ Post M F w PK v' w''
  | .outgrown => False
 | .halt (.panic v') w' => Post M F w PK v' w'
 | _ => False
theorem isU8_spec {P : Program} {t} (h : isU8 P t = true) : ∃ e, P.underlying t = some (.slice e) ∧ P.underlying e = some (.int .u8) := by
 unfold isU8 at h
 split at h
 ·split at h
  ·exact ⟨_, ‹_›, ‹_›⟩
  ·cases h
 ·cases h
theorem flat_B (bs : List UInt8) : flat (B bs) = B bs := by
 induction bs with
 | nil => rfl
 | cons b bs ih => simp only [flat, B, List.map_cons, List.flatMap_cons, AV.cells] at *; rw [ih]; rfl
theorem B_size (bs : List UInt8) : ∀ x ∈ B bs, x.cells.length = 1 := by
 intro x hx; simp only [B, List.mem_map] at hx; obtain ⟨b, _, rfl⟩ := hx; rfl
theorem VR_byte {M F w b c} (h : VR M F w (.int .u8 ((b : UInt8).toNat : Int)) c) : c = .int .u8 (b.toNat : Int) := h.int_inv
theorem sim_newObjB {M σ} {w w' : World} (S : Sim M σ w) {A : Array Value} {e : TypeId} {z : Nat × Nat} {cs : List AV} (hw : w'.heap = w.heap.push (.cells A e z)) (hio : SameIO w w') (hl : cs.length ≤ A.size) (hv : ∀ j (h : j < cs.length), VR M σ.F w cs[j] (A[j]'(by omega)))
  (hz : ∀ j, j < cs.length → w'.frozen? ⟨w.heap.size, j, none⟩ = false) : Sim (M.newObj w.heap.size) (σ.newO cs) w' ∧ Ext M σ.F w (M.newObj w.heap.size) σ.F w' := by
 have hE : Ext M σ.F w (M.newObj w.heap.size) σ.F w' := (ext_newObj (F := σ.F) S.role (.cells A e z)).trans (.of_heap hw hio)
 refine ⟨⟨by simp [Mp.newObj, AS.newO, S.no], S.nf, fun B r' h => ?_, fun x cs' hx => ?_, fun x y hx hy hxy => ?_⟩, hE⟩
 ·simp only [Mp.newObj, upd] at h
  rw [hw]
  split at h
  ·simp; omega
  ·have := S.role B r' h
   simp; omega
 ·by_cases hxn : x = σ.no
  ·subst hxn
   simp only [AS.newO, upd_same] at hx
   cases hx
   refine ⟨by simp [AS.newO], by simp only [Mp.newObj]; rw [← S.no, upd_same, upd_same], fun j hj => ?_⟩
   have e1 : (M.newObj w.heap.size).obj σ.no = (w.heap.size, 0) := by simp only [Mp.newObj]; rw [← S.no, upd_same]
   refine ⟨A[j]'(by omega), ?_, ?_, (hv j hj).mono hE⟩
   ·rw [e1]; simp [World.cell?, hw]
   ·rw [e1]; simpa using hz j hj
  ·simp only [AS.newO] at hx
   rw [upd_ne _ _ hxn] at hx
   obtain ⟨a, b, c⟩ := S.obj x cs' hx
   have hB := S.role _ _ b
   have e1 : (M.newObj w.heap.size).obj x = M.obj x := by simp only [Mp.newObj]; rw [upd_ne _ _ (by rw [S.no]; exact hxn)]
   rw [e1]
   refine ⟨by simp [AS.newO]; omega, by simp only [Mp.newObj]; rw [upd_ne _ _ (by omega)]; exact b, fun j hj => ?_⟩
   obtain ⟨v, h1, h2, h3⟩ := c j hj
   have e : w'.heap[(M.obj x).1]? = w.heap[(M.obj x).1]? := by rw [hw, Array.getElem?_push, if_neg (by omega)]
   exact ⟨v, (cell?_of_heap e).trans h1, (frozen?_of_heap e).trans h2, h3.mono hE⟩
 ·have S0 := (sim_newObj (A := #[]) (e := e) S (cs := []) ⟨rfl, fun j v h => by simp at h⟩).inj x y
  refine S0 ?_ ?_ hxy
  ·by_cases hxn : x = σ.no
   ·subst hxn; simp [AS.newO, upd]
   ·simp only [AS.newO] at hx ⊢; rw [upd_ne _ _ hxn] at hx ⊢; exact hx
  ·by_cases hxn : y = σ.no
   ·subst hxn; simp [AS.newO, upd]
   ·simp only [AS.newO] at hy ⊢; rw [upd_ne _ _ hxn] at hy ⊢; exact hy
theorem aconvE_sound {P : Program} {s d x σ} {K : AV → AS → Prop} (h : aconvE P s d x σ K) {M w x'} (S : Sim M σ w) (hx : VR M σ.F w x x') :
  ∃ v' w', (convert s d x').run P w = .ok v' w' ∧ Post M σ.F w K v' w' := by
 unfold aconvE at h
 split at h
 ·obtain ⟨hs, hd, hK⟩ := h
  obtain ⟨e, hu, he⟩ := isU8_spec hs
  rw [nilsl_inv hx]
  refine ⟨.string .empty, w, ?_, .same S hK rfl (.refl _) (VR.str' rfl)⟩
  simp [convert, run_underlying hu, run_underlying (isStr_spec hd), run_underlying he, Conv.bytesToString]
 ·rename_i φ sz xs
  obtain ⟨hs, hd, hrd, bs, rfl, hK⟩ := h
  obtain ⟨e, hu, he⟩ := isU8_spec hs
  generalize hB : B bs = ys at hx
  cases hx with
  | slz b sz a =>
   have hb : bs = [] := by simpa [B] using hB
   subst hb
   exact ⟨.string ⟨([] : List UInt8).toArray⟩, w, run_convert_bytes_back w s d e a 0 [] hu he (isStr_spec hd) (fun j hj => by simp at hj), .same S hK rfl (.refl _) (VR.str' rfl)⟩
  | sl _ _ _ C off cap cs hcap hlit hsz hm hc hv =>
  subst hB
  have hl : (B bs).length = bs.length := by simp [B]
  rw [hl]
  refine ⟨.string ⟨bs.toArray⟩, w, run_convert_bytes_back w s d e ⟨C, off, none⟩ cap bs hu he (isStr_spec hd) (fun j hj => ?_), .same S hK rfl (.refl _) (VR.str' rfl)⟩
  have hj' : j < (flat (B bs)).length := by rw [flat_B, hl]; exact hj
  rw [addr_add, hc hrd j hj']
  have := hv hrd j hj'
  simp only [flat_B] at this
  simp only [B, List.getElem_map] at this
  rw [VR_byte this]
 ·rename_i o off sz len
  obtain ⟨hs, hd, cs, bs, ho, hb, hbs, hK⟩ := h
  obtain ⟨e, hu, he⟩ := isU8_spec hs
  obtain ⟨hlt, cap, hcap, rfl⟩ := slm_inv hx
  have hl : bs.length = len := by
   have := congrArg List.length hbs
   simp [B] at this; omega
  obtain ⟨_, _, hcell⟩ := S.obj o cs ho
  refine ⟨.string ⟨bs.toArray⟩, w, ?_, .same S hK rfl (.refl _) (VR.str' rfl)⟩
  rw [← hl]
  refine run_convert_bytes_back w s d e _ cap bs hu he (isStr_spec hd) (fun j hj => ?_)
  obtain ⟨c, h1, _, h3⟩ := hcell (off + j) (by omega)
  rw [addr_add, Nat.add_assoc, h1]
  have e1 : cs[off + j]'(by omega) = .int .u8 (bs[j].toNat : Int) := by
   have := congrArg (fun l => l[j]?) hbs
   simp only [B, List.getElem?_take, List.getElem?_drop, List.getElem?_map] at this
   rw [if_pos (by omega), List.getElem?_eq_getElem (by omega), List.getElem?_eq_getElem hj] at this
   simpa using this
  rw [e1] at h3
  rw [VR_byte h3]
 ·rename_i bs
  obtain ⟨hs, hd, hK⟩ := h
  obtain ⟨e, hu, he⟩ := isU8_spec hd
  obtain ⟨b, rfl, rfl⟩ := hx.str_inv
  have hrun := run_bytes_of_string w s d e b (isStr_spec hs) hu he
  generalize hcap : grownCap w b.size 0 e = cap at hrun
  have hle : b.size ≤ cap := by rw [← hcap]; exact grownCap_ge ..
  refine ⟨_, _, hrun, ?_⟩
  have hF : ∀ g, g < M.nf → (upd σ.F σ.nf .alive) g = σ.F g ∨ (upd σ.F σ.nf .alive) g = .dead := fun g hg => .inl (upd_ne _ _ (by rw [← S.nf]; omega))
  have hheap : (w.drew.alloc (.cells (bytesRow b cap) e ((bytesRow b cap).size, (bytesRow b cap).size + 1))).heap = w.heap.push (.cells (bytesRow b cap) e ((bytesRow b cap).size, (bytesRow b cap).size + 1)) := rfl
  have hE := ext_newFam (F := σ.F) S.role _ hheap ⟨rfl, rfl, rfl⟩ hF
  have hsz : (bytesRow b cap).size = cap := by simp [bytesRow]; omega
  rcases hK with hK | hK
  rotate_left
  ·have hlb : (B b.data.toList).length = b.size := by simp [B]
   obtain ⟨So, Eo⟩ := sim_newObjB S (cs := B b.data.toList) hheap ⟨rfl, rfl, rfl⟩ (by rw [hlb, hsz]; exact hle) (fun j hj => by
    have hj2 : j < b.data.size := by rw [hlb] at hj; exact hj
    have h1 := bytesRow_at b cap j hj2
    have h2 : (bytesRow b cap)[j]'(by rw [hsz]; have : b.data.size = b.size := rfl; omega) = .int .u8 ((b.data[j]).toNat : Int) := by
     rw [Array.getElem?_eq_getElem (by rw [hsz]; have : b.data.size = b.size := rfl; omega)] at h1
     exact Option.some.inj h1
    rw [h2]
    have e1 : (B b.data.toList)[j] = .int .u8 ((b.data[j]'hj2).toNat : Int) := by simp [B]
    rw [e1]
    exact .int ..) (fun j hj => by simp [World.frozen?, hheap]; rw [hlb] at hj; omega)
   have hp := VR.slm (M := M.newObj w.heap.size) (F := σ.F) (w := w.drew.alloc (.cells (bytesRow b cap) e ((bytesRow b cap).size, (bytesRow b cap).size + 1))) σ.no 0 1 b.size cap (by simp [Mp.newObj, S.no]) hle (fun j hj => by
    have e1 : (M.newObj w.heap.size).obj σ.no = (w.heap.size, 0) := by simp only [Mp.newObj]; rw [← S.no, upd_same]
    rw [e1]
    constructor
    ·simp [World.cell?, hheap]
     rw [hsz]; omega
    ·simp [World.frozen?, hheap]
     rw [hsz]; omega)
   have e1 : (M.newObj w.heap.size).obj σ.no = (w.heap.size, 0) := by simp only [Mp.newObj]; rw [← S.no, upd_same]
   rw [e1] at hp
   have hlen : b.data.toList.length = b.size := by simp
   rw [hlen] at hK
   exact ⟨_, _, _, hK, hp, So, Eo⟩
  refine ⟨_, _, _, hK, ?_, sim_newFam S _ hheap ⟨rfl, rfl, rfl⟩ hF, hE⟩
  have hl : (B b.data.toList).length = b.size := by simp [B]
  have hcell : ∀ j, (w.drew.alloc (.cells (bytesRow b cap) e ((bytesRow b cap).size, (bytesRow b cap).size + 1))).cell? ⟨w.heap.size, 0 + j, none⟩ = (bytesRow b cap)[j]? := by
   intro j; rw [Nat.zero_add]; simp [World.cell?, hheap]
  have hbj : ∀ j (h : j < b.data.size), (bytesRow b cap)[j]? = some (.int .u8 ((b.data[j]).toNat : Int)) := fun j h => bytesRow_at b cap j h
  have key := VR.sl (M := M.newFam w.heap.size) (F := upd σ.F σ.nf .alive) (w := w.drew.alloc (.cells (bytesRow b cap) e ((bytesRow b cap).size, (bytesRow b cap).size + 1))) (.fam σ.nf false) 1 (B b.data.toList) w.heap.size 0 cap
   (fun j => ((bytesRow b cap)[j]?).getD undef) (by rw [hl]; exact hle) (by simp [Own.full]) (B_size _) ?_ (fun _ j hj => ?_) (fun _ j hj => ?_)
  ·rw [hl] at key; exact key
  ·refine ⟨by simp [Mp.newFam, S.nf], fun _ => ⟨by simp [Mp.newFam, upd, S.nf], fun j hj => ⟨?_, ?_⟩⟩⟩
   ·rw [hcell, Array.getElem?_eq_getElem (by omega)]; rfl
   ·simp [World.frozen?, hheap]; omega
  ·rw [flat_B, hl] at hj
   rw [hcell, hbj j hj]; rfl
  ·have hj2 := hj
   rw [flat_B, hl] at hj2
   rw [hbj j hj2]
   have e1 : (flat (B b.data.toList))[j] = .int .u8 ((b.data[j]'hj2).toNat : Int) := by
    simp only [flat_B]; simp [B]
   rw [e1]; exact .int ..
 ·exact h.elim
theorem amake_sound {P : Program} {t l c σ} {K : AV → AS → Prop} (h : amake P t l c σ K) {M w l' c'} (S : Sim M σ w) (hl : VR M σ.F w l l') (hc : VR M σ.F w c c') :
  ∃ v' w', (Instr.makeSlice t l' c').run P w = .ok v' w' ∧ Post M σ.F w K v' w' := by
 unfold amake at h
 split at h
 ·rename_i k1 n k2 m
  obtain ⟨sz, bs, z, he, hb, hz, hzk, hzl, rfl, h0, h1, h2, hK⟩ := h
  obtain ⟨e, hu, hs⟩ := elOf_spec he
  obtain ⟨i, hi, rfl⟩ := elBytes_spec hb hu
  have hz' : zeroOf P e = some z := by unfold elZero at hz; rw [hu] at hz; exact hz
  obtain ⟨zv, hzv, rfl⟩ : ∃ zv, i.zero = some zv ∧ z = ofVal zv := by
   unfold zeroOf at hz'
   rw [hi] at hz'
   cases hq : i.zero with
   | none => simp [hq] at hz'
   | some v => simp [hq] at hz'; exact ⟨v, rfl, hz'.symm⟩
  have hzr := ofVal_VR M σ.F w zv
  have hisz : i.size = sz := by
   have hs2 := hs
   unfold szOf at hs2
   split at hs2
   ·simpa [hi] using hs2
   ·cases hs2
  have hbi : (i.bytes : Int) * n ≤ 281474976710656 := by
   have hq : ((n.toNat * i.bytes : Nat) : Int) ≤ 2 ^ 47 := by exact_mod_cast h2
   rw [Int.natCast_mul, Int.toNat_of_nonneg h0, Int.mul_comm] at hq
   omega
  have hrun := run_make (P := P) w t e i zv hu hi hzv k1 k2 n n h0 (Int.le_refl _) hbi (by omega)
  rw [hl.int_inv, hc.int_inv]
  refine ⟨_, _, hrun, ?_⟩
  have hcells := Cells.zeros hzr hzk hzl n.toNat
  have hS := sim_newObj S (A := madeCells zv.cells (n.toNat * i.size)) (e := e) (cs := flat (List.replicate n.toNat (ofVal zv))) (by rw [hisz]; exact hcells)
  have hE := ext_newObj (F := σ.F) S.role (.cells (madeCells zv.cells (n.toNat * i.size)) e)
  refine ⟨_, _, _, hK, ?_, hS, hE⟩
  have hv := VR.slm (M := M.newObj w.heap.size) (F := σ.F) (w := { w with heap := w.heap.push (.cells (madeCells zv.cells (n.toNat * i.size)) e) }) σ.no 0 sz n.toNat n.toNat (by simp [Mp.newObj, S.no]) (Nat.le_refl _) (fun j hj => by
   have e1 : (M.newObj w.heap.size).obj σ.no = (w.heap.size, 0) := by simp only [Mp.newObj]; rw [← S.no, upd_same]
   rw [e1]
   constructor
   ·simp [World.cell?]
    have h1 := hcells.1
    rw [← hisz] at h1
    have h2 : (flat (List.replicate n.toNat (ofVal zv))).length = n.toNat * sz := by rw [flat_length sz _ (fun x hx => by rw [List.eq_of_mem_replicate hx]; exact hzl), List.length_replicate]
    simp only [madeCells] at h1 ⊢
    rw [h2] at h1
    simpa using (by simpa using h1 : _ = _) ▸ hj
   ·simp [World.frozen?])
  have e1 : (M.newObj w.heap.size).obj σ.no = (w.heap.size, 0) := by simp only [Mp.newObj]; rw [← S.no, upd_same]
  rw [e1] at hv
  exact hv
 ·exact h.elim
theorem abuildFam_sound {P : Program} {t n α parts σ} {K : AV → AS → Prop} (h : abuildFam P t n α parts σ K) {M w} {ρ : Operand → Value} (S : Sim M σ w) (hv : ∀ p ∈ parts.map (·.2), VR M σ.F w (α p) (ρ p)) :
  ∃ v' w', (Instr.buildSlice t n (parts.map fun x => (x.1, ρ x.2)).toArray).run P w = .ok v' w' ∧ Post M σ.F w K v' w' := by
 obtain ⟨sz, z, he, hz, hk, hzl, h0, hn, hf⟩ := h
 obtain ⟨e, hu, hs⟩ := elOf_spec he
 obtain ⟨xs, hK, hl, hsz, hh⟩ := fillA_sound parts (List.replicate n z) _ (by simp) (fun x hx => by rw [List.eq_of_mem_replicate hx]; exact hzl) hf
 have hz' : zeroOf P e = some z := by unfold elZero at hz; rw [hu] at hz; exact hz
 obtain ⟨zv, hzv, rfl⟩ := zeroOf_spec hz' w
 have hzr := ofVal_VR M σ.F w zv
 obtain ⟨A', h1, h2⟩ := hh M σ.F w ρ _ (Cells.zeros hzr hk hzl n) (fun x hx => hv x.2 (List.mem_map_of_mem hx))
 have hF : ∀ g, g < M.nf → (upd σ.F σ.nf .alive) g = σ.F g ∨ (upd σ.F σ.nf .alive) g = .dead := fun g hg => .inl (upd_ne _ _ (by rw [← S.nf]; omega))
 have hheap : ({ w with heap := w.heap.push (.cells A' e) } : World).heap = w.heap.push (.cells A' e) := rfl
 have hE := ext_newFam (F := σ.F) S.role _ hheap ⟨rfl, rfl, rfl⟩ hF
 have hfl := flat_length sz xs hsz
 have hA : A'.size = n * sz := by rw [h2.1, hfl, hl]
 refine ⟨.slice (some ⟨w.heap.size, 0, none⟩) n n, { w with heap := w.heap.push (.cells A' e) }, ?_, ?_⟩
 ·by_cases hn0 : n = 0
  ·subst hn0
   have hr : Array.range (0 * sz) = #[] := by rw [Nat.zero_mul]; rfl
   rw [hr, Array.map_empty] at h1
   simp only [Instr.buildSlice, Sem.run_bind, run_underlying hu, Result.andThen_ok, run_sizeOf' hs, Sem.run_ite, Sem.run_pure]
   rw [if_neg (by simp), if_pos (Nat.zero_mul _)]
   simp only [hr, Array.map_empty, h1]
   simp [newRow]
  ·have hne : n * sz ≠ 0 := by
    have := Nat.mul_pos (Nat.pos_of_ne_zero hn0) h0; omega
   simp only [Instr.buildSlice, Sem.run_bind, run_underlying hu, Result.andThen_ok, run_sizeOf' hs, Sem.run_ite, if_neg hne, hzv, Sem.run_pure]
   rw [if_neg (by omega)]
   simp only [h1]
   simp [newRow]
 ·refine ⟨_, _, _, hK, ?_, sim_newFam S _ hheap ⟨rfl, rfl, rfl⟩ hF, hE⟩
  have hcell : ∀ j, ({ w with heap := w.heap.push (.cells A' e) } : World).cell? ⟨w.heap.size, 0 + j, none⟩ = A'[j]? := by
   intro j; simp [World.cell?]
  have key := VR.sl (M := M.newFam w.heap.size) (F := upd σ.F σ.nf .alive) (w := { w with heap := w.heap.push (.cells A' e) }) (.fam σ.nf true) sz xs w.heap.size 0 n
   (fun j => (A'[j]?).getD undef) (by omega) (fun _ => by omega) hsz ?_ (fun _ j hj => ?_) (fun _ j hj => ?_)
  ·rw [hl] at key; exact key
  ·refine ⟨by simp [Mp.newFam, S.nf], fun _ => ⟨by simp [Mp.newFam, upd, S.nf], fun j hj => ⟨?_, ?_⟩⟩⟩
   ·rw [hcell, Array.getElem?_eq_getElem (by omega)]; rfl
   ·simp [World.frozen?]
  ·rw [hcell, Array.getElem?_eq_getElem (by rw [h2.1]; exact hj)]; rfl
  ·have := h2.get j hj (by rw [h2.1]; exact hj)
   rw [Array.getElem?_eq_getElem (by rw [h2.1]; exact hj)]
   exact this.mono hE
theorem aeff_sound {P : Program} {G : Env} {α : Operand → AV} {σ : AS} {K PK : AV → AS → Prop} {o : Oper} (h : aeff P G α σ K PK o.op) {M : Mp} {w : World} {ρ : Operand → Value} (S : Sim M σ w) (g : GOk P G M σ.F w)
  (hl : ∀ x ∈ o.op.operands, VR M σ.F w (α x) (ρ x)) : Lands P M σ.F w K PK ((execOp ρ o).run P w) := by
 cases ho : o.op <;> rw [ho] at h <;> simp only [aeff] at h
 case load t x =>
  obtain ⟨v, hK, hh⟩ := aload_sound h
  obtain ⟨v', h1, h2⟩ := hh M w (ρ x) S (hl x (by rw [ho]; simp [Op.operands]))
  unfold execOp; simp only [ho]; rw [Sem.run_bind, h1]
  exact .same S hK rfl (.refl _) h2
 case store t p x =>
  obtain ⟨σ', w', h1, hK, h2, h3⟩ := astore_sound h S (hl p (by rw [ho]; simp [Op.operands])) (hl x (by rw [ho]; simp [Op.operands]))
  unfold execOp; simp only [ho]; rw [Sem.run_bind, h1]
  exact ⟨_, σ', M, hK, .tuple _ _ rfl (fun j h => absurd h (Nat.not_lt_zero _)), h2, h3⟩
 case alloc t =>
  obtain ⟨z, hz, hk, hK⟩ := h
  obtain ⟨zv, hzv, rfl⟩ := zeroOf_spec hz w
  obtain ⟨c1, c2⟩ := (ofVal_VR M σ.F w zv).cells_rel hk
  have hS := sim_newObj S (A := zv.cells) (e := t) (Cells.of c1 c2)
  have hE := ext_newObj (F := σ.F) S.role (.cells zv.cells t)
  unfold execOp; simp only [ho]
  simp only [Instr.alloc, newVar, newRow, Sem.run_bind, hzv, Result.andThen_ok, run_newObj, Sem.run_pure]
  refine ⟨_, _, _, hK, ?_, hS, hE⟩
  have hv := VR.ptr (M := M.newObj w.heap.size) (F := σ.F) (w := { w with heap := w.heap.push (.cells zv.cells t) }) σ.no 0 (by simp [Mp.newObj, S.no])
  have e1 : (M.newObj w.heap.size).obj σ.no = (w.heap.size, 0) := by simp only [Mp.newObj]; rw [← S.no, upd_same]
  rw [e1] at hv
  exact hv
 case box t x =>
  obtain ⟨hk, hK⟩ := h
  obtain ⟨c1, c2⟩ := (hl x (by rw [ho]; simp [Op.operands])).cells_rel hk
  have hS := sim_newObj S (A := (ρ x).cells) (e := t) (Cells.of c1 c2)
  have hE := ext_newObj (F := σ.F) S.role (.cells (ρ x).cells t)
  unfold execOp; simp only [ho]
  simp only [Instr.box, newVar, newRow, Sem.run_bind, Result.andThen_ok, run_newObj, Sem.run_pure]
  refine ⟨_, _, _, hK, ?_, hS, hE⟩
  have hv := VR.ptr (M := M.newObj w.heap.size) (F := σ.F) (w := { w with heap := w.heap.push (.cells (ρ x).cells t) }) σ.no 0 (by simp [Mp.newObj, S.no])
  have e1 : (M.newObj w.heap.size).obj σ.no = (w.heap.size, 0) := by simp only [Mp.newObj]; rw [← S.no, upd_same]
  rw [e1] at hv
  exact hv
 case makeSlice t l c =>
  obtain ⟨v', w', h1, h2⟩ := amake_sound h S (hl l (by rw [ho]; simp [Op.operands])) (hl c (by rw [ho]; simp [Op.operands]))
  unfold execOp; simp only [ho]; rw [Sem.run_bind, h1]
  exact h2
 case buildSlice t n parts =>
  obtain ⟨v', w', h1, h2⟩ := abuildFam_sound h S (fun p hp => hl p (by rw [ho]; simp only [Op.operands, List.mem_toArray]; exact hp))
  simp only [parts_map] at h1
  unfold execOp; simp only [ho]; rw [Sem.run_bind, h1]; exact h2
 case convert s d x =>
  have hx := hl x (by rw [ho]; simp [Op.operands])
  unfold execOp; simp only [ho]; rw [Sem.run_bind]
  split at h
  ·obtain ⟨v, hK, hh⟩ := aconv_sound h
   obtain ⟨v', h1, h2⟩ := hh M σ.F w (ρ x) hx
   rw [h1]
   exact .same S hK rfl (.refl _) h2
  ·rename_i bs hbs
   cases hd : isStr P d with
   | true =>
    obtain ⟨hs, hK⟩ := h.1 hd
    have hc : aconv P s d (α x) (fun v => K v σ) := by rw [hbs]; exact ⟨hd, hs, hK⟩
    obtain ⟨v, hK, hh⟩ := aconv_sound hc
    obtain ⟨v', h1, h2⟩ := hh M σ.F w (ρ x) hx
    rw [h1]
    exact .same S hK rfl (.refl _) h2
   | false =>
    obtain ⟨v', w', h1, h2⟩ := aconvE_sound (h.2 hd) S hx
    rw [h1]; exact h2
  ·obtain ⟨v', w', h1, h2⟩ := aconvE_sound h S hx
   rw [h1]; exact h2
 case panic x =>
  have hx := hl x (by rw [ho]; simp [Op.operands])
  split at h
  ·rename_i t v hv
   rw [hv] at hx
   generalize hc : ρ x = c at hx
   have hx' := hx
   cases hx with
   | iface _ _ c' hc' =>
   unfold execOp; simp only [ho]
   simp only [hc, Instr.panic, Sem.run_bind, run_goPanic, Result.andThen_halt]
   exact .same S h rfl (.refl _) hx'
  ·exact h.elim
 case call c =>
  split at h
  ·rename_i hc
   split at h
   ·rename_i t u s x ht hx
    obtain ⟨v', w', h1, h2⟩ := aappend_sound h S (hl s (by rw [ho]; simp [Op.operands, Call.operands, ← Array.mem_toList_iff, hx])) (hl x (by rw [ho]; simp [Op.operands, Call.operands, ← Array.mem_toList_iff, hx])) o.type
    have e1 : c.args.map ρ = #[ρ s, ρ x] := by apply Array.ext'; simp [hx]
    have e2 : c.argTypes = #[t, u] := by apply Array.ext'; simp [ht]
    unfold execOp; simp only [ho]
    simp only [resolve, hc, Sem.run_bind, Sem.run_pure, Result.andThen_ok, invoke, builtin, e1, e2, h1]
    exact h2
   ·exact h.elim
  ·rename_i f hc
   unfold acall at h
   split at h
   ·rename_i n first cap hf
    obtain ⟨hcl, hcalls⟩ := h
    have hfv := hl f (by rw [ho]; simp [Op.operands, Call.operands, hc])
    rw [hf] at hfv
    obtain ⟨A, C, hρ, hA, hC, va, vc⟩ : ∃ A C, ρ f = .func (.func n) A C ∧ A.size = first.length ∧ C.size = cap.length ∧ (∀ j (h : j < first.length) (h' : j < A.size), VR M σ.F w first[j] A[j]) ∧
      (∀ j (h : j < cap.length) (h' : j < C.size), VR M σ.F w cap[j] C[j]) := by
     generalize ρ f = c at hfv
     cases hfv with
     | fn _ _ _ A B ha hb va vb => exact ⟨A, B, rfl, ha, hb, va, vb⟩
    obtain ⟨fn, hfn, hb, hname⟩ : ∃ fn, P.funcs[n]? = some fn ∧ fn.body.isSome = true ∧ (fn.name == "runtime.NumGoroutine") = false := by
     unfold callable at hcl
     split at hcl
     ·simp only [Bool.and_eq_true, Bool.not_eq_true'] at hcl
      exact ⟨_, ‹_›, hcl.1, hcl.2⟩
     ·cases hcl
    have hbn : fn.body.isNone = false := by cases hq : fn.body <;> simp [hq] at hb ⊢
    have hrun : (execOp ρ o).run P w = .ok (.enter n (A ++ c.args.map ρ ++ C)) w := by
     unfold execOp; simp only [ho]
     simp only [resolve, hc, hρ, Deferred.ofValue, Sem.run_bind, Sem.run_pure, Result.andThen_ok, invoke, callFunc, run_program, hfn, hname, hbn, Bool.false_eq_true, if_false]
    rw [hrun]
    refine ⟨rfl, (hcalls M w _ S g ?_).mono fun e w' he => ?_⟩
    ·have harg : Cells M σ.F w (c.args.toList.map α) (c.args.map ρ) := by
      refine Cells.of (by simp) (fun j h h' => ?_)
      simp only [List.getElem_map, Array.getElem_map, Array.getElem_toList]
      refine hl _ ?_
      rw [ho]; simp [Op.operands, Call.operands]
     have app : ∀ {x y : List AV} {X Y : Array Value}, Cells M σ.F w x X → Cells M σ.F w y Y → Cells M σ.F w (x ++ y) (X ++ Y) := by
      intro x y X Y h1 h2
      refine ⟨by simp [h1.1, h2.1], fun j v hj => ?_⟩
      by_cases h : j < x.length
      ·rw [List.getElem?_append_left h] at hj
       obtain ⟨c, e1, e2⟩ := h1.2 j v hj
       exact ⟨c, by rw [Array.getElem?_append_left (by rw [h1.1]; exact h)]; exact e1, e2⟩
      ·rw [List.getElem?_append_right (by omega)] at hj
       obtain ⟨c, e1, e2⟩ := h2.2 _ v hj
       exact ⟨c, by rw [Array.getElem?_append_right (by rw [h1.1]; omega), h1.1]; exact e1, e2⟩
     exact app (app (Cells.of hA va) harg) (Cells.of hC vc)
    ·obtain ⟨out, σ', M', hR, hO, hS, hE⟩ := he
     cases out with
     | ret v =>
      cases e with
      | returned v' => exact ⟨v, σ', M', hR, hO, hS, hE⟩
      | panicked ch => exact hO.elim
      | outgrown => exact hO.elim
     | panic v =>
      cases e with
      | returned v' => exact hO.elim
      | panicked ch =>
       obtain ⟨v', h1, h2⟩ := hO
       exact ⟨v', h1, v, σ', M', hR, h2, hS, hE⟩
      | outgrown => exact hO.elim
   ·rename_i l first cap hf
    obtain ⟨rfl, rfl, hhas, hy⟩ := h
    have hfv := hl f (by rw [ho]; simp [Op.operands, Call.operands, hc])
    rw [hf] at hfv
    obtain ⟨A, C, hρ, hA, hC⟩ : ∃ A C, ρ f = .func (.yield l) A C ∧ A.size = 0 ∧ C.size = 0 := by
     generalize ρ f = c at hfv
     cases hfv with
     | fn _ _ _ A B ha hb va vb => exact ⟨A, B, rfl, ha, hb⟩
    have hA' : A = #[] := Array.eq_empty_of_size_eq_zero hA
    have hC' : C = #[] := Array.eq_empty_of_size_eq_zero hC
    subst hA' hC'
    have harg : Cells M σ.F w (c.args.toList.map α) (c.args.map ρ) := by
     refine Cells.of (by simp) (fun j h h' => ?_)
     simp only [List.getElem_map, Array.getElem_map, Array.getElem_toList]
     refine hl _ ?_
     rw [ho]; simp [Op.operands, Call.operands]
    obtain ⟨r, f0, M0, F0, w0, E0, hlt, h1, h2, _, h3⟩ := g.yields l hhas
    obtain ⟨h4, h5⟩ := h1 (h2 _ _ _ _ hy)
    obtain ⟨fn, tmps, assign, body, hrun, hround⟩ := h3 _ σ K PK M w _ hy S E0 h4 h5 harg
    have hrun' : (execOp ρ o).run P w = .ok (.round l fn tmps assign body) w := by
     unfold execOp; simp only [ho]
     simp only [resolve, hc, hρ, Deferred.ofValue, Sem.run_bind, Sem.run_pure, Result.andThen_ok, invoke, Array.empty_append]
     exact hrun
    rw [hrun']
    exact ⟨rfl, hround⟩
   ·exact h.elim
  ·exact h.elim
end Go.Abs
namespace Go.Abs
open Go
def wideAt (r : Option Nat) : Fence := { Fence.wide with round := r }
@[simp] theorem wideAt_fn (r : Option Nat) (f : FuncId) : (wideAt r).fn f := trivial
theorem wideAt_depth (r : Option Nat) : (wideAt r).depth = none := rfl
theorem callsIn_wideAt {r : Option Nat} {n : Nat} {P : Program} {f : FuncId} {args : Array Value} {w : World} {R : Ending → World → Prop} (h : Calls P f args w R) : CallsIn (wideAt r) n P f args w R := by
 have h1 : CallsIn Fence.wide n P f args w R := callsIn_wide.2 h
 cases r with
 | none => exact h1
 | some l => exact CallsIn.inRound l h1
theorem roundIn_wideAt {r : Option Nat} {n : Nat} {P : Program} {l : Nat} {f : FuncId} {tmps : Array Value} {assign body : Code} {w : World} {R : Ending → World → Prop} (h : RoundIn Fence.wide n P l f tmps assign body w R) : RoundIn (wideAt r) n P l f tmps assign body w R := h
inductive AExit where
 | normal
 | exit (id : Nat)
 | ret
 | panic (v : AV)
abbrev AQ := AExit → (Nat → AV) → AS → Prop
def anyFrame : Nat → AV := fun _ => .undef
structure AG where
 g : Option (Nat × Bool)
 t : TypeId
 x : Operand
 d : Nat
structure PO where
 dst : Option Nat
 op : Op
 guard : Option (Nat × Bool) := none
 again : List AG := []
def acond (a : Nat → AV) (g : Option (Nat × Bool)) (yes no : Prop) : Prop :=
 match g with
 | none => yes
 | some (d, want) =>
  match a d with
  | .bool b => (b = want → yes) ∧ (b ≠ want → no)
  | .tuple [] => no
  | _ => False
def aop1 (P : Program) (G : Env) (op : Op) (dst : Option Nat) (a : Nat → AV) (σ : AS) (K : (Nat → AV) → AS → Prop) (Q : AQ) : Prop :=
 if isPure op then apure P (ev G a) op fun v => K (put a dst v) σ
 else aeff P G (ev G a) σ (fun v σ' => K (put a dst v) σ') (fun v σ' => Q (.panic v) anyFrame σ') op
def aagain (P : Program) (G : Env) (a : Nat → AV) (σ : AS) : List AG → Prop
 | [] => True
 | g :: r => acond a g.g (aload P g.t (ev G a g.x) σ fun v => v = a g.d) True ∧ aagain P G a σ r
def aops (P : Program) (G : Env) (Q : AQ) : List PO → (Nat → AV) → AS → Prop
 | [], a, σ => Q .normal a σ
 | o :: rest, a, σ =>
  acond a o.guard (aop1 P G o.op o.dst a σ (fun a' σ' => aagain P G a' σ' o.again ∧ aops P G Q rest a' σ') Q) (aops P G Q rest (put a o.dst (.tuple [])) σ)
def hide (l : List PO) (a : Nat → AV) : Nat → AV := fun t => if l.any (fun o => o.dst == some t) then .undef else a t
def withPf (pf : Nat → AV) (Q : AQ) : AQ
 | .panic v, _, σ => Q (.panic v) pf σ
 | e, a, σ => Q e a σ
def athen (K : (Nat → AV) → AS → Prop) (Q : AQ) : AQ
 | .normal, a, σ => K a σ
 | e, a, σ => Q e a σ
def ablock (id : Nat) (Q : AQ) : AQ
 | .exit i, a, σ => if i = id then Q .normal a σ else Q (.exit i) a σ
 | e, a, σ => Q e a σ
def dstIn (n : Nat) : Option Nat → Bool
 | some d => decide (d < n)
 | none => true
structure Fr (M : Mp) (F : Nat → FSt) (w : World) (a : Nat → AV) (ac : Act) (n : Nat) : Prop where
 size : ac.tmps.size = n
 val : ∀ t, VR M F w (a t) (ac.tmps.getD t undef)
def ERel (M : Mp) (F : Nat → FSt) (w : World) : AExit → Exit → Prop
 | .normal, .normal => True
 | .exit i, .exit j => i = j
 | .ret, .ret => True
 | .panic v, .panic ch => ∃ v', ch = [{ v := v', recovered := false }] ∧ VR M F w v v'
 | _, _ => False
def QC (P : Program) (G : Env) (n : Nat) (D : List Deferred) (M0 : Mp) (F0 : Nat → FSt) (w0 : World) (Q : AQ) (e : Exit) (ac : Act) (w : World) : Prop :=
 ∃ e' a σ M, Q e' a σ ∧ ERel M σ.F w e' e ∧ Sim M σ w ∧ GOk P G M σ.F w ∧ Ext M0 F0 w0 M σ.F w ∧ Fr M σ.F w a ac n ∧ ac.defers = D
def AWp (P : Program) (G : Env) (n : Nat) (c : Code) (Q : AQ) (a : Nat → AV) (σ : AS) : Prop :=
 ∀ (ro : Option Nat) (D : List Deferred) (M0 : Mp) (F0 : Nat → FSt) (w0 : World) (M : Mp) (w : World) (ac : Act), Sim M σ w → GOk P G M σ.F w → Ext M0 F0 w0 M σ.F w → Fr M σ.F w a ac n → ac.defers = D →
  c.wpIn (wideAt ro) 0 P (QC P G n D M0 F0 w0 Q) ac w
theorem ev_VR {P G M F w a ac n} (g : GOk P G M F w) (f : Fr M F w a ac n) (x : Operand) : VR M F w (ev G a x) (ac.eval x) := by
 cases x with
 | tmp t => exact f.val t
 | const v => exact ofVal_VR ..
 | global i => exact g.vars i
 | func i => exact .fn _ _ _ _ _ rfl rfl (fun j h => absurd h (Nat.not_lt_zero _)) (fun j h => absurd h (Nat.not_lt_zero _))
theorem Fr.mono {M F w M' F' w' a ac n} (f : Fr M F w a ac n) (E : Ext M F w M' F' w') : Fr M' F' w' a ac n := ⟨f.size, fun t => (f.val t).mono E⟩
theorem Fr.put {M F w a ac n v v'} (f : Fr M F w a ac n) {d : Option Tmp} (hd : dstIn n d = true) (hv : VR M F w v v') : Fr M F w (put a d v) (ac.put d v') n := by
 cases d with
 | none => exact f
 | some d =>
  simp [dstIn] at hd
  refine ⟨by simp [Act.put, f.size], fun t => ?_⟩
  simp only [Act.put, Abs.put, upd]
  by_cases h : t = d
  ·subst h
   rw [if_pos rfl]
   rw [show (ac.tmps.setIfInBounds t v').getD t undef = v' by simp [Array.getD, f.size, hd]]
   exact hv
  ·rw [if_neg h]
   rw [show (ac.tmps.setIfInBounds d v').getD t undef = ac.tmps.getD t undef by
    simp only [Array.getD_eq_getD_getElem?]; rw [Array.getElem?_setIfInBounds_ne (Ne.symm h)]]
   exact f.val t
theorem aop1_nodefer {P G a σ K Q} {op : Op} {d : Option Nat} (h : aop1 P G op d a σ K Q) : ∀ c, op ≠ .defer c := by
 rintro c rfl
 simp [aop1, isPure, aeff] at h
theorem aop1_core {P : Program} {G : Env} {n : Nat} {o : Oper} {a : Nat → AV} {σ : AS} {K : (Nat → AV) → AS → Prop} {Q : AQ} (h : aop1 P G o.op o.dst a σ K Q)
  {ro : Option Nat} {D : List Deferred} {M0 F0 w0 M w} {ac : Act} (S : Sim M σ w) (g : GOk P G M σ.F w) (E : Ext M0 F0 w0 M σ.F w) (hops : ∀ x ∈ o.op.operands, VR M σ.F w (ev G a x) (ac.eval x)) (hn : ac.tmps.size = n) (hD : ac.defers = D) {Kc : Act → World → Prop}
  (hK : ∀ v v' σ' M' w', K (put a o.dst v) σ' → VR M' σ'.F w' v v' → Sim M' σ' w' → GOk P G M' σ'.F w' → Ext M σ.F w M' σ'.F w' → Kc (ac.put o.dst v') w') :
  o.wpIn (wideAt ro) 0 P ac w Kc (QC P G n D M0 F0 w0 Q) := by
 refine ⟨fun _ _ => trivial, ?_⟩
 have hsem : o.semAt (wideAt ro).round ac.eval = execOp ac.eval o := o.semAt_eq _ _ (aop1_nodefer h)
 rw [hsem]
 unfold aop1 at h
 split at h
 ·obtain ⟨v, hv, hq⟩ := apure_sound h
  obtain ⟨v', M', w', h1, h2, h3, h4⟩ := hq M σ.F w ac.eval S.role hops
  rw [h1, Oper.uponIn_value]
  exact hK v v' σ M' w' hv h2 (h4 σ rfl S) (g.mono h3) h3
 ·have hl := aeff_sound h S g (ρ := ac.eval) hops
  generalize (execOp ac.eval o).run P w = r at hl
  have done : ∀ v' w', Post M σ.F w (fun v σ' => K (Abs.put a o.dst v) σ') v' w' → Kc (ac.put o.dst v') w' := by
   rintro v' w' ⟨v, σ', M', hv, h1, h2, h3⟩
   exact hK v v' σ' M' w' hv h1 h2 (g.mono h3) h3
  have fell : ∀ v' w', Post M σ.F w (fun v σ' => Q (.panic v) anyFrame σ') v' w' → QC P G n D M0 F0 w0 Q (.panic [{ v := v', recovered := false }]) ac w' := by
   rintro v' w' ⟨v, σ', M', hv, h1, h2, h3⟩
   exact ⟨.panic v, anyFrame, σ', M', hv, ⟨v', rfl, h1⟩, h2, g.mono h3, E.trans h3, ⟨hn, fun _ => .undef _⟩, hD⟩
  cases r with
  | ok x w' =>
   cases x <;> simp only [Lands] at hl <;> try exact hl.elim
   ·exact done _ _ hl
   ·exact done _ _ hl
   ·obtain ⟨rfl, hl⟩ := hl
    rw [Oper.uponIn_enter]
    refine ⟨fun h => by simp [wideAt_depth] at h, (callsIn_wideAt hl).mono fun e w'' he => ?_⟩
    cases e with
    | returned v' => exact done _ _ he
    | panicked ch =>
     obtain ⟨v', rfl, hp⟩ := he
     exact fell _ _ hp
    | outgrown => exact he.elim
   ·obtain ⟨rfl, hl⟩ := hl
    rw [Oper.uponIn_round]
    refine ⟨fun h => by simp [wideAt_depth] at h, (roundIn_wideAt hl).mono fun e w'' he => ?_⟩
    cases e with
    | returned v' => exact done _ _ he
    | panicked ch =>
     obtain ⟨v', rfl, hp⟩ := he
     exact fell _ _ hp
    | outgrown => exact he.elim
  | halt x w' =>
   cases x <;> simp only [Lands] at hl <;> try exact hl.elim
   exact fell _ _ hl
theorem put_defers (ac : Act) (d : Option Tmp) (v : Value) : (ac.put d v).defers = ac.defers := by unfold Act.put; split <;> rfl
theorem aop1_sound {P : Program} {G : Env} {n : Nat} {o : Oper} {a : Nat → AV} {σ : AS} {K : (Nat → AV) → AS → Prop} {Q : AQ} (h : aop1 P G o.op o.dst a σ K Q) (hd : dstIn n o.dst = true)
  {ro : Option Nat} {D : List Deferred} {M0 F0 w0 M w} {ac : Act} (S : Sim M σ w) (g : GOk P G M σ.F w) (E : Ext M0 F0 w0 M σ.F w) (f : Fr M σ.F w a ac n) (hD : ac.defers = D) {Kc : Act → World → Prop}
  (hK : ∀ a' σ' M' ac' w', K a' σ' → Sim M' σ' w' → GOk P G M' σ'.F w' → Ext M0 F0 w0 M' σ'.F w' → Fr M' σ'.F w' a' ac' n → ac'.defers = D → Kc ac' w') :
  o.wpIn (wideAt ro) 0 P ac w Kc (QC P G n D M0 F0 w0 Q) :=
 aop1_core h S g E (fun x _ => ev_VR g f x) f.size hD fun _ _ σ' M' w' k hv S' g' E' => hK _ σ' M' _ w' k S' g' (E.trans E') ((f.mono E').put hd hv) (by rw [put_defers, hD])
end Go.Abs
namespace Go.Abs
open Go
def guardOf (ops : Array Oper) (o : Oper) : Option (Option (Nat × Bool)) :=
 match o.guard with
 | none => some none
 | some (j, want) =>
  match (ops[j]?).bind (·.dst) with
  | some d => some (some (d, want))
  | none => none
theorem wanted_core {ops : Array Oper} {o : Oper} {g : Option (Nat × Bool)} (hg : guardOf ops o = some g) {M F w} {a : Nat → AV} {ac : Act} (f : ∀ d want, g = some (d, want) → VR M F w (a d) (ac.tmps.getD d undef))
  {yes no : Prop} (h : acond a g yes no) : (Region.wanted o (yielded ops ac.tmps) = true ∧ yes) ∨ (Region.wanted o (yielded ops ac.tmps) = false ∧ no) := by
 unfold guardOf at hg
 split at hg
 ·rename_i hn
  cases hg
  exact .inl ⟨by simp [Region.wanted, hn], h⟩
 ·rename_i j want hj
  split at hg
  ·rename_i d hd
   cases hg
   have hv := f d want rfl
   have hy : yielded ops ac.tmps j = match ac.tmps[d]? with | some (.bool b) => some b | _ => none := by
    unfold yielded; rw [hd]; rfl
   simp only [acond] at h
   split at h
   ·rename_i b hb
    rw [hb] at hv
    have hc := hv.bool_inv
    have he : ac.tmps[d]? = some (.bool b) := by
     rw [Array.getD_eq_getD_getElem?] at hc
     cases hq : ac.tmps[d]? with
     | none => rw [hq] at hc; cases hc
     | some x => rw [hq] at hc; simp at hc; rw [hc]
    rw [he] at hy
    simp only at hy
    by_cases hbw : b = want
    ·exact .inl ⟨by simp [Region.wanted, hj, hy, hbw], h.1 hbw⟩
    ·exact .inr ⟨by simp [Region.wanted, hj, hy]; exact hbw, h.2 hbw⟩
   ·rename_i hb
    rw [hb] at hv
    have he : ∀ b, ac.tmps[d]? ≠ some (.bool b) := by
     intro b hq
     rw [Array.getD_eq_getD_getElem?, hq] at hv
     simp at hv
     cases hv
    have hy2 : yielded ops ac.tmps j = none := by
     rw [hy]; split
     ·exact absurd ‹_› (he _)
     ·rfl
    exact .inr ⟨by simp [Region.wanted, hj, hy2], h⟩
   ·exact h.elim
  ·cases hg
theorem wanted_cond {ops : Array Oper} {o : Oper} {g : Option (Nat × Bool)} (hg : guardOf ops o = some g) {M F w a ac n} (f : Fr M F w a ac n) {yes no : Prop} (h : acond a g yes no) :
  (Region.wanted o (yielded ops ac.tmps) = true ∧ yes) ∨ (Region.wanted o (yielded ops ac.tmps) = false ∧ no) := wanted_core hg (fun d _ _ => f.val d) h
def planOf (ops : Array Oper) (o : Oper) (again : List AG) : Option PO := (guardOf ops o).map fun g => ⟨o.dst, o.op, g, again⟩
def plainPlan (n : Nat) (ops : Array Oper) : List Oper → Option (List PO)
 | [] => some []
 | o :: r => if dstIn n o.dst then (planOf ops o []).bind fun p => (plainPlan n ops r).map fun l => p :: l else none
theorem undef_VR (M F w) : VR M F w (.tuple []) undef := .tuple _ _ rfl fun _ h => absurd h (Nat.not_lt_zero _)
theorem plain_sound {P : Program} {G : Env} {n : Nat} {ops : Array Oper} {Q : AQ} {ro : Option Nat} {D : List Deferred} {M0 F0 w0} :
  ∀ (l : List Oper) (pl : List PO) (a : Nat → AV) (σ : AS) (M : Mp) (w : World) (ac : Act), plainPlan n ops l = some pl → aops P G Q pl a σ → Sim M σ w → GOk P G M σ.F w → Ext M0 F0 w0 M σ.F w → Fr M σ.F w a ac n →
   ac.defers = D → wpListIn (wideAt ro) 0 P ops (QC P G n D M0 F0 w0 Q) l ac w := by
 intro l
 induction l with
 | nil =>
  intro pl a σ M w ac hp h S g E f hD
  simp only [plainPlan, Option.some.injEq] at hp
  subst hp
  exact ⟨.normal, a, σ, M, h, trivial, S, g, E, f, hD⟩
 | cons o r ih =>
  intro pl a σ M w ac hp h S g E f hD
  simp only [plainPlan] at hp
  split at hp
  ·rename_i hd
   simp only [planOf] at hp
   cases hg : guardOf ops o with
   | none => simp [hg] at hp
   | some gd =>
    cases hr : plainPlan n ops r with
    | none => simp [hg, hr] at hp
    | some pr =>
     simp [hg, hr] at hp
     subst hp
     simp only [aops] at h
     unfold wpListIn
     rcases wanted_cond hg f h with ⟨hw, hy⟩ | ⟨hw, hno⟩
     ·rw [if_pos hw]
      refine aop1_sound hy hd S g E f hD (fun a' σ' M' ac' w' hK S' g' E' f' hD' => ?_)
      exact ih pr a' σ' M' w' ac' hr hK.2 S' g' E' f' hD'
     ·rw [if_neg (by rw [hw]; simp)]
      refine ⟨fun _ _ => trivial, ?_⟩
      exact ih pr _ σ M w _ hr hno S g E (f.put hd (undef_VR ..)) (by rw [put_defers, hD])
  ·cases hp
def KeptB (W : Nat → Bool) (a a' : Act) : Prop := ∀ t, W t = false → a'.tmps.getD t undef = a.tmps.getD t undef
theorem KeptB.refl (W a) : KeptB W a a := fun _ _ => rfl
theorem KeptB.trans {W a b c} (h : KeptB W a b) (k : KeptB W b c) : KeptB W a c := fun t ht => (k t ht).trans (h t ht)
theorem KeptB.put {W : Nat → Bool} {a : Act} {d : Option Tmp} {v : Value} (h : ∀ t, d = some t → W t = true) : KeptB W a (a.put d v) := by
 intro t ht
 cases d with
 | none => rfl
 | some d =>
  have hne : d ≠ t := by rintro rfl; rw [h d rfl] at ht; cases ht
  simp only [Act.put, Array.getD_eq_getD_getElem?, Array.getElem?_setIfInBounds_ne hne]
def QKept (W : Nat → Bool) (a : Act) (Q : Exit → Act → World → Prop) : Exit → Act → World → Prop := fun e a' w' => Q e a' w' ∧ (e ≠ .outgrown → KeptB W a a')
theorem LetsOut.kept {W a Q} (h : LetsOut Q) : LetsOut (QKept W a Q) := let ⟨a0, w0, h⟩ := h; ⟨a0, w0, h, fun e => absurd rfl e⟩
theorem put_tmps (a : Act) (D : List Deferred) (d : Option Tmp) (v : Value) : ({ a with defers := D }.put d v).tmps = (a.put d v).tmps := by cases d <;> rfl
theorem wpIn_kept_op {F : Fence} {n : Nat} {P : Program} {o : Oper} {a a0 : Act} {w : World} {K K' : Act → World → Prop} {Q : Exit → Act → World → Prop} {W : Nat → Bool} (h0 : KeptB W a0 a)
  (h : o.wpIn F n P a w K Q) (hK : ∀ v a' w', a'.tmps = (a.put o.dst v).tmps → K a' w' → K' a' w') : o.wpIn F n P a w K' (QKept W a0 Q) := by
 refine ⟨h.1, ?_⟩
 have h2 := h.2
 generalize (o.semAt F.round a.eval).run P w = r at h2
 cases r with
 | ok x w' =>
  cases x with
  | value v => exact hK _ _ _ rfl h2
  | skip => exact hK _ _ _ rfl h2
  | defer d => exact hK _ _ _ (put_tmps ..) h2
  | enter f args =>
   refine ⟨h2.1, h2.2.mono fun e w'' he => ?_⟩
   cases e with
   | returned v => exact hK _ _ _ rfl he
   | panicked ch => exact ⟨he, fun _ => h0⟩
   | outgrown => exact LetsOut.kept he
  | round l f tmps assign body =>
   refine ⟨h2.1, h2.2.mono fun e w'' he => ?_⟩
   cases e with
   | returned v => exact hK _ _ _ rfl he
   | panicked ch => exact ⟨he, fun _ => h0⟩
   | outgrown => exact LetsOut.kept he
  | row row args => exact ⟨h2.1, h2.2.mono fun v w'' he => hK _ _ _ rfl he⟩
  | _ => exact h2.elim
 | halt x w' =>
  cases x with
  | panic v => exact ⟨h2, fun _ => h0⟩
  | _ => exact h2.elim
theorem KeptB.of_tmps {W a b c} (h : KeptB W a b) (e : c.tmps = b.tmps) : KeptB W a c := fun t ht => by rw [e]; exact h t ht
theorem wpListIn_kept {F : Fence} {n : Nat} {P : Program} {ops : Array Oper} {Q : Exit → Act → World → Prop} {W : Nat → Bool} {a0 : Act} : ∀ (l : List Oper) (a : Act) (w : World), (∀ o ∈ l, ∀ t, o.dst = some t → W t = true) → KeptB W a0 a →
  wpListIn F n P ops Q l a w → wpListIn F n P ops (QKept W a0 Q) l a w
 | [], a, w, _, h0, h => ⟨h, fun _ => h0⟩
 | o :: l, a, w, hd, h0, h => by
  unfold wpListIn at h ⊢
  have hp : ∀ v, KeptB W a0 (a.put o.dst v) := fun v => h0.trans (.put (hd o (by simp)))
  split at h
  ·rename_i hw
   rw [if_pos hw]
   exact wpIn_kept_op h0 h fun v a' w' e hk => wpListIn_kept l _ w' (fun x hx => hd x (by simp [hx])) ((hp v).of_tmps e) hk
  ·rename_i hw
   rw [if_neg hw]
   exact ⟨h.1, wpListIn_kept l _ w (fun x hx => hd x (by simp [hx])) (hp _) h.2⟩
theorem wpAnyIn_kept {F : Fence} {n : Nat} {P : Program} {md : Region.Mode} {ops : Array Oper} {Q : Exit → Act → World → Prop} {W : Nat → Bool} {a0 : Act} (hd : ∀ (i : Nat) (o : Oper), ops[i]? = some o → ∀ t, o.dst = some t → W t = true) :
  ∀ (fuel : Nat) (listed : Array Bool) (a : Act) (w : World), KeptB W a0 a → wpAnyIn F n P md ops Q fuel listed a w → wpAnyIn F n P md ops (QKept W a0 Q) fuel listed a w
 | 0, listed, a, w, h0, h => ⟨h.1, h.2, fun _ => h0⟩
 | fuel + 1, listed, a, w, h0, h => by
  refine ⟨fun hr => ⟨h.1 hr, fun _ => h0⟩, fun i hi => ?_⟩
  have h2 := h.2 i hi
  unfold wpOpIn at h2 ⊢
  cases ho : ops[i]? with
  | none =>
   simp only [ho] at h2 ⊢
   exact wpAnyIn_kept hd fuel _ a w h0 h2
  | some o =>
   simp only [ho] at h2 ⊢
   have hp : ∀ v, KeptB W a0 (a.put o.dst v) := fun v => h0.trans (.put (hd i o ho))
   split at h2
   ·rename_i hw
    rw [if_pos hw]
    exact wpIn_kept_op h0 h2 fun v a' w' e hk => wpAnyIn_kept hd fuel _ _ w' ((hp v).of_tmps e) hk
   ·rename_i hw
    rw [if_neg hw]
    exact ⟨h2.1, wpAnyIn_kept hd fuel _ _ w (hp _) h2.2⟩
theorem QC_pf {P G n D M0 F0 w0} {Q : AQ} {l : List PO} {a : Nat → AV} {M : Mp} {F : Nat → FSt} {w : World} {ac : Act} (E0 : Ext M0 F0 w0 M F w) (f : Fr M F w a ac n) {e : Exit} {ac' : Act} {w' : World}
  (h : QKept (fun t => l.any fun o => o.dst == some t) ac (QC P G n D M F w (withPf (hide l a) Q)) e ac' w') : QC P G n D M0 F0 w0 Q e ac' w' := by
 obtain ⟨⟨e', a', σ', M', q, r, S', g', E', f', hD'⟩, hk⟩ := h
 cases e' with
 | panic v =>
  cases e <;> simp only [ERel] at r
  refine ⟨.panic v, hide l a, σ', M', q, r, S', g', E0.trans E', ⟨f'.size, fun t => ?_⟩, hD'⟩
  unfold hide
  cases hw : l.any fun o => o.dst == some t with
  | true => simpa using VR.undef _
  | false =>
   rw [hk (by simp) t hw]
   simpa using (f.val t).mono E'
 | normal => exact ⟨.normal, a', σ', M', q, r, S', g', E0.trans E', f', hD'⟩
 | exit i => exact ⟨.exit i, a', σ', M', q, r, S', g', E0.trans E', f', hD'⟩
 | ret => exact ⟨.ret, a', σ', M', q, r, S', g', E0.trans E', f', hD'⟩
theorem plainPlan_dst {n : Nat} {ops : Array Oper} : ∀ (l : List Oper) (pl : List PO), plainPlan n ops l = some pl → ∀ o ∈ l, ∀ t, o.dst = some t → (pl.any fun o => o.dst == some t) = true
 | [], _, _, o, ho, _, _ => by cases ho
 | x :: l, pl, hp, o, ho, t, ht => by
  simp only [plainPlan] at hp
  split at hp
  ·simp only [planOf, Option.bind_eq_some_iff, Option.map_eq_some_iff] at hp
   obtain ⟨p, ⟨gd, hgd, rfl⟩, pr, hpr, rfl⟩ := hp
   rcases List.mem_cons.1 ho with rfl | ho
   ·simp [ht]
   ·have := plainPlan_dst l pr hpr o ho t ht
    simp only [List.any_cons, this, Bool.or_true]
  ·cases hp
theorem region_plain {P : Program} {G : Env} {n id : Nat} {ops : Array Oper} {pl : List PO} (hp : plainPlan n ops ops.toList = some pl) {Q : AQ} {a σ} (h : aops P G (withPf (hide pl a) Q) pl a σ) : AWp P G n (.region id ops false) Q a σ :=
 fun _ _ _ _ _ M w ac S g E f hD => wpIn_mono (wpIn_region_list (wpListIn_kept (W := fun t => pl.any fun o => o.dst == some t) (a0 := ac) _ _ _ (fun o ho t ht => plainPlan_dst _ _ hp o ho t ht) (KeptB.refl _ _) (plain_sound ops.toList pl a σ M w ac hp h S g (.refl ..) f hD)))
  fun _ _ _ hq => QC_pf E f hq
def isLoad : Op → Bool
 | .load .. => true
 | _ => false
def slotsOf (ops : Array Oper) (o : Oper) : List Nat :=
 (o.op.operands.toList.filterMap fun | .tmp t => some t | _ => none) ++ (match o.guard with | some (j, _) => ((ops[j]?).bind (·.dst)).toList | none => [])
def bindsAny (e : Edge) : Bool := Region.binds .any e
def ahead (A : Array Nat) (k i : Nat) : Bool := (A.getD i 0).testBit k
def maskOk (ops : Array Oper) (A : Array Nat) : Bool :=
 (List.range ops.size).all fun i =>
  match ops[i]? with
  | some o => A.getD i 0 == o.after.toList.foldl (fun s e => if bindsAny e then s ||| 2 ^ e.on ||| A.getD e.on 0 else s) 0
  | none => false
theorem foldl_or_bit {α : Type} (p : α → Bool) (f : α → Nat) (k : Nat) : ∀ (l : List α) (s : Nat),
  (l.foldl (fun s e => if p e then s ||| f e else s) s).testBit k = true ↔ (s.testBit k = true ∨ ∃ e ∈ l, p e = true ∧ (f e).testBit k = true) := by
 intro l
 induction l with
 | nil => intro s; simp
 | cons e l ih =>
  intro s
  simp only [List.foldl_cons, ih, List.mem_cons, exists_eq_or_imp]
  by_cases hp : p e = true
  ·simp only [hp, if_true, Nat.testBit_or, Bool.or_eq_true, true_and]
   constructor
   ·rintro ((h | h) | h)
    ·exact .inl h
    ·exact .inr (.inl h)
    ·exact .inr (.inr h)
   ·rintro (h | h | h)
    ·exact .inl (.inl h)
    ·exact .inl (.inr h)
    ·exact .inr h
  ·simp [hp]
theorem mask_spec {ops : Array Oper} {A : Array Nat} (h : maskOk ops A = true) {i : Nat} {o : Oper} (ho : ops[i]? = some o) {k : Nat} (hk : ahead A k i = true) :
  ∃ e ∈ o.after.toList, bindsAny e = true ∧ (e.on = k ∨ ahead A k e.on = true) := by
 have hi : i < ops.size := (Array.getElem?_eq_some_iff.1 ho).1
 simp only [maskOk, List.all_eq_true, List.mem_range] at h
 have := h i hi
 rw [ho] at this
 simp only [beq_iff_eq] at this
 unfold ahead at hk
 rw [this] at hk
 have e2 : (fun (s : Nat) (e : Edge) => if bindsAny e then s ||| 2 ^ e.on ||| A.getD e.on 0 else s) = fun s e => if bindsAny e then s ||| (2 ^ e.on ||| A.getD e.on 0) else s := by
  funext s e; rw [Nat.or_assoc]
 rw [e2, foldl_or_bit] at hk
 rcases hk with h0 | ⟨e, he, hb, hbit⟩
 ·simp at h0
 ·refine ⟨e, he, hb, ?_⟩
  rw [Nat.testBit_or, Bool.or_eq_true] at hbit
  rcases hbit with h1 | h1
  ·left
   rw [Nat.testBit_two_pow] at h1
   simpa using h1
  ·right; exact h1
def isE (o : Oper) : Bool := !(isPure o.op) && !(isLoad o.op)
def dstAt (ops : Array Oper) (i : Nat) : Option Nat := (ops[i]?).bind fun (o : Oper) => o.dst
structure OrdOk (n : Nat) (ops : Array Oper) (A : Array Nat) (π : List Nat) : Prop where
 mask : maskOk ops A = true
 nodup : π.Nodup
 all : ∀ i, i < ops.size → i ∈ π
 lt : ∀ i ∈ π, i < ops.size
 edges : ∀ d1 i d2 (o : Oper) (e : Edge), π = d1 ++ i :: d2 → ops[i]? = some o → e ∈ o.after.toList → bindsAny e = true → e.on ∈ d1
 slots : ∀ i j (oi oj : Oper) t, i ≠ j → ops[i]? = some oi → ops[j]? = some oj → oi.dst = some t → (t ∈ slotsOf ops oj ∨ oj.dst = some t) → ahead A i j = true ∨ ahead A j i = true
 late : ∀ d1 e d2 (oe : Oper) i, π = d1 ++ e :: d2 → ops[e]? = some oe → isE oe = true → i ∈ d2 → ahead A e i = true
 dst : ∀ (i : Nat) (o : Oper), ops[i]? = some o → dstIn n o.dst = true
 keep : ∀ d1 j d2 e d3 (oj oe : Oper) t x, π = d1 ++ j :: (d2 ++ e :: d3) → ops[j]? = some oj → oj.op = .load t x → ops[e]? = some oe → isE oe = true → ahead A j e = false →
  ∃ d, oj.dst = some d ∧ ∀ k ∈ j :: (d2 ++ [e]), (∀ s ∈ slotsOf ops oj, dstAt ops k ≠ some s) ∧ (k ≠ j → dstAt ops k ≠ some d)
 sel : Region.noSelect ops = true
def afr (ops : Array Oper) (val : Nat → AV) : List Nat → (Nat → AV) → (Nat → AV)
 | [], a => a
 | i :: l, a => afr ops val l (put a (dstAt ops i) (val i))
theorem afr_append {ops val} : ∀ (l m : List Nat) (a : Nat → AV), afr ops val (l ++ m) a = afr ops val m (afr ops val l a)
 | [], _, _ => rfl
 | i :: l, m, a => by simp only [List.cons_append, afr]; exact afr_append l m _
theorem put_ne {a : Nat → AV} {d : Option Nat} {v : AV} {t : Nat} (h : d ≠ some t) : put a d v t = a t := by
 cases d with
 | none => rfl
 | some d => simp only [put, upd]; rw [if_neg (fun e => h (by rw [e]))]
theorem put_eq {a : Nat → AV} {v : AV} {t : Nat} : put a (some t) v t = v := by simp [put, upd]
theorem put_congr {a b : Nat → AV} {d : Option Nat} {v : AV} {t : Nat} (h : a t = b t) : put a d v t = put b d v t := by
 cases d with
 | none => exact h
 | some d => simp only [put, upd]; split <;> first | rfl | exact h
theorem afr_congr {ops val} : ∀ (l : List Nat) (a b : Nat → AV) (t : Nat), a t = b t → afr ops val l a t = afr ops val l b t
 | [], _, _, _, h => h
 | _ :: l, _, _, t, h => afr_congr l _ _ t (put_congr h)
theorem afr_filter {ops val} (t : Nat) (p : Nat → Bool) : ∀ (l : List Nat) (a : Nat → AV), (∀ i ∈ l, p i = false → dstAt ops i ≠ some t) → afr ops val (l.filter p) a t = afr ops val l a t
 | [], _, _ => rfl
 | i :: l, a, h => by
  have ih := fun a => afr_filter (ops := ops) (val := val) t p l a (fun j hj => h j (by simp [hj]))
  cases hp : p i with
  | true => rw [List.filter_cons_of_pos hp]; exact ih _
  | false =>
   rw [List.filter_cons_of_neg (by simp [hp]), ih]
   simp only [afr]
   exact afr_congr l _ _ t (put_ne (h i (by simp) hp)).symm
theorem afr_none {ops val} (t : Nat) : ∀ (l : List Nat) (a : Nat → AV), (∀ i ∈ l, dstAt ops i ≠ some t) → afr ops val l a t = a t
 | [], _, _ => rfl
 | i :: l, a, h => by
  simp only [afr]
  rw [afr_none t l _ (fun j hj => h j (by simp [hj])), put_ne (h i (by simp))]
end Go.Abs
namespace Go.Abs
open Go
def againOf (ops : Array Oper) (A : Array Nat) (e : Nat) : List Nat → List AG
 | [] => []
 | j :: r =>
  match ops[j]? with
  | some o => match o.op, o.dst, guardOf ops o with
   | .load t x, some d, some g => if ahead A j e then againOf ops A e r else ⟨g, t, x, d⟩ :: againOf ops A e r
   | _, _, _ => againOf ops A e r
  | none => againOf ops A e r
def drawPlan (ops : Array Oper) (A : Array Nat) : List Nat → List Nat → Option (List PO)
 | _, [] => some []
 | done, i :: r =>
  match ops[i]? with
  | some o => (planOf ops o (if isE o then againOf ops A i done else [])).bind fun p => (drawPlan ops A (done ++ [i]) r).map fun l => p :: l
  | none => none
def QEv (P : Program) (G : Env) (o : Oper) (a : Nat → AV) (σ : AS) (v : AV) : Prop :=
 (isPure o.op = true ∧ QuietOp P o (ev G a) v) ∨ ∃ t x, o.op = .load t x ∧ aload P t (ev G a x) σ fun u => u = v
def PEnd (P : Program) (G : Env) (ops : Array Oper) (o : Oper) (a : Nat → AV) (σ : AS) (v : AV) : Prop :=
 ∃ g, guardOf ops o = some g ∧ ((acond a g True False ∧ QEv P G o a σ v) ∨ (acond a g False True ∧ v = .tuple []))
theorem acond_cases {a : Nat → AV} {g : Option (Nat × Bool)} {yes no : Prop} (h : acond a g yes no) : (acond a g True False ∧ yes) ∨ (acond a g False True ∧ no) := by
 unfold acond at *
 split at h
 ·exact .inl ⟨trivial, h⟩
 ·rename_i d want
  cases hd : a d <;> simp only [hd] at h ⊢ <;> try exact h.elim
  ·rename_i b
   by_cases e : b = want
   ·exact .inl ⟨⟨fun _ => trivial, fun h' => h' e⟩, h.1 e⟩
   ·exact .inr ⟨⟨fun h' => e h', fun _ => trivial⟩, h.2 e⟩
  ·rename_i vs
   cases vs with
   | nil => exact .inr ⟨trivial, h⟩
   | cons => exact h.elim
theorem acond_yes {a : Nat → AV} {g : Option (Nat × Bool)} {yes no : Prop} (h : acond a g True False) (hc : acond a g yes no) : yes := by
 unfold acond at *
 split at h
 ·exact hc
 ·rename_i d want
  cases hd : a d <;> simp only [hd] at h hc <;> try exact h.elim
  ·rename_i b
   by_cases e : b = want
   ·exact hc.1 e
   ·exact (h.2 e).elim
  ·rename_i vs
   cases vs with
   | nil => exact h.elim
   | cons => exact h.elim
theorem acond_congr {a b : Nat → AV} {g : Option (Nat × Bool)} {yes no : Prop} (h : ∀ d w, g = some (d, w) → a d = b d) : acond a g yes no = acond b g yes no := by
 unfold acond
 cases g with
 | none => rfl
 | some p => simp only [h p.1 p.2 rfl]
theorem ev_congr {G : Env} {a b : Nat → AV} {x : Operand} (h : ∀ t, x = .tmp t → a t = b t) : ev G a x = ev G b x := by
 cases x with
 | tmp t => exact h t rfl
 | _ => rfl
theorem aload_ex {P : Program} {t p σ} {K : AV → Prop} (h : aload P t p σ K) : ∃ v, K v ∧ aload P t p σ fun u => u = v := by
 have part : ∀ {g n off cs} {K : AV → Prop}, partOf g n off cs K → ∃ v, K v ∧ partOf g n off cs fun u => u = v := by
  intro g n off cs K h
  unfold partOf at *
  split at h
  ·rename_i hg; exact ⟨_, h.2, by rw [if_pos hg]; exact ⟨h.1, rfl⟩⟩
  ·rename_i hg; obtain ⟨v, h1, h2⟩ := h; exact ⟨v, h2, by rw [if_neg hg]; exact ⟨v, h1, rfl⟩⟩
 unfold aload at *
 split at h
 ·obtain ⟨cs, n, h1, h2, h3⟩ := h
  obtain ⟨v, h4, h5⟩ := part h3
  exact ⟨v, h4, cs, n, h1, h2, h5⟩
 ·obtain ⟨h1, n, h2, h3⟩ := h
  split at h3
  ·rename_i hg
   obtain ⟨cs, rfl, h4, h5⟩ := h3
   exact ⟨_, h5, h1, n, h2, by rw [if_pos hg]; exact ⟨cs, rfl, h4, rfl⟩⟩
  ·rename_i hg
   exact ⟨_, h3.2, h1, n, h2, by rw [if_neg hg]; exact ⟨h3.1, rfl⟩⟩
 ·exact h.elim
theorem quiet_ex {P : Program} {G : Env} {o : Oper} {a : Nat → AV} {σ : AS} {K : (Nat → AV) → AS → Prop} {Q : AQ} (hq : isE o = false) (h : aop1 P G o.op o.dst a σ K Q) : ∃ v, QEv P G o a σ v ∧ K (put a o.dst v) σ := by
 unfold aop1 at h
 split at h
 ·rename_i hp
  obtain ⟨v, h1, h2⟩ := apure_sound h
  exact ⟨v, .inl ⟨hp, h2⟩, h1⟩
 ·rename_i hp
  have hp' : isPure o.op = false := by simpa using hp
  simp only [isE, hp', Bool.not_false, Bool.true_and, Bool.not_eq_false'] at hq
  unfold isLoad at hq
  split at hq
  ·rename_i t x ho
   rw [ho] at h
   simp only [aeff] at h
   obtain ⟨v, h1, h2⟩ := aload_ex h
   exact ⟨v, .inr ⟨t, x, ho, h2⟩, h1⟩
  ·cases hq
theorem QEv.run {P : Program} {G : Env} {o : Oper} {a : Nat → AV} {σ : AS} {v : AV} (h : QEv P G o a σ v) {M w} {ρ : Operand → Value} (S : Sim M σ w) (hops : ∀ x ∈ o.op.operands, VR M σ.F w (ev G a x) (ρ x)) :
  ∃ v' M' w', (execOp ρ o).run P w = .ok (.value v') w' ∧ VR M' σ.F w' v v' ∧ Ext M σ.F w M' σ.F w' ∧ Sim M' σ w' := by
 rcases h with ⟨_, hq⟩ | ⟨t, x, ho, hl⟩
 ·obtain ⟨v', M', w', h1, h2, h3, h4⟩ := hq M σ.F w ρ S.role hops
  exact ⟨v', M', w', h1, h2, h3, h4 σ rfl S⟩
 ·obtain ⟨u, rfl, hh⟩ := aload_sound hl
  obtain ⟨v', h1, h2⟩ := hh M w (ρ x) S (hops x (by rw [ho]; simp [Op.operands]))
  refine ⟨v', M, w, ?_, h2, .refl .., S⟩
  unfold execOp; simp only [ho]; rw [Sem.run_bind, h1]; rfl
theorem QEv.nodefer {P : Program} {G : Env} {o : Oper} {a : Nat → AV} {σ : AS} {v : AV} (h : QEv P G o a σ v) : ∀ c, o.op ≠ .defer c := by
 intro c hc
 rcases h with ⟨h1, _⟩ | ⟨t, x, h1, _⟩
 ·rw [hc] at h1; cases h1
 ·rw [hc] at h1; cases h1
section
variable {P : Program} {G : Env} {n : Nat} {ops : Array Oper} {A : Array Nat} {π : List Nat} {Q : AQ} {a0 : Nat → AV}
theorem ahead_before (O : OrdOk n ops A π) : ∀ (m : Nat) (d1 : List Nat) (i : Nat) (d2 : List Nat) (k : Nat), d1.length = m → π = d1 ++ i :: d2 → ahead A k i = true → k ∈ d1 := by
 intro m
 induction m using Nat.strongRecOn with
 | _ m ih =>
  intro d1 i d2 k hm hπ hk
  have hi : i < ops.size := O.lt i (by rw [hπ]; simp)
  obtain ⟨e, he, hb, h⟩ := mask_spec O.mask (Array.getElem?_eq_getElem hi) hk
  have hon := O.edges d1 i d2 _ e hπ (Array.getElem?_eq_getElem hi) he hb
  rcases h with h | h
  ·rw [← h]; exact hon
  ·obtain ⟨x, y, rfl⟩ := List.append_of_mem hon
   have := ih x.length (by rw [← hm]; simp) x e.on (y ++ i :: d2) k rfl (by rw [hπ]; simp) h
   simp [this]
theorem ahead_in (O : OrdOk n ops A π) {L : Nat → Bool} (hcl : ∀ i (o : Oper), L i = true → ops[i]? = some o → ∀ e ∈ o.after.toList, bindsAny e = true → L e.on = true) :
  ∀ (m : Nat) (d1 : List Nat) (i : Nat) (d2 : List Nat) (k : Nat) (o : Oper), d1.length = m → π = d1 ++ i :: d2 → ops[i]? = some o → (∀ e ∈ o.after.toList, bindsAny e = true → L e.on = true) → ahead A k i = true → L k = true := by
 intro m
 induction m using Nat.strongRecOn with
 | _ m ih =>
  intro d1 i d2 k o hm hπ ho hr hk
  obtain ⟨e, he, hb, h⟩ := mask_spec O.mask ho hk
  have hon := O.edges d1 i d2 o e hπ ho he hb
  rcases h with h | h
  ·rw [← h]; exact hr e he hb
  ·have hLe := hr e he hb
   obtain ⟨x, y, hxy⟩ := List.append_of_mem hon
   have hlt : e.on < ops.size := O.lt e.on (by rw [hπ, hxy]; simp)
   exact ih x.length (by rw [← hm, hxy]; simp) x e.on (y ++ i :: d2) k _ rfl (by rw [hπ, hxy]; simp) (Array.getElem?_eq_getElem hlt) (fun e' he' hb' => hcl e.on _ hLe (Array.getElem?_eq_getElem hlt) e' he' hb') h
theorem split_of_mem (O : OrdOk n ops A π) {i : Nat} (hi : i < ops.size) : ∃ d1 d2, π = d1 ++ i :: d2 := by
 obtain ⟨d1, d2, h⟩ := List.append_of_mem (O.all i hi); exact ⟨d1, d2, h⟩
theorem dstAt_some {i : Nat} {o : Oper} (ho : ops[i]? = some o) : dstAt ops i = o.dst := by simp [dstAt, ho]
theorem not_written (O : OrdOk n ops A π) {i k : Nat} {oi : Oper} (hi : ops[i]? = some oi) (hne : k ≠ i) (h1 : ahead A k i = false) (h2 : ahead A i k = false) {t : Nat} (ht : t ∈ slotsOf ops oi ∨ oi.dst = some t) : dstAt ops k ≠ some t := by
 intro hk
 cases hok : ops[k]? with
 | none => simp [dstAt, hok] at hk
 | some ok =>
  rw [dstAt_some hok] at hk
  rcases O.slots k i ok oi t hne hok hi hk ht with h | h
  ·rw [h] at h1; cases h1
  ·rw [h] at h2; cases h2
theorem guard_slot {o : Oper} {g : Option (Nat × Bool)} (hg : guardOf ops o = some g) {d w} (h : g = some (d, w)) : d ∈ slotsOf ops o := by
 subst h
 unfold guardOf at hg
 split at hg
 ·cases hg
 ·rename_i j want hj
  split at hg
  ·rename_i d' hd
   simp at hg
   unfold slotsOf
   rw [hj]
   simp only [hd]
   simp [hg.1]
  ·cases hg
theorem operand_slot {o : Oper} {x : Operand} (hx : x ∈ o.op.operands) {t : Nat} (h : x = .tmp t) : t ∈ slotsOf ops o := by
 subst h
 unfold slotsOf
 rw [List.mem_append, List.mem_filterMap]
 exact .inl ⟨_, by simpa using hx, rfl⟩
end
end Go.Abs
namespace Go.Abs
open Go
section
variable {P : Program} {G : Env} {n : Nat} {ops : Array Oper} {A : Array Nat} {π : List Nat} {Q : AQ} {a0 : Nat → AV}
theorem afr_val {val val' : Nat → AV} : ∀ (l : List Nat) (a : Nat → AV), (∀ i ∈ l, val i = val' i) → afr ops val l a = afr ops val' l a
 | [], _, _ => rfl
 | i :: l, a, h => by
  simp only [afr]
  rw [h i (by simp)]
  exact afr_val l _ fun j hj => h j (by simp [hj])
structure Stage (P : Program) (G : Env) (n : Nat) (ops : Array Oper) (A : Array Nat) (π : List Nat) (Q : AQ) (a0 : Nat → AV) (L : Nat → Bool) (done rest : List Nat) (val : Nat → AV) (σ : AS) : Prop where
 split : π = done ++ rest
 closed : ∀ i (o : Oper), L i = true → ops[i]? = some o → ∀ e ∈ o.after.toList, bindsAny e = true → L e.on = true
 sub : ∀ i, L i = true → i ∈ done
 eL : ∀ i ∈ done, ∀ o : Oper, ops[i]? = some o → isE o = true → L i = true
 pend : ∀ d1 i d2 (o : Oper), done = d1 ++ i :: d2 → ops[i]? = some o → L i = false → PEnd P G ops o (afr ops val d1 a0) σ (val i)
 vc : ∃ pl, drawPlan ops A done rest = some pl ∧ aops P G Q pl (afr ops val done a0) σ
def headE (ops : Array Oper) (rest : List Nat) : Prop := rest = [] ∨ ∃ e r, ∃ oe : Oper, rest = e :: r ∧ ops[e]? = some oe ∧ isE oe = true
theorem Stage.norm (O : OrdOk n ops A π) {L : Nat → Bool} : ∀ (rest done : List Nat) (val : Nat → AV) (σ : AS), Stage P G n ops A π Q a0 L done rest val σ →
  ∃ done' rest' val', Stage P G n ops A π Q a0 L done' rest' val' σ ∧ headE ops rest' ∧ (∃ q, done' = done ++ q ∧ ∀ i ∈ q, L i = false) ∧ ∀ i ∈ done, val' i = val i := by
 intro rest
 induction rest with
 | nil => intro done val σ h; exact ⟨done, [], val, h, .inl rfl, ⟨[], by simp, by simp⟩, fun _ _ => rfl⟩
 | cons i r ih =>
  intro done val σ h
  have hi : i < ops.size := O.lt i (by rw [h.split]; simp)
  have ho : ops[i]? = some ops[i] := Array.getElem?_eq_getElem hi
  generalize ops[i] = o at ho
  cases hE : isE o with
  | true => exact ⟨done, i :: r, val, h, .inr ⟨i, r, o, rfl, ho, hE⟩, ⟨[], by simp, by simp⟩, fun _ _ => rfl⟩
  | false =>
   have hnd := O.nodup
   rw [h.split] at hnd
   have hid : i ∉ done := fun hm => by
    rw [List.nodup_append] at hnd
    exact hnd.2.2 i hm i (by simp) rfl
   have hL : L i = false := by
    cases hq : L i with
    | false => rfl
    | true => exact absurd (h.sub i hq) hid
   obtain ⟨pl, hpl, hvc⟩ := h.vc
   simp only [drawPlan, ho, hE, planOf] at hpl
   cases hg : guardOf ops o with
   | none => simp [hg] at hpl
   | some g =>
    cases hr : drawPlan ops A (done ++ [i]) r with
    | none => simp [hg, hr] at hpl
    | some pr =>
     simp [hg, hr] at hpl
     subst hpl
     simp only [aops] at hvc
     have key : ∃ v, PEnd P G ops o (afr ops val done a0) σ v ∧ aops P G Q pr (put (afr ops val done a0) o.dst v) σ := by
      rcases acond_cases hvc with ⟨h1, h2⟩ | ⟨h1, h2⟩
      ·obtain ⟨v, h3, h4⟩ := quiet_ex hE h2
       exact ⟨v, ⟨g, hg, .inl ⟨h1, h3⟩⟩, h4.2⟩
      ·exact ⟨_, ⟨g, hg, .inr ⟨h1, rfl⟩⟩, h2⟩
     obtain ⟨v, hp, hv⟩ := key
     have hval : ∀ j ∈ done, val j = upd val i v j := fun j hj => (upd_ne _ _ (by rintro rfl; exact hid hj)).symm
     have hst : Stage P G n ops A π Q a0 L (done ++ [i]) r (upd val i v) σ := by
      refine ⟨by rw [h.split]; simp, h.closed, fun j hj => by simp [h.sub j hj], fun j hj oj hoj hEj => ?_, fun d1 j d2 oj hs hoj hLj => ?_, pr, hr, ?_⟩
      ·rcases List.mem_append.1 hj with hj | hj
       ·exact h.eL j hj oj hoj hEj
       ·simp at hj; subst hj; rw [ho] at hoj; cases hoj; rw [hE] at hEj; cases hEj
      ·rcases List.eq_nil_or_concat d2 with rfl | ⟨d2', z, rfl⟩
       ·have := List.append_inj' hs (by simp)
        obtain ⟨rfl, h2⟩ := this
        simp at h2
        subst h2
        rw [ho] at hoj; cases hoj
        rw [upd_same, ← afr_val done a0 hval]
        exact hp
       ·have e1 : done ++ [i] = (d1 ++ j :: d2') ++ [z] := by rw [hs]; simp
        have := List.append_inj' e1 (by simp)
        obtain ⟨e2, _⟩ := this
        have hj1 : ∀ k ∈ d1, val k = upd val i v k := fun k hk => hval k (by rw [e2]; simp [hk])
        rw [← afr_val d1 a0 hj1, ← hval j (by rw [e2]; simp)]
        exact h.pend d1 j d2' oj e2 hoj hLj
      ·rw [afr_append, ← afr_val done a0 hval]
       simp only [afr, upd_same, dstAt_some ho]
       exact hv
     obtain ⟨done', rest', val', k1, k2, ⟨q, k3, k4⟩, k5⟩ := ih _ _ _ hst
     refine ⟨done', rest', val', k1, k2, ⟨i :: q, by rw [k3]; simp, fun j hj => ?_⟩, fun j hj => ?_⟩
     ·rcases List.mem_cons.1 hj with rfl | hj
      ·exact hL
      ·exact k4 j hj
     ·rw [k5 j (by simp [hj]), ← hval j hj]
theorem agree (O : OrdOk n ops A π) {L : Nat → Bool} {done rest : List Nat} {val : Nat → AV} {σ : AS} (h : Stage P G n ops A π Q a0 L done rest val σ) {d1 d2 : List Nat} {i : Nat} {o : Oper} (hs : π = d1 ++ i :: d2) (ho : ops[i]? = some o)
  (hLi : L i = false) (hready : ∀ e ∈ o.after.toList, bindsAny e = true → L e.on = true) (hd : ∃ q, done = d1 ++ q) {t : Nat} (ht : t ∈ slotsOf ops o) :
  afr ops val (done.filter L) a0 t = afr ops val d1 a0 t := by
 obtain ⟨q, hq⟩ := hd
 have hnd := O.nodup
 -- none of those that are not ahead of it writes the slot
 have hin : ∀ k, ahead A k i = true → L k = true := fun k hk => ahead_in O h.closed d1.length d1 i d2 k o rfl hs ho hready hk
 have hik : ∀ k, L k = true → ahead A i k = false := fun k hk => by
  cases hq : ahead A i k with
  | false => rfl
  | true =>
   have hkd := h.sub k hk
   have hkl : k < ops.size := O.lt k (by rw [h.split]; simp [hkd])
   obtain ⟨x, y, hxy⟩ := split_of_mem O hkl
   have := ahead_in O h.closed x.length x k y i _ rfl hxy (Array.getElem?_eq_getElem hkl) (fun e he hb => h.closed k _ hk (Array.getElem?_eq_getElem hkl) e he hb) hq
   rw [hLi] at this; cases this
 have hd1 : i ∉ d1 := fun hm => by
  rw [hs, List.nodup_append] at hnd
  exact hnd.2.2 i hm i (by simp) rfl
 rw [hq, List.filter_append, afr_append]
 rw [afr_none t (q.filter L)]
 ·refine afr_filter t L d1 a0 fun k hk hLk => ?_
  refine not_written O ho (fun e => hd1 (e ▸ hk)) ?_ ?_ (.inl ht)
  ·cases hz : ahead A k i with
   | false => rfl
   | true => rw [hin k hz] at hLk; cases hLk
  ·cases hz : ahead A i k with
   | false => rfl
   | true =>
    obtain ⟨x, y, rfl⟩ := List.append_of_mem hk
    have := ahead_before O x.length x k (y ++ i :: d2) i rfl (by rw [hs]; simp) hz
    exact absurd (by simp [this]) hd1
 ·intro k hk
  simp only [List.mem_filter] at hk
  have hki : k ≠ i := fun e => by rw [e, hLi] at hk; exact absurd hk.2 (by simp)
  refine not_written O ho hki ?_ (hik k hk.2) (.inl ht)
  cases hz : ahead A k i with
  | false => rfl
  | true =>
   have hkd1 := ahead_before O d1.length d1 i d2 k rfl hs hz
   have hkdone : k ∈ done := h.sub k hk.2
   have hnd2 : done.Nodup := by have := O.nodup; rw [h.split, List.nodup_append] at this; exact this.1
   rw [hq, List.nodup_append] at hnd2
   exact absurd rfl (hnd2.2.2 k hkd1 k hk.1)
theorem filter_upd {L : Nat → Bool} {i : Nat} {l : List Nat} (h : i ∉ l) : l.filter (upd L i true) = l.filter L := by
 apply List.filter_congr
 intro k hk
 exact upd_ne _ _ (by rintro rfl; exact h hk)
theorem nodup_mid {l m : List Nat} {i : Nat} (h : (l ++ i :: m).Nodup) : i ∉ l ∧ i ∉ m := by
 rw [List.nodup_append] at h
 refine ⟨fun hm => h.2.2 i hm i (by simp) rfl, fun hm => ?_⟩
 have := h.2.1
 rw [List.nodup_cons] at this
 exact this.1 hm
theorem left_less (hnd : π.Nodup) {L : Nat → Bool} {i : Nat} (hi : i ∈ π) (hL : L i = false) : (π.filter fun k => !(upd L i true) k).length + 1 = (π.filter fun k => !L k).length := by
 obtain ⟨x, y, rfl⟩ := List.append_of_mem hi
 obtain ⟨h1, h2⟩ := nodup_mid hnd
 have e : ∀ l : List Nat, i ∉ l → (l.filter fun k => !(upd L i true) k) = l.filter fun k => !L k := by
  intro l hl
  apply List.filter_congr
  intro k hk
  rw [upd_ne _ _ (by rintro rfl; exact hl hk)]
 rw [List.filter_append, List.filter_append, List.filter_cons_of_neg (by simp [upd_same]), List.filter_cons_of_pos (by simp [hL]), e x h1, e y h2]
 simp; omega
theorem Stage.done_all (O : OrdOk n ops A π) {L : Nat → Bool} {done rest : List Nat} {val : Nat → AV} {σ : AS} (h : Stage P G n ops A π Q a0 L done rest val σ) (hall : ∀ i ∈ π, L i = true) :
  Q .normal (afr ops val (done.filter L) a0) σ := by
 have hr : rest = [] := by
  cases rest with
  | nil => rfl
  | cons e r =>
   have := h.sub e (hall e (by rw [h.split]; simp))
   have hnd := O.nodup
   rw [h.split] at hnd
   exact absurd this (nodup_mid hnd).1
 subst hr
 obtain ⟨pl, hpl, hvc⟩ := h.vc
 simp [drawPlan] at hpl
 subst hpl
 have : done.filter L = done := List.filter_eq_self.2 fun i hi => hall i (by rw [h.split]; simp [hi])
 rw [this]
 exact hvc
theorem all_of_ready (O : OrdOk n ops A π) {listed : Array Bool} (hsz : listed.size = ops.size) (hr : Region.ready .any ops listed = []) : ∀ i ∈ π, listed.getD i false = true := by
 have key : ∀ (m : Nat) (d1 d2 : List Nat), d1.length = m → π = d1 ++ d2 → ∀ k ∈ d1, listed.getD k false = true := by
  intro m
  induction m with
  | zero => intro d1 d2 hm _ k hk; rw [List.length_eq_zero_iff.1 hm] at hk; simp at hk
  | succ m ih =>
   intro d1 d2 hm hs k hk
   rcases List.eq_nil_or_concat d1 with rfl | ⟨d, z, rfl⟩
   ·simp at hm
   ·have hd := ih d (z :: d2) (by simpa using hm) (by rw [hs]; simp)
    simp only [List.concat_eq_append, List.mem_append, List.mem_singleton] at hk
    rcases hk with hk | rfl
    ·exact hd k hk
    ·cases hq : listed.getD k false with
     | true => rfl
     | false =>
      have hlt : k < ops.size := O.lt k (by rw [hs]; simp)
      have : k ∈ Region.ready .any ops listed := by
       rw [mem_ready]
       refine ⟨?_, ops[k], Array.getElem?_eq_getElem hlt, fun e he hb => ?_⟩
       ·have hk' : k < listed.size := by omega
        simp only [Array.getD, hk'] at hq ⊢
        exact hq
       ·exact hd _ (O.edges d k d2 _ e (by rw [hs]; simp) (Array.getElem?_eq_getElem hlt) (by simpa using he) hb)
      rw [hr] at this; simp at this
 exact key π.length π [] rfl (by simp)
end
end Go.Abs
namespace Go.Abs
open Go
section
variable {P : Program} {G : Env} {n : Nat} {ops : Array Oper} {A : Array Nat} {π : List Nat} {Q : AQ} {a0 : Nat → AV} {D : List Deferred} {M0 : Mp} {F0 : Nat → FSt} {w0 : World}
theorem operands_VR (O : OrdOk n ops A π) {L : Nat → Bool} {done rest : List Nat} {val : Nat → AV} {σ : AS} (h : Stage P G n ops A π Q a0 L done rest val σ) {d1 d2 : List Nat} {i : Nat} {o : Oper} (hs : π = d1 ++ i :: d2) (ho : ops[i]? = some o)
  (hLi : L i = false) (hready : ∀ e ∈ o.after.toList, bindsAny e = true → L e.on = true) (hd : ∃ q, done = d1 ++ q) {M : Mp} {w : World} {ac : Act} (g : GOk P G M σ.F w) (f : Fr M σ.F w (afr ops val (done.filter L) a0) ac n) :
  (∀ x ∈ o.op.operands, VR M σ.F w (ev G (afr ops val d1 a0) x) (ac.eval x)) ∧ ∀ gd, guardOf ops o = some gd → ∀ d want, gd = some (d, want) → VR M σ.F w (afr ops val d1 a0 d) (ac.tmps.getD d undef) := by
 refine ⟨fun x hx => ?_, fun gd hg d want hgd => ?_⟩
 ·rw [← ev_congr (a := afr ops val (done.filter L) a0) fun t ht => agree O h hs ho hLi hready hd (operand_slot hx ht)]
  exact ev_VR g f x
 ·rw [← agree O h hs ho hLi hready hd (guard_slot hg hgd)]
  exact f.val d
theorem QEv.again {o : Oper} {a : Nat → AV} {σ σ' : AS} {v : AV} (h : QEv P G o a σ v) (hl : ∀ t x, o.op = .load t x → aload P t (ev G a x) σ' fun u => u = v) : QEv P G o a σ' v := by
 rcases h with h | ⟨t, x, ho, _⟩
 ·exact .inl h
 ·exact .inr ⟨t, x, ho, hl t x ho⟩
theorem again_mem {e : Nat} {a : Nat → AV} {σ : AS} : ∀ (l : List Nat), aagain P G a σ (againOf ops A e l) → ∀ j ∈ l, ∀ (o : Oper) t x d g, ops[j]? = some o → o.op = .load t x → o.dst = some d → guardOf ops o = some g → ahead A j e = false →
  acond a g (aload P t (ev G a x) σ fun v => v = a d) True := by
 intro l
 induction l with
 | nil => intro _ j hj; simp at hj
 | cons k r ih =>
  intro h j hj o t x d g ho hop hd hg hah
  rcases List.mem_cons.1 hj with rfl | hj
  ·simp only [againOf, ho, hop, hd, hg, hah] at h
   exact h.1
  ·refine ih ?_ j hj o t x d g ho hop hd hg hah
   simp only [againOf] at h
   split at h
   ·split at h
    ·split at h
     ·exact h
     ·exact h.2
    ·exact h
   ·exact h
theorem draw_step {ro : Option Nat} (O : OrdOk n ops A π) : ∀ (fuel : Nat) (listed : Array Bool) (done rest : List Nat) (val : Nat → AV) (σ : AS) (M : Mp) (w : World) (ac : Act),
  listed.size = ops.size → (π.filter fun k => !(listed.getD k false)).length = fuel → Stage P G n ops A π Q a0 (fun k => listed.getD k false) done rest val σ → headE ops rest →
  Sim M σ w → GOk P G M σ.F w → Ext M0 F0 w0 M σ.F w → Fr M σ.F w (afr ops val (done.filter fun k => listed.getD k false) a0) ac n → ac.defers = D →
  wpAnyIn (wideAt ro) 0 P .any ops (QC P G n D M0 F0 w0 Q) fuel listed ac w := by
 intro fuel
 induction fuel with
 | zero =>
  intro listed done rest val σ M w ac hsz hfu hst hhd S g E f hD
  have hall : ∀ i ∈ π, listed.getD i false = true := by
   intro i hi
   have := List.length_eq_zero_iff.1 hfu
   rw [List.filter_eq_nil_iff] at this
   simpa using this i hi
  refine ⟨?_, _, _, σ, M, hst.done_all O hall, trivial, S, g, E, f, hD⟩
  rw [List.eq_nil_iff_forall_not_mem]
  intro i hi
  rw [mem_ready] at hi
  obtain ⟨h1, o, ho, _⟩ := hi
  have hlt := (Array.getElem?_eq_some_iff.1 ho).1
  have h2 := hall i (O.all i hlt)
  have hlt' : i < listed.size := by omega
  rw [Array.getD_eq_getD_getElem?, Array.getElem?_eq_getElem hlt'] at h1 h2
  simp only [Option.getD_some] at h1 h2
  rw [h2] at h1; cases h1
 | succ fuel ih =>
  intro listed done rest val σ M w ac hsz hfu hst hhd S g E f hD
  refine ⟨fun hr => ⟨_, _, σ, M, hst.done_all O (all_of_ready O hsz hr), trivial, S, g, E, f, hD⟩, fun i hi => ?_⟩
  rw [mem_ready] at hi
  obtain ⟨h1, o, ho, hready0⟩ := hi
  have hready : ∀ e ∈ o.after.toList, bindsAny e = true → listed.getD e.on false = true := fun e he hb => hready0 e (by simpa using he) hb
  have hlt := (Array.getElem?_eq_some_iff.1 ho).1
  have hlt' : i < listed.size := by omega
  have hLi : listed.getD i false = false := by
   simp only [Array.getD, hlt'] at h1 ⊢
   exact h1
  have hLset : (fun k => (listed.setIfInBounds i true).getD k false) = upd (fun k => listed.getD k false) i true := by
   funext k
   by_cases hk : k = i
   ·subst hk; rw [upd_same]; simp [Array.getD, hlt']
   ·rw [upd_ne _ _ hk]
    simp only [Array.getD_eq_getD_getElem?]
    rw [Array.getElem?_setIfInBounds_ne (Ne.symm hk)]
  have hsz' : (listed.setIfInBounds i true).size = ops.size := by simpa using hsz
  have hfu' : (π.filter fun k => !((listed.setIfInBounds i true).getD k false)).length = fuel := by
   have := left_less O.nodup (L := fun k => listed.getD k false) (O.all i hlt) hLi
   have e2 : (fun k => !((listed.setIfInBounds i true).getD k false)) = fun k => !(upd (fun k => listed.getD k false) i true) k := by funext k; rw [← hLset]
   rw [e2]
   omega
  have hclosed' : ∀ j (oj : Oper), upd (fun k => listed.getD k false) i true j = true → ops[j]? = some oj → ∀ e ∈ oj.after.toList, bindsAny e = true → upd (fun k => listed.getD k false) i true e.on = true := by
   intro j oj hj hoj e he hb
   have key : listed.getD e.on false = true := by
    by_cases hji : j = i
    ·subst hji; rw [ho] at hoj; cases hoj; exact hready e he hb
    ·rw [upd_ne _ _ hji] at hj; exact hst.closed j oj hj hoj e he hb
   by_cases hei : e.on = i
   ·rw [hei, upd_same]
   ·rw [upd_ne _ _ hei]; exact key
  have hnd : (done ++ rest).Nodup := by rw [← hst.split]; exact O.nodup
  unfold wpOpIn
  rw [ho]
  simp only
  by_cases hid : i ∈ done
  · -- a quiet operation that has been looked at
   obtain ⟨d1, d2, hdone⟩ := List.append_of_mem hid
   have hs : π = d1 ++ i :: (d2 ++ rest) := by rw [hst.split, hdone]; simp
   obtain ⟨hops, hgs⟩ := operands_VR O hst hs ho hLi hready ⟨i :: d2, hdone⟩ g f
   obtain ⟨gd, hgd, hcase⟩ := hst.pend d1 i d2 o hdone ho hLi
   obtain ⟨hn1, hn2⟩ := nodup_mid (l := d1) (m := d2) (by rw [← hdone]; exact (List.nodup_append.1 hnd).1)
   -- the frame behind it
   have hfr : ∀ t, afr ops val (done.filter (upd (fun k => listed.getD k false) i true)) a0 t = put (afr ops val (done.filter fun k => listed.getD k false) a0) o.dst (val i) t := by
    intro t
    have e1 : done.filter (upd (fun k => listed.getD k false) i true) = d1.filter (fun k => listed.getD k false) ++ i :: d2.filter fun k => listed.getD k false := by
     rw [hdone, List.filter_append, List.filter_cons_of_pos (by rw [upd_same]), filter_upd hn1, filter_upd hn2]
    have e2 : done.filter (fun k => listed.getD k false) = d1.filter (fun k => listed.getD k false) ++ d2.filter fun k => listed.getD k false := by
     rw [hdone, List.filter_append, List.filter_cons_of_neg (by rw [hLi]; simp)]
    rw [e1, e2, afr_append, afr_append]
    simp only [afr, dstAt_some ho]
    by_cases ht : o.dst = some t
    ·rw [afr_none, ht, put_eq, put_eq]
     intro k hk
     simp only [List.mem_filter] at hk
     refine not_written O ho (fun e => hn2 (e ▸ hk.1)) ?_ ?_ (.inr ht)
     ·cases hz : ahead A k i with
      | false => rfl
      | true =>
       have hk1 := ahead_before O d1.length d1 i (d2 ++ rest) k rfl hs hz
       have := (List.nodup_append.1 hnd).1
       rw [hdone, List.nodup_append] at this
       exact absurd rfl (this.2.2 k hk1 k (by simp [hk.1]))
     ·cases hz : ahead A i k with
      | false => rfl
      | true =>
       obtain ⟨x, y, hxy⟩ := split_of_mem O (O.lt k (by rw [hst.split, hdone]; simp [hk.1]))
       have hkl : k < ops.size := O.lt k (by rw [hst.split, hdone]; simp [hk.1])
       have := ahead_in O hst.closed x.length x k y i _ rfl hxy (Array.getElem?_eq_getElem hkl) (fun e he hb => hst.closed k _ hk.2 (Array.getElem?_eq_getElem hkl) e he hb) hz
       rw [hLi] at this; cases this
    ·rw [put_ne ht]
     exact afr_congr _ _ _ t (put_ne ht)
   have hstage : Stage P G n ops A π Q a0 (fun k => (listed.setIfInBounds i true).getD k false) done rest val σ := by
    rw [hLset]
    refine ⟨hst.split, hclosed', fun j hj => ?_, fun j hj oj hoj hEj => ?_, fun e1 j e2 oj hs' hoj hLj => ?_, hst.vc⟩
    ·by_cases hji : j = i
     ·rw [hji]; exact hid
     ·rw [upd_ne _ _ hji] at hj; exact hst.sub j hj
    ·by_cases hji : j = i
     ·rw [hji, upd_same]
     ·rw [upd_ne _ _ hji]; exact hst.eL j hj oj hoj hEj
    ·by_cases hji : j = i
     ·rw [hji, upd_same] at hLj; cases hLj
     ·rw [upd_ne _ _ hji] at hLj; exact hst.pend e1 j e2 oj hs' hoj hLj
   have hgo : ∀ (v' : Value) (M' : Mp) (w' : World), VR M' σ.F w' (val i) v' → Sim M' σ w' → Ext M σ.F w M' σ.F w' → wpAnyIn (wideAt ro) 0 P .any ops (QC P G n D M0 F0 w0 Q) fuel (listed.setIfInBounds i true) (ac.put o.dst v') w' := by
    intro v' M' w' hv S' E'
    refine ih _ done rest val σ M' w' _ hsz' hfu' hstage hhd S' (g.mono E') (E.trans E') ?_ (by rw [put_defers, hD])
    have f' := (f.mono E').put (O.dst i o ho) hv
    rw [hLset]
    exact ⟨f'.size, fun t => by rw [hfr t]; exact f'.val t⟩
   rcases hcase with ⟨hc, hq⟩ | ⟨hc, hv0⟩
   ·rcases wanted_core hgd (hgs gd hgd) hc with ⟨hw, _⟩ | ⟨_, hw⟩
    ·rw [if_pos hw]
     obtain ⟨v', M', w', hr, hv, E', S'⟩ := hq.run S hops
     refine ⟨fun _ _ => trivial, ?_⟩
     rw [o.semAt_eq _ _ hq.nodefer, hr, Oper.uponIn_value]
     exact hgo v' M' w' hv S' E'
    ·exact hw.elim
   ·rcases wanted_core hgd (hgs gd hgd) hc with ⟨_, hw⟩ | ⟨hw, _⟩
    ·exact hw.elim
    ·rw [if_neg (by rw [hw]; simp)]
     refine ⟨fun _ _ => trivial, ?_⟩
     exact hgo undef M w (by rw [hv0]; exact undef_VR ..) S (.refl ..)
  · -- the call or store that stands first
   have hirest : i ∈ rest := by
    have := O.all i hlt
    rw [hst.split, List.mem_append] at this
    exact this.resolve_left hid
   obtain ⟨e, r, oe, hrest, hoe, hEe⟩ : ∃ e r, ∃ oe : Oper, rest = e :: r ∧ ops[e]? = some oe ∧ isE oe = true := by
    rcases hhd with h | h
    ·rw [h] at hirest; simp at hirest
    ·exact h
   have hie : i = e := by
    rw [hrest] at hirest
    rcases List.mem_cons.1 hirest with h | h
    ·exact h
    ·exfalso
     have hah := O.late done e r oe i (by rw [hst.split, hrest]) hoe hEe h
     obtain ⟨x, y, hxy⟩ := split_of_mem O hlt
     have hLe := ahead_in O hst.closed x.length x i y e o rfl hxy ho hready hah
     have := hst.sub e hLe
     rw [hrest] at hnd
     exact (nodup_mid hnd).1 this
   subst hie
   rw [ho] at hoe; cases hoe
   subst hrest
   have hs : π = done ++ i :: r := hst.split
   obtain ⟨hops, hgs⟩ := operands_VR O hst hs ho hLi hready ⟨[], by simp⟩ g f
   obtain ⟨pl, hpl, hvc⟩ := hst.vc
   simp only [drawPlan, ho, planOf] at hpl
   cases hg : guardOf ops o with
   | none => simp [hg] at hpl
   | some gd =>
    cases hr : drawPlan ops A (done ++ [i]) r with
    | none => simp [hg, hr] at hpl
    | some pr =>
     simp [hg, hr, hEe] at hpl
     subst hpl
     simp only [aops] at hvc
     -- what goes on behind it
     have hgo : ∀ (v : AV) (v' : Value) (σ' : AS) (M' : Mp) (w' : World), aops P G Q pr (put (afr ops val done a0) o.dst v) σ' → VR M' σ'.F w' v v' → Sim M' σ' w' → GOk P G M' σ'.F w' → Ext M σ.F w M' σ'.F w' →
       (∀ d1 j d2 (oj : Oper), done = d1 ++ j :: d2 → ops[j]? = some oj → listed.getD j false = false → PEnd P G ops oj (afr ops val d1 a0) σ' (val j)) →
       wpAnyIn (wideAt ro) 0 P .any ops (QC P G n D M0 F0 w0 Q) fuel (listed.setIfInBounds i true) (ac.put o.dst v') w' := by
      intro v v' σ' M' w' hvc' hv S' g' E' hpend
      have hval : ∀ j ∈ done, val j = upd val i v j := fun j hj => (upd_ne _ _ (by rintro rfl; exact hid hj)).symm
      have hst1 : Stage P G n ops A π Q a0 (upd (fun k => listed.getD k false) i true) (done ++ [i]) r (upd val i v) σ' := by
       refine ⟨by rw [hs]; simp, hclosed', fun j hj => ?_, fun j hj oj hoj hEj => ?_, fun e1 j e2 oj hs' hoj hLj => ?_, pr, hr, ?_⟩
       ·by_cases hji : j = i
        ·rw [hji]; simp
        ·rw [upd_ne _ _ hji] at hj; simp [hst.sub j hj]
       ·rcases List.mem_append.1 hj with hj | hj
        ·by_cases hji : j = i
         ·rw [hji, upd_same]
         ·rw [upd_ne _ _ hji]; exact hst.eL j hj oj hoj hEj
        ·simp at hj; rw [hj, upd_same]
       ·rcases List.eq_nil_or_concat e2 with rfl | ⟨e2', z, rfl⟩
        ·obtain ⟨_, h2⟩ := List.append_inj' hs' (by simp)
         simp at h2
         rw [← h2, upd_same] at hLj; cases hLj
        ·have q1 : done ++ [i] = (e1 ++ j :: e2') ++ [z] := by rw [hs']; simp
         obtain ⟨q2, _⟩ := List.append_inj' q1 (by simp)
         have hj1 : ∀ k ∈ e1, val k = upd val i v k := fun k hk => hval k (by rw [q2]; simp [hk])
         rw [← afr_val e1 a0 hj1, ← hval j (by rw [q2]; simp)]
         have hji : j ≠ i := by rintro rfl; exact hid (by rw [q2]; simp)
         rw [upd_ne _ _ hji] at hLj
         exact hpend e1 j e2' oj q2 hoj hLj
       ·rw [afr_append, ← afr_val done a0 hval]
        simp only [afr, upd_same, dstAt_some ho]
        exact hvc'
      obtain ⟨done', rest', val', k1, k2, ⟨q, k3, k4⟩, k5⟩ := Stage.norm O r (done ++ [i]) (upd val i v) σ' hst1
      have hstage : Stage P G n ops A π Q a0 (fun k => (listed.setIfInBounds i true).getD k false) done' rest' val' σ' := by rw [hLset]; exact k1
      refine ih _ done' rest' val' σ' M' w' _ hsz' hfu' hstage k2 S' g' (E.trans E') ?_ (by rw [put_defers, hD])
      have f' := (f.mono E').put (O.dst i o ho) hv
      rw [hLset]
      have e1 : done'.filter (upd (fun k => listed.getD k false) i true) = done.filter (fun k => listed.getD k false) ++ [i] := by
       rw [k3, List.filter_append, List.filter_append, filter_upd hid, List.filter_cons_of_pos (by rw [upd_same])]
       rw [show q.filter (upd (fun k => listed.getD k false) i true) = [] from by
        rw [List.filter_eq_nil_iff]; intro j hj; rw [k4 j hj]; simp]
       simp
      have e2 : ∀ j ∈ done.filter (fun k => listed.getD k false) ++ [i], val' j = upd val i v j := by
       intro j hj
       refine k5 j ?_
       rcases List.mem_append.1 hj with hj | hj
       ·exact List.mem_append.2 (.inl ((List.mem_filter.1 hj).1))
       ·exact List.mem_append.2 (.inr hj)
      refine ⟨f'.size, fun t => ?_⟩
      rw [e1, afr_val _ a0 e2, afr_append]
      simp only [afr, upd_same, dstAt_some ho]
      rw [← afr_val (done.filter fun k => listed.getD k false) a0 (fun j hj => hval j ((List.mem_filter.1 hj).1))]
      exact f'.val t
     rcases wanted_core hg (hgs gd hg) hvc with ⟨hw, hop⟩ | ⟨hw, hno⟩
     ·rw [if_pos hw]
      refine aop1_core hop S g E hops f.size hD fun v v' σ' M' w' hK hv S' g' E' => ?_
      refine hgo v v' σ' M' w' hK.2 hv S' g' E' fun d1 j d2 oj hdn hoj hLj => ?_
      obtain ⟨gj, hgj, hcase⟩ := hst.pend d1 j d2 oj hdn hoj hLj
      refine ⟨gj, hgj, ?_⟩
      rcases hcase with ⟨hc, hq⟩ | hc
      ·refine .inl ⟨hc, hq.again fun t x hox => ?_⟩
       have hah : ahead A j i = false := by
        cases hz : ahead A j i with
        | false => rfl
        | true =>
         have := ahead_in O hst.closed done.length done i r j o rfl hs ho hready hz
         rw [hLj] at this; cases this
       obtain ⟨d, hdj, hkeep⟩ := O.keep d1 j d2 i r oj o t x (by rw [hs, hdn]; simp) hoj hox ho hEe hah
       have hmem := again_mem done hK.1 j (by rw [hdn]; simp) oj t x d gj hoj hox hdj hgj hah
       -- the slots are as they were
       have hslot : ∀ s ∈ slotsOf ops oj, put (afr ops val done a0) o.dst v s = afr ops val d1 a0 s := by
        intro s hs1
        rw [put_ne (by have := (hkeep i (by simp)).1 s hs1; rwa [dstAt_some ho] at this)]
        rw [hdn, afr_append]
        exact afr_none s (j :: d2) _ fun k hk => (hkeep k (by rcases List.mem_cons.1 hk with h | h <;> simp [h])).1 s hs1
       have hji : j ≠ i := by rintro rfl; exact hid (by rw [hdn]; simp)
       have hdst : put (afr ops val done a0) o.dst v d = val j := by
        rw [put_ne (by have := (hkeep i (by simp)).2 (Ne.symm hji); rwa [dstAt_some ho] at this)]
        rw [hdn, afr_append]
        simp only [afr, dstAt_some hoj, hdj]
        rw [afr_none d d2 _ fun k hk => ?_, put_eq]
        refine (hkeep k (by simp [hk])).2 ?_
        rintro rfl
        have hn := (List.nodup_append.1 hnd).1
        rw [hdn] at hn
        exact (nodup_mid hn).2 hk
       have hcc : acond (put (afr ops val done a0) o.dst v) gj True False := by
        rw [acond_congr (b := afr ops val d1 a0) fun d' w' hgw => hslot d' (guard_slot hgj hgw)]
        exact hc
       have h2 := acond_yes hcc hmem
       rw [hdst, ev_congr (b := afr ops val d1 a0) fun t' ht' => hslot t' (operand_slot (by rw [hox]; simp [Op.operands]) ht')] at h2
       exact h2
      ·exact .inr hc
     ·rw [if_neg (by rw [hw]; simp)]
      refine ⟨fun _ _ => trivial, ?_⟩
      exact hgo (.tuple []) undef σ M w hno (undef_VR ..) S g (.refl ..) (fun d1 j d2 oj hdn hoj hLj => hst.pend d1 j d2 oj hdn hoj hLj)
end
end Go.Abs
set_option linter.unusedSimpArgs false
set_option linter.unusedVariables false
namespace Go.Abs
open Go
def edgesB (ops : Array Oper) : List Nat → List Nat → Bool
  | _, [] => true
  | done, i :: r =>
    (match ops[i]? with
     | some o => o.after.toList.all fun e => !(bindsAny e) || done.elem e.on
     | none => true) && edgesB ops (done ++ [i]) r
theorem edgesB_spec {ops : Array Oper} : ∀ (rest done : List Nat), edgesB ops done rest = true → ∀ d1 i d2 (o : Oper) (e : Edge), rest = d1 ++ i :: d2 → ops[i]? = some o → e ∈ o.after.toList → bindsAny e = true → e.on ∈ done ++ d1
 | [], _, _, d1, i, d2, _, _, hs, _, _, _ => by simp at hs
 | x :: r, done, h, d1, i, d2, o, e, hs, ho, he, hb => by
  simp only [edgesB, Bool.and_eq_true] at h
  cases d1 with
  | nil =>
   simp at hs
   obtain ⟨rfl, rfl⟩ := hs
   rw [ho] at h
   have := List.all_eq_true.1 h.1 e he
   rw [hb] at this
   simp at this
   simpa using this
  | cons y d1 =>
   simp at hs
   obtain ⟨rfl, hs⟩ := hs
   have := edgesB_spec r (done ++ [x]) h.2 d1 i d2 o e hs ho he hb
   simpa using this
def lateB (ops : Array Oper) (A : Array Nat) : List Nat → Bool
  | [] => true
  | e :: r =>
    (match ops[e]? with
     | some o => !(isE o) || r.all fun i => ahead A e i
     | none => true) && lateB ops A r
theorem lateB_spec {ops : Array Oper} {A : Array Nat} : ∀ (l : List Nat), lateB ops A l = true → ∀ d1 e d2 (oe : Oper) i, l = d1 ++ e :: d2 → ops[e]? = some oe → isE oe = true → i ∈ d2 → ahead A e i = true
 | [], _, d1, e, d2, _, _, hs, _, _, _ => by simp at hs
 | x :: r, h, d1, e, d2, oe, i, hs, ho, hE, hi => by
  simp only [lateB, Bool.and_eq_true] at h
  cases d1 with
  | nil =>
   simp at hs
   obtain ⟨rfl, rfl⟩ := hs
   have h1 := h.1
   rw [ho] at h1
   simp only [hE, Bool.not_true, Bool.false_or] at h1
   exact List.all_eq_true.1 h1 i hi
  | cons y d1 =>
   simp at hs
   obtain ⟨rfl, hs⟩ := hs
   exact lateB_spec r h.2 d1 e d2 oe i hs ho hE hi
def keepJ (ops : Array Oper) (A : Array Nat) (e : Nat) : List Nat → Bool
  | [] => true
  | j :: r =>
    (match ops[j]? with
     | some o => !(isLoad o.op) || ahead A j e ||
        (match o.dst with
         | some d => (j :: (r ++ [e])).all fun k => (match dstAt ops k with | some s => !((slotsOf ops o).elem s) && (k == j || !(s == d)) | none => true)
         | none => false)
     | none => true) && keepJ ops A e r
theorem keepJ_spec {ops : Array Oper} {A : Array Nat} {e : Nat} : ∀ (l : List Nat), keepJ ops A e l = true → ∀ d1 j d2 (oj : Oper) t x, l = d1 ++ j :: d2 → ops[j]? = some oj → oj.op = .load t x → ahead A j e = false →
  ∃ d, oj.dst = some d ∧ ∀ k ∈ j :: (d2 ++ [e]), (∀ s ∈ slotsOf ops oj, dstAt ops k ≠ some s) ∧ (k ≠ j → dstAt ops k ≠ some d)
 | [], _, d1, j, d2, _, _, _, hs, _, _, _ => by simp at hs
 | y :: r, h, d1, j, d2, oj, t, x, hs, ho, hop, hah => by
  simp only [keepJ, Bool.and_eq_true] at h
  cases d1 with
  | nil =>
   simp at hs
   obtain ⟨rfl, rfl⟩ := hs
   have h1 := h.1
   rw [ho] at h1
   simp only [hop, isLoad, hah, Bool.not_true, Bool.false_or] at h1
   cases hd : oj.dst with
   | none => rw [hd] at h1; cases h1
   | some d =>
    rw [hd] at h1
    refine ⟨d, rfl, fun k hk => ?_⟩
    have := List.all_eq_true.1 h1 k hk
    cases hdk : dstAt ops k with
    | none => exact ⟨(fun _ _ h => by cases h), (fun _ h => by cases h)⟩
    | some s =>
     rw [hdk] at this
     simp only [Bool.and_eq_true, Bool.not_eq_true', Bool.or_eq_true, beq_iff_eq] at this
     refine ⟨fun s' hs' h => ?_, fun hkj h => ?_⟩
     ·cases h
      rw [List.elem_eq_contains] at this
      have := this.1
      simp [hs'] at this
     ·cases h
      rcases this.2 with h | h
      ·exact hkj h
      ·simp at h
  | cons z d1 =>
   simp at hs
   obtain ⟨rfl, hs⟩ := hs
   exact keepJ_spec r h.2 d1 j d2 oj t x hs ho hop hah
def keepB (ops : Array Oper) (A : Array Nat) : List Nat → List Nat → Bool
  | _, [] => true
  | done, e :: r =>
    (match ops[e]? with
     | some o => !(isE o) || keepJ ops A e done
     | none => true) && keepB ops A (done ++ [e]) r
theorem keepB_spec {ops : Array Oper} {A : Array Nat} : ∀ (rest done : List Nat), keepB ops A done rest = true → ∀ d1 e d3 (oe : Oper), rest = d1 ++ e :: d3 → ops[e]? = some oe → isE oe = true → keepJ ops A e (done ++ d1) = true
 | [], _, _, d1, e, d3, _, hs, _, _ => by simp at hs
 | x :: r, done, h, d1, e, d3, oe, hs, ho, hE => by
  simp only [keepB, Bool.and_eq_true] at h
  cases d1 with
  | nil =>
   simp at hs
   obtain ⟨rfl, rfl⟩ := hs
   have h1 := h.1
   rw [ho] at h1
   simpa [hE] using h1
  | cons y d1 =>
   simp at hs
   obtain ⟨rfl, hs⟩ := hs
   have := keepB_spec r (done ++ [x]) h.2 d1 e d3 oe hs ho hE
   simpa using this
def slotsB (ops : Array Oper) (A : Array Nat) : Bool :=
 (List.range ops.size).all fun i =>
  match dstAt ops i with
  | some t => (List.range ops.size).all fun j => (i == j) || (match ops[j]? with | some oj => !((slotsOf ops oj).elem t || oj.dst == some t) || ahead A i j || ahead A j i | none => true)
  | none => true
def nodupB : List Nat → Bool
 | [] => true
 | x :: r => !(r.elem x) && nodupB r
theorem nodupB_spec : ∀ (l : List Nat), nodupB l = true → l.Nodup
 | [], _ => List.nodup_nil
 | x :: r, h => by
  simp only [nodupB, Bool.and_eq_true, Bool.not_eq_true'] at h
  rw [List.nodup_cons]
  refine ⟨fun hm => ?_, nodupB_spec r h.2⟩
  rw [List.elem_eq_contains] at h
  simp [hm] at h
def ordB (n : Nat) (ops : Array Oper) (A : Array Nat) (π : List Nat) : Bool :=
 maskOk ops A && nodupB π && (List.range ops.size).all (fun i => π.elem i) && π.all (fun i => decide (i < ops.size)) && edgesB ops [] π && slotsB ops A && lateB ops A π && keepB ops A [] π &&
 (ops.toList.all fun o => dstIn n o.dst) && Region.noSelect ops
theorem ordB_spec {n : Nat} {ops : Array Oper} {A : Array Nat} {π : List Nat} (h : ordB n ops A π = true) : OrdOk n ops A π := by
 simp only [ordB, Bool.and_eq_true] at h
 obtain ⟨⟨⟨⟨⟨⟨⟨⟨⟨h1, h2⟩, h3⟩, h4⟩, h5⟩, h6⟩, h7⟩, h8⟩, h9⟩, h10⟩ := h
 refine ⟨h1, nodupB_spec π h2, fun i hi => ?_, fun i hi => ?_, fun d1 i d2 o e hs ho he hb => ?_, fun i j oi oj t hne hoi hoj hd ht => ?_, lateB_spec π h7, fun i o ho => ?_, fun d1 j d2 e d3 oj oe t x hs hoj hop hoe hE hah => ?_, h10⟩
 ·have := List.all_eq_true.1 h3 i (by simpa using hi)
  simpa using this
 ·have := List.all_eq_true.1 h4 i hi
  simpa using this
 ·have := edgesB_spec π [] h5 d1 i d2 o e hs ho he hb
  simpa using this
 ·have hi : i < ops.size := (Array.getElem?_eq_some_iff.1 hoi).1
  have hj : j < ops.size := (Array.getElem?_eq_some_iff.1 hoj).1
  have := List.all_eq_true.1 h6 i (by simpa using hi)
  rw [show dstAt ops i = some t by simp [dstAt, hoi, hd]] at this
  have := List.all_eq_true.1 this j (by simpa using hj)
  rw [hoj] at this
  simp only [Bool.or_eq_true, Bool.not_eq_true', beq_iff_eq] at this
  rcases this with h | h
  ·exact absurd h hne
  ·rcases h with (h | h) | h
   ·exfalso
    rw [Bool.or_eq_false_iff] at h
    rcases ht with ht | ht
    ·rw [List.elem_eq_contains] at h
     simp [ht] at h
    ·rw [ht] at h; simp at h
   ·exact .inl h
   ·exact .inr h
 ·have := List.all_eq_true.1 h9 o (by
   obtain ⟨hi, he⟩ := Array.getElem?_eq_some_iff.1 ho
   rw [← he]; simp)
  exact this
 ·have := keepB_spec π [] h8 (d1 ++ j :: d2) e d3 oe (by rw [hs]; simp) hoe hE
  exact keepJ_spec _ (by simpa using this) d1 j d2 oj t x rfl hoj hop hah
def mkOrder (ops : Array Oper) (A : Array Nat) : List Nat :=
 let es0 := (List.range ops.size).filter fun i => match ops[i]? with | some o => isE o | none => false
 let qs := (List.range ops.size).filter fun i => match ops[i]? with | some o => !(isE o) | none => false
 let lev (i : Nat) : Nat := (es0.filter fun e => ahead A e i).length
 let es := (List.range es0.length).flatMap fun k => es0.filter fun e => lev e == k
 (List.range (es.length + 1)).flatMap fun k => (qs.filter fun i => lev i == k) ++ (es[k]?).toList
def maskPass (ops : Array Oper) (A : Array Nat) : Array Nat := ((List.range ops.size).map fun i => match ops[i]? with
 | some o => o.after.toList.foldl (fun s e => if bindsAny e then s ||| 2 ^ e.on ||| A.getD e.on 0 else s) 0
 | none => 0).toArray
def masks (ops : Array Oper) : Array Nat := if maskOk ops (Region.before ops) then Region.before ops else maskPass ops (maskPass ops (maskPass ops (Region.before ops)))
def mkPlan (n : Nat) (ops : Array Oper) (draw : Bool) : Option (List PO) :=
 if draw then
  let A := masks ops
  let π := mkOrder ops A
  if ordB n ops A π then drawPlan ops A [] π else none
 else plainPlan n ops ops.toList
theorem drawPlan_dst {ops : Array Oper} {A : Array Nat} : ∀ (π done : List Nat) (pl : List PO), drawPlan ops A done π = some pl → ∀ i ∈ π, ∀ o : Oper, ops[i]? = some o → ∀ t, o.dst = some t → (pl.any fun o => o.dst == some t) = true
 | [], _, _, _, i, hi, _, _, _, _ => by cases hi
 | x :: π, done, pl, hp, i, hi, o, ho, t, ht => by
  simp only [drawPlan] at hp
  split at hp
  ·rename_i ox hox
   simp only [planOf, Option.bind_eq_some_iff, Option.map_eq_some_iff] at hp
   obtain ⟨p, ⟨gd, hgd, rfl⟩, pr, hpr, rfl⟩ := hp
   rcases List.mem_cons.1 hi with rfl | hi
   ·rw [ho] at hox; cases hox
    simp [ht]
   ·have := drawPlan_dst π _ pr hpr i hi o ho t ht
    simp only [List.any_cons, this, Bool.or_true]
  ·cases hp
theorem region_draw_any {P : Program} {G : Env} {n : Nat} {ops : Array Oper} (hm : P.follows .mixedOrders = true) {A : Array Nat} {π : List Nat} (O : OrdOk n ops A π) {pl : List PO} (hp : drawPlan ops A [] π = some pl) {Q : AQ} {a σ}
  (h : aops P G (withPf (hide pl a) Q) pl a σ) : ∀ {ro : Option Nat} {D : List Deferred} {M : Mp} {w : World} {ac : Act}, Sim M σ w → GOk P G M σ.F w → Fr M σ.F w a ac n → ac.defers = D →
   wpAnyIn (wideAt ro) 0 P .any ops (QKept (fun t => pl.any fun o => o.dst == some t) ac (QC P G n D M σ.F w (withPf (hide pl a) Q))) ops.size (Array.replicate ops.size false) ac { w with drawn := w.drawn + 1 } := by
 intro ro D M w ac S g f hD
 have h0 : ∀ k, (Array.replicate ops.size false).getD k false = false := by
  intro k; rw [Array.getD_eq_getD_getElem?, Array.getElem?_replicate]; split <;> rfl
 have hst : Stage P G n ops A π (withPf (hide pl a) Q) a (fun k => (Array.replicate ops.size false).getD k false) [] π (fun _ => .undef) σ := by
  refine ⟨rfl, fun i o hi => ?_, fun i hi => ?_, fun i hi => by simp at hi, fun d1 i d2 o hs => by simp at hs, pl, hp, h⟩
  ·rw [h0] at hi; cases hi
  ·simp only [h0] at hi; cases hi
 obtain ⟨done, rest, val, k1, k2, ⟨q, k3, k4⟩, k5⟩ := Stage.norm O π [] _ σ hst
 have hE : Ext M σ.F w M σ.F { w with drawn := w.drawn + 1 } := .of_heap rfl ⟨rfl, rfl, rfl⟩
 refine wpAnyIn_kept (W := fun t => pl.any fun o => o.dst == some t) (a0 := ac) (fun i o ho t ht => drawPlan_dst _ _ _ hp i (O.all i (Array.getElem?_eq_some_iff.1 ho).1) o ho t ht) _ _ _ _ (KeptB.refl _ _) (draw_step O ops.size _ done rest val σ M { w with drawn := w.drawn + 1 } ac (by simp) ?_ k1 k2 (S.of_heap rfl ⟨rfl, rfl, rfl⟩) (g.mono hE) (M0 := M) (F0 := σ.F) (w0 := w) hE ?_ hD)
 ·have : (π.filter fun k => !((Array.replicate ops.size false).getD k false)) = π := List.filter_eq_self.2 fun i _ => by rw [h0]; rfl
  rw [this]
  have hp1 : π.Perm (List.range ops.size) := by
   refine (List.perm_ext_iff_of_nodup O.nodup List.nodup_range).2 fun i => ⟨fun hi => by simpa using O.lt i hi, fun hi => O.all i (by simpa using hi)⟩
  simpa using hp1.length_eq
 ·have : (done.filter fun k => (Array.replicate ops.size false).getD k false) = [] := List.filter_eq_nil_iff.2 fun i _ => by rw [h0]; simp
  rw [this]
  exact ⟨f.size, fun t => (f.val t).mono hE⟩
theorem region_draw {P : Program} {G : Env} {n id : Nat} {ops : Array Oper} (hm : P.follows .mixedOrders = true) {A : Array Nat} {π : List Nat} (O : OrdOk n ops A π) {pl : List PO} (hp : drawPlan ops A [] π = some pl) {Q : AQ} {a σ}
  (h : aops P G (withPf (hide pl a) Q) pl a σ) : AWp P G n (.region id ops true) Q a σ := by
 intro ro D M0 F0 w0 M w ac S g E f hD
 exact wpIn_mono (wpIn_region_any hm (region_draw_any hm O hp h S g f hD)) fun _ _ _ hq => QC_pf E f hq
theorem region_sound {P : Program} {G : Env} {n id : Nat} {ops : Array Oper} {draw : Bool} (hm : P.follows .mixedOrders = true) {pl : List PO} (hp : mkPlan n ops draw = some pl) {Q : AQ} {a σ} (h : aops P G (withPf (hide pl a) Q) pl a σ) :
  AWp P G n (.region id ops draw) Q a σ := by
 unfold mkPlan at hp
 cases draw with
 | true =>
  simp only [if_true] at hp
  split at hp
  ·exact region_draw hm (ordB_spec ‹_›) hp h
  ·cases hp
 | false => exact region_plain hp h
def addEdge (ops : Array Oper) (c a : Nat) : Array Oper := ops.modify c fun o => { o with after := o.after.push ⟨a, .chain⟩ }
theorem addEdge_size (ops c a) : (addEdge ops c a).size = ops.size := by simp [addEdge]
theorem addEdge_get (ops : Array Oper) (c a j : Nat) : (addEdge ops c a)[j]? = (ops[j]?).map fun o => if j = c then { o with after := o.after.push ⟨a, .chain⟩ } else o := by
 unfold addEdge
 rw [Array.getElem?_modify]
 by_cases h : c = j
 ·subst h; simp
 ·rw [if_neg h]
  have : ¬ j = c := fun e => h e.symm
  simp [this]
def PathN (ops : Array Oper) : Nat → Array Bool → List Nat → Prop
 | 0, _, L => L = []
 | f + 1, listed, L => (Region.ready .any ops listed = [] ∧ L = []) ∨ ∃ i rest, L = i :: rest ∧ i ∈ Region.ready .any ops listed ∧ PathN ops f (listed.setIfInBounds i true) rest
theorem go_path {ops : Array Oper} : ∀ (fuel t : Nat) (listed : Array Bool), PathN ops fuel listed (Region.linearise.go .any ops fuel t listed [])
 | 0, t, listed => by simp [PathN, Region.linearise.go]
 | fuel + 1, t, listed => by
  simp only [Region.linearise.go]
  change PathN ops (fuel + 1) listed (match (Region.ready .any ops listed)[t % (Region.ready .any ops listed).length]? with
   | some i => Region.linearise.go .any ops fuel (t / (Region.ready .any ops listed).length) (listed.setIfInBounds i true) [i]
   | none => [].reverse)
  cases hi : (Region.ready .any ops listed)[t % (Region.ready .any ops listed).length]? with
  | none =>
   refine .inl ⟨?_, rfl⟩
   cases hr : Region.ready .any ops listed with
   | nil => rfl
   | cons x xs =>
    rw [hr] at hi
    have hlt : t % (x :: xs).length < (x :: xs).length := Nat.mod_lt _ (by simp)
    simp at hi
    simp at hlt
    omega
  | some i =>
   simp only []
   rw [linearise_go_acc, List.reverse_singleton, List.singleton_append]
   exact .inr ⟨i, _, rfl, List.mem_of_getElem? hi, go_path fuel _ _⟩
theorem any_path {F : Fence} {n : Nat} {P : Program} {ops : Array Oper} {Q : Exit → Act → World → Prop} : ∀ (fuel : Nat) (listed : Array Bool) (L : List Nat) (a : Act) (w : World), wpAnyIn F n P .any ops Q fuel listed a w → PathN ops fuel listed L → wpOpsIn F n P ops Q L a w
 | 0, listed, L, a, w, h, hp => by
  simp only [PathN] at hp
  subst hp
  exact h.2
 | fuel + 1, listed, L, a, w, h, hp => by
  rcases hp with ⟨h0, rfl⟩ | ⟨i, rest, rfl, hi, hr⟩
  ·exact h.1 h0
  ·rw [wpOpsIn_cons]
   exact wpOpIn_mono (fun a w h => any_path fuel _ rest a w h hr) (h.2 i hi)
theorem ready_add {ops : Array Oper} {c a j : Nat} {listed : Array Bool} (h : j ∈ Region.ready .any ops listed) (hj : j = c → listed.getD a false = true) : j ∈ Region.ready .any (addEdge ops c a) listed := by
 rw [mem_ready] at h ⊢
 obtain ⟨h1, o, ho, h2⟩ := h
 refine ⟨h1, if j = c then { o with after := o.after.push ⟨a, .chain⟩ } else o, by rw [addEdge_get, ho]; rfl, ?_⟩
 intro e he hb
 by_cases hc : j = c
 ·rw [if_pos hc] at he
  rcases Array.mem_push.1 he with he | he
  ·exact h2 e he hb
  ·subst he; exact hj hc
 ·rw [if_neg hc] at he
  exact h2 e he hb
theorem ready_sub {ops : Array Oper} {c a j : Nat} {listed : Array Bool} (h : j ∈ Region.ready .any (addEdge ops c a) listed) : j ∈ Region.ready .any ops listed := by
 rw [mem_ready] at h ⊢
 obtain ⟨h1, o, ho, h2⟩ := h
 rw [addEdge_get] at ho
 obtain ⟨o', ho', rfl⟩ := Option.map_eq_some_iff.1 ho
 refine ⟨h1, o', ho', fun e he hb => h2 e ?_ hb⟩
 by_cases hc : j = c
 ·rw [if_pos hc]; exact Array.mem_push.2 (.inl he)
 ·rw [if_neg hc]; exact he
theorem nil_add {ops : Array Oper} {c a : Nat} {listed : Array Bool} (h : Region.ready .any ops listed = []) : Region.ready .any (addEdge ops c a) listed = [] := by
 rw [List.eq_nil_iff_forall_not_mem] at h ⊢
 exact fun j hj => h j (ready_sub hj)
theorem listed_set {listed : Array Bool} {i j : Nat} (h : listed.getD j false = true) : (listed.setIfInBounds i true).getD j false = true := by
 rw [Array.getD_eq_getD_getElem?] at h ⊢
 rw [Array.getElem?_setIfInBounds]
 split
 ·split
  ·rfl
  ·rename_i h1 h2
   rw [Array.getElem?_eq_none (by omega)] at h; simp at h
 ·exact h
theorem path_after {ops : Array Oper} {c a : Nat} : ∀ (f : Nat) (listed : Array Bool) (L : List Nat), listed.getD a false = true → PathN ops f listed L → PathN (addEdge ops c a) f listed L
 | 0, _, _, _, h => h
 | f + 1, listed, L, ha, h => by
  rcases h with ⟨h0, rfl⟩ | ⟨i, rest, rfl, hi, hr⟩
  ·exact .inl ⟨nil_add h0, rfl⟩
  ·exact .inr ⟨i, rest, rfl, ready_add hi fun _ => ha, path_after f _ rest (listed_set ha) hr⟩
theorem listed_now {ops : Array Oper} {i : Nat} {listed : Array Bool} (hs : listed.size = ops.size) (h : i ∈ Region.ready .any ops listed) : (listed.setIfInBounds i true).getD i false = true := by
 rw [mem_ready] at h
 obtain ⟨_, o, ho, _⟩ := h
 have := (Array.getElem?_eq_some_iff.1 ho).1
 rw [Array.getD_eq_getD_getElem?, Array.getElem?_setIfInBounds, if_pos rfl, if_pos (by omega)]; rfl
theorem path_split {ops : Array Oper} {c a : Nat} (hca : c ≠ a) : ∀ (f : Nat) (listed : Array Bool) (L : List Nat), listed.size = ops.size → PathN ops f listed L → PathN (addEdge ops c a) f listed L ∨ PathN (addEdge ops a c) f listed L
 | 0, _, _, _, h => .inl h
 | f + 1, listed, L, hs, h => by
  rcases h with ⟨h0, rfl⟩ | ⟨i, rest, rfl, hi, hr⟩
  ·exact .inl (.inl ⟨nil_add h0, rfl⟩)
  ·by_cases h1 : i = a
   ·subst h1
    exact .inl (.inr ⟨i, rest, rfl, ready_add hi fun e => absurd e.symm hca, path_after f _ rest (listed_now hs hi) hr⟩)
   ·by_cases h2 : i = c
    ·subst h2
     exact .inr (.inr ⟨i, rest, rfl, ready_add hi fun e => absurd e hca, path_after f _ rest (listed_now hs hi) hr⟩)
    ·rcases path_split hca f _ rest (by simpa using hs) hr with k | k
     ·exact .inl (.inr ⟨i, rest, rfl, ready_add hi fun e => absurd e h2, k⟩)
     ·exact .inr (.inr ⟨i, rest, rfl, ready_add hi fun e => absurd e h1, k⟩)
theorem yielded_add (ops : Array Oper) (c a : Nat) (tmps : Array Value) : yielded (addEdge ops c a) tmps = yielded ops tmps := by
 funext j
 unfold yielded
 have : ((addEdge ops c a)[j]?).bind (·.dst) = (ops[j]?).bind (·.dst) := by
  rw [addEdge_get]
  cases ops[j]? with
  | none => rfl
  | some o => simp only [Option.map_some, Option.bind_some]; split <;> rfl
 rw [this]
theorem ops_add {F : Fence} {n : Nat} {P : Program} {ops : Array Oper} {c a : Nat} {Q : Exit → Act → World → Prop} : ∀ (L : List Nat) (ac : Act) (w : World), wpOpsIn F n P (addEdge ops c a) Q L ac w → wpOpsIn F n P ops Q L ac w
 | [], _, _, h => h
 | i :: L, ac, w, h => by
  simp only [wpOpsIn] at h ⊢
  rw [addEdge_get, yielded_add] at h
  cases ho : ops[i]? with
  | none => rw [ho] at h; exact ops_add L ac w h
  | some o =>
   rw [ho] at h
   simp only [Option.map_some] at h ⊢
   have e1 : ∀ y, Region.wanted (if i = c then { o with after := o.after.push ⟨a, .chain⟩ } else o) y = Region.wanted o y := fun y => by split <;> rfl
   have e2 : ∀ K, (if i = c then { o with after := o.after.push ⟨a, .chain⟩ } else o : Oper).wpIn F n P ac w K Q = o.wpIn F n P ac w K Q := fun K => by split <;> rfl
   have e3 : (if i = c then { o with after := o.after.push ⟨a, .chain⟩ } else o : Oper).about P w ac.eval = o.about P w ac.eval := by split <;> rfl
   have e4 : (if i = c then { o with after := o.after.push ⟨a, .chain⟩ } else o : Oper).dst = o.dst := by split <;> rfl
   rw [e1, e2, e3, e4] at h
   split at h
   ·rename_i hw
    rw [if_pos hw]
    exact Oper.wpIn_mono (fun a w h => ops_add L a w h) h
   ·rename_i hw
    rw [if_neg hw]
    exact ⟨h.1, ops_add L _ w h.2⟩
theorem wpIn_region_each {F : Fence} {n : Nat} {P : Program} {id : Nat} {ops : Array Oper} {Q : Exit → Act → World → Prop} {a : Act} {w : World}
  (h : ∀ t, ∃ Q' : Exit → Act → World → Prop, (∀ e a w, Q' e a w → Q e a w) ∧ wpOpsIn F n P ops Q' (Region.schedule (P.follows .mixedOrders) ops t) a { w with drawn := w.drawn + 1 }) : (Code.region id ops true).wpIn F n P Q a w :=
 fun b k cs hro hb hr => let ⟨_, hm, hq⟩ := h _; let ⟨e, a', w', q, r⟩ := wp_opsIn _ a _ hq b k cs hro hb hr; ⟨e, a', w', hm _ _ _ q, .of_steps (.one (fenced_calm hb hr rfl) stepR_region_draw) r⟩
def loosePair (ops : Array Oper) (A : Array Nat) : Option (Nat × Nat) :=
 let es := (List.range ops.size).filter fun i => match ops[i]? with | some o => isE o | none => false
 (es.flatMap fun i => es.map fun j => (i, j)).find? fun p => decide (p.1 < p.2) && !(ahead A p.1 p.2) && !(ahead A p.2 p.1)
def mkAlts (n : Nat) : Nat → Array Oper → Option (List (List PO))
 | 0, ops => (mkPlan n ops true).map fun l => [l]
 | k + 1, ops => match mkPlan n ops true with
  | some l => some [l]
  | none => match loosePair ops (masks ops) with
   | none => none
   | some (i, j) => if i = j then none else
    match mkAlts n k (addEdge ops j i), mkAlts n k (addEdge ops i j) with
    | some l1, some l2 => some (l1 ++ l2)
    | _, _ => none
def mkBoth (n : Nat) (ops : Array Oper) (draw : Bool) : Option (List (List PO)) := if draw then mkAlts n 4 ops else none
def aalts (P : Program) (G : Env) (Q : AQ) (a : Nat → AV) (σ : AS) : List (List PO) → Prop
 | [] => True
 | l :: r => aops P G (withPf (hide l a) Q) l a σ ∧ aalts P G Q a σ r
theorem aalts_append {P : Program} {G : Env} {Q : AQ} {a σ} : ∀ {l r : List (List PO)}, aalts P G Q a σ (l ++ r) → aalts P G Q a σ l ∧ aalts P G Q a σ r
 | [], _, h => ⟨trivial, h⟩
 | _ :: _, _, h => ⟨⟨h.1, (aalts_append h.2).1⟩, (aalts_append h.2).2⟩
theorem plan_path {P : Program} {G : Env} {n : Nat} {ops : Array Oper} (hm : P.follows .mixedOrders = true) {l : List PO} (hp : mkPlan n ops true = some l) {Q : AQ} {a σ} (h : aops P G (withPf (hide l a) Q) l a σ) {ro : Option Nat} {D : List Deferred} {M0 : Mp} {F0 : Nat → FSt} {w0 : World} {M : Mp} {w : World} {ac : Act} (S : Sim M σ w) (g : GOk P G M σ.F w)
  (E : Ext M0 F0 w0 M σ.F w) (f : Fr M σ.F w a ac n) (hD : ac.defers = D) {L : List Nat} (hL : PathN ops ops.size (Array.replicate ops.size false) L) :
  ∃ Q' : Exit → Act → World → Prop, (∀ e a w, Q' e a w → QC P G n D M0 F0 w0 Q e a w) ∧ wpOpsIn (wideAt ro) 0 P ops Q' L ac { w with drawn := w.drawn + 1 } := by
 unfold mkPlan at hp
 simp only [if_true] at hp
 split at hp
 ·exact ⟨_, fun _ _ _ hq => QC_pf E f hq, any_path _ _ _ _ _ (region_draw_any hm (ordB_spec ‹_›) hp h (ro := ro) S g f hD) hL⟩
 ·cases hp
theorem alts_path {P : Program} {G : Env} {n : Nat} (hm : P.follows .mixedOrders = true) {Q : AQ} {a σ} {ro : Option Nat} {D : List Deferred} {M0 : Mp} {F0 : Nat → FSt} {w0 : World} {M : Mp} {w : World} {ac : Act} (S : Sim M σ w) (g : GOk P G M σ.F w)
  (E : Ext M0 F0 w0 M σ.F w) (f : Fr M σ.F w a ac n) (hD : ac.defers = D) : ∀ (k : Nat) (ops : Array Oper) (ls : List (List PO)), mkAlts n k ops = some ls → aalts P G Q a σ ls → ∀ L : List Nat, PathN ops ops.size (Array.replicate ops.size false) L →
  ∃ Q' : Exit → Act → World → Prop, (∀ e a w, Q' e a w → QC P G n D M0 F0 w0 Q e a w) ∧ wpOpsIn (wideAt ro) 0 P ops Q' L ac { w with drawn := w.drawn + 1 }
 | 0, ops, ls, hp, h, L, hL => by
  simp only [mkAlts, Option.map_eq_some_iff] at hp
  obtain ⟨l, hl, rfl⟩ := hp
  exact plan_path hm hl h.1 S g E f hD hL
 | k + 1, ops, ls, hp, h, L, hL => by
  simp only [mkAlts] at hp
  split at hp
  ·rename_i l hl
   cases hp
   exact plan_path hm hl h.1 S g E f hD hL
  ·split at hp
   ·cases hp
   ·rename_i i j _
    split at hp
    ·cases hp
    ·rename_i hij
     split at hp
     ·rename_i l1 l2 e1 e2
      cases hp
      obtain ⟨h1, h2⟩ := aalts_append h
      rcases path_split (ops := ops) (c := j) (a := i) (fun e => hij e.symm) ops.size (Array.replicate ops.size false) L (by simp) hL with q | q
      ·obtain ⟨Q', q1, q2⟩ := alts_path hm (ro := ro) S g E f hD k _ _ e1 h1 L (by rw [addEdge_size]; exact q)
       exact ⟨Q', q1, ops_add _ _ _ q2⟩
      ·obtain ⟨Q', q1, q2⟩ := alts_path hm (ro := ro) S g E f hD k _ _ e2 h2 L (by rw [addEdge_size]; exact q)
       exact ⟨Q', q1, ops_add _ _ _ q2⟩
     ·cases hp
theorem both_sound {P : Program} {G : Env} {n id : Nat} {ops : Array Oper} {draw : Bool} (hm : P.follows .mixedOrders = true) {ls : List (List PO)} (hp : mkBoth n ops draw = some ls) {Q : AQ} {a σ} (h : aalts P G Q a σ ls) :
  AWp P G n (.region id ops draw) Q a σ := by
 unfold mkBoth at hp
 cases draw with
 | false => simp at hp
 | true =>
  simp only [if_true] at hp
  intro ro D M0 F0 w0 M w ac S g E f hD
  refine wpIn_region_each fun t => ?_
  simp only [Region.schedule, hm, Bool.true_or, if_true]
  exact alts_path hm S g E f hD 4 ops ls hp h _ (go_path ops.size t (Array.replicate ops.size false))
end Go.Abs
