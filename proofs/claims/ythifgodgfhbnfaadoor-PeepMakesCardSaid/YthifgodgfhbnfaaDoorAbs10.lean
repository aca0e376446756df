/- All operations, calls by contract; no condition. -/
import Derived.Test.YthifgodgfhbnfaaDoorAbs9
import Derived.RangeFuncIn
import Derived.RangeFuncRecord
import Derived.Laws.MakeOwn
import Derived.Laws.IdiomStrings
namespace Go.Abs
open Go

/-- how a call, or a piece of code, ends -/
inductive Out where
  | ret (v : AV)
  | panic (v : AV)

def OutRel (M : Mp) (F : Nat → FSt) (w : World) : Out → Ending → Prop
  | .ret v, .returned v' => VR M F w v v'
  | .panic v, .panicked ch => ∃ v', ch = [{ v := v', recovered := false }] ∧ VR M F w v v'
  | _, _ => False

/-- a round of the loop l, called with these values: what it must come to -/
def YRun (P : Program) (G : Env) (M0 : Mp) (F0 : Nat → FSt) (w0 : World) (l f0 : Nat) (r : Loop) : Prop :=
  ∀ (args : List AV) (σ : AS) (K PK : AV → AS → Prop) (M : Mp) (w : World) (cargs : Array Value), G.y l args σ K PK → Sim M σ w → Ext M0 F0 w0 M σ.F w → M.role l = some (.fam f0) → w.heap[l]? = some (.loop r) → Cells M σ.F w args cargs →
    ∃ fn tmps assign body, (Instr.yield l cargs).run P w = .ok (.round l fn tmps assign body) w ∧ RoundIn Fence.wide 0 P l fn tmps assign body w fun e w'' => match e with
      | .returned v' => Post M σ.F w K v' w''
      | .panicked ch => ∃ v', ch = [{ v := v', recovered := false }] ∧ Post M σ.F w PK v' w''
      | .outgrown => False

/-- the package's variables, and the loops under way -/
structure GOk (P : Program) (G : Env) (M : Mp) (F : Nat → FSt) (w : World) : Prop where
  vars : ∀ g, VR M F w (G.g g) (.pointer (some ⟨g, 0, none⟩))
  yields : ∀ l, G.has l → ∃ r f0 M0 F0 w0, Ext M0 F0 w0 M F w ∧ f0 < M.nf ∧ (F f0 = .alive → M.role l = some (.fam f0) ∧ w.heap[l]? = some (.loop r)) ∧ (∀ args σ K PK, G.y l args σ K PK → σ.F f0 = .alive) ∧
    (∀ B r, M0.role B = some r → B < w0.heap.size) ∧ YRun P G M0 F0 w0 l f0 r
  fixed : ∀ B cs, G.fix B = some cs → M.role B = some .stat ∧ ∃ t fr, w.heap[B]? = some (.cells cs t fr)

theorem GOk.mono {P G M F w M' F' w'} (h : GOk P G M F w) (E : Ext M F w M' F' w') : GOk P G M' F' w' where
  vars g := (h.vars g).mono E
  yields l hl := by
    obtain ⟨r, f0, M0, F0, w0, E0, hf, h1, h2, h3, h4⟩ := h.yields l hl
    refine ⟨r, f0, M0, F0, w0, E0.trans E, Nat.lt_of_lt_of_le hf E.nf, fun ha => ?_, h2, h3, h4⟩
    obtain ⟨h5, h6⟩ := h1 (E.alive hf ha)
    exact ⟨E.famr l f0 hf h5 (by rw [ha]; simp), by rw [E.famc l f0 hf h5 ha, h6]⟩
  fixed B cs hB := by
    obtain ⟨hr, t, fr, hh⟩ := h.fixed B cs hB
    obtain ⟨h1, h2⟩ := E.stat B hr
    exact ⟨h1, t, fr, h2.trans hh⟩

/-- A CONTRACT: from any world that is laid as the state says, the call ends as R says. -/
def ACalls (P : Program) (G : Env) (f : FuncId) (args : List AV) (σ : AS) (R : Out → AS → Prop) : Prop :=
  ∀ (M : Mp) (w : World) (cargs : Array Value), Sim M σ w → GOk P G M σ.F w → Cells M σ.F w args cargs →
    Calls P f cargs w fun e w' => ∃ out σ' M', R out σ' ∧ OutRel M' σ'.F w' out e ∧ Sim M' σ' w' ∧ Ext M σ.F w M' σ'.F w'

theorem ACalls.mono {P G f args σ} {R R' : Out → AS → Prop} (h : ACalls P G f args σ R) (hr : ∀ o σ', R o σ' → R' o σ') : ACalls P G f args σ R' :=
  fun M w cargs S g c => (h M w cargs S g c).mono fun _ _ ⟨o, σ', M', a, b⟩ => ⟨o, σ', M', hr _ _ a, b⟩

/-- may it be called by its number? -/
def callable (P : Program) (f : FuncId) : Bool :=
  match P.funcs[f]? with
  | some fn => fn.body.isSome && !(fn.name == "runtime.NumGoroutine")
  | none => false

def isU8 (P : Program) (t : TypeId) : Bool :=
  match P.underlying t with
  | some (.slice e) => match P.underlying e with
    | some (.int .u8) => true
    | _ => false
  | _ => false

def B (bs : List UInt8) : List AV := bs.map fun b => .int .u8 b.toNat

/-- texts made of bytes, bytes made of texts -/
def aconvE (P : Program) (s d : TypeId) (x : AV) (σ : AS) (K : AV → AS → Prop) : Prop :=
  match x with
  | .nilsl => isU8 P s = true ∧ isStr P d = true ∧ K (.str []) σ
  | .sl φ _ xs => isU8 P s = true ∧ isStr P d = true ∧ Readable σ.F φ ∧ ∃ bs, xs = B bs ∧ K (.str bs) σ
  | .slm o off _ len => isU8 P s = true ∧ isStr P d = true ∧ ∃ cs bs, σ.objs o = some cs ∧ off + len ≤ cs.length ∧ (cs.drop off).take len = B bs ∧ K (.str bs) σ
  | .str bs => isStr P s = true ∧ isU8 P d = true ∧ (K (.sl (.fam σ.nf false) 1 (B bs)) σ.newF ∨ K (.slm σ.no 0 1 bs.length) (σ.newO (B bs)))
  | _ => False

def amake (P : Program) (t : TypeId) (l c : AV) (σ : AS) (K : AV → AS → Prop) : Prop :=
  match l, c with
  | .int _ n, .int _ m => ∃ sz bs z, elOf P t = some sz ∧ elBytes P t = some bs ∧ elZero P t = some z ∧ z.known = true ∧ z.cells.length = sz ∧ n = m ∧ 0 ≤ n ∧ n < 2 ^ 40 ∧ n.toNat * bs ≤ 2 ^ 47 ∧
      K (.slm σ.no 0 sz n.toNat) (σ.newO (flat (List.replicate n.toNat z)))
  | _, _ => False

def acall (P : Program) (G : Env) (f : AV) (args : List AV) (σ : AS) (K : AV → AS → Prop) (PK : AV → AS → Prop) : Prop :=
  match f with
  | .fn (.func n) first cap => callable P n = true ∧ ACalls P G n (first ++ args ++ cap) σ fun o σ' => match o with
    | .ret v => K v σ'
    | .panic v => PK v σ'
  | .fn (.yield l) first cap => first = [] ∧ cap = [] ∧ G.has l ∧ G.y l args σ K PK
  | _ => False

/-- the operations that look at the state, or change it -/
def aeff (P : Program) (G : Env) (a : Operand → AV) (σ : AS) (K : AV → AS → Prop) (PK : AV → AS → Prop) : Op → Prop
  | .load t x => aload P t (a x) σ fun v => K v σ
  | .store t p x => astore P t (a p) (a x) σ fun σ' => K (.tuple []) σ'
  | .alloc t => ∃ z, zeroOf P t = some z ∧ z.known = true ∧ K (.ptr σ.no 0) (σ.newO z.cells)
  | .box _ x => (a x).known = true ∧ K (.ptr σ.no 0) (σ.newO (a x).cells)
  | .makeSlice t l c => amake P t (a l) (a c) σ K
  | .convert s d x => match a x with
    | .int _ _ => aconv P s d (a x) fun v => K v σ
    | .str bs => (isStr P d = true → (P.underlying s).isSome = true ∧ K (.str bs) σ) ∧ (isStr P d = false → aconvE P s d (a x) σ K)
    | _ => aconvE P s d (a x) σ K
  | .panic x => match a x with
    | .iface t v => PK (.iface t v) σ
    | _ => False
  | .call c => match c.callee with
    | .builtin .append => match c.argTypes.toList, c.args.toList with
      | [t, u], [s, x] => aappend P t u (a s) (a x) σ K
      | _, _ => False
    | .value f => acall P G (a f) (c.args.toList.map a) σ K PK
    | _ => False
  | _ => False

/-- what the model's run of an operation must come to -/
def Lands (P : Program) (M : Mp) (F : Nat → FSt) (w : World) (K PK : AV → AS → Prop) : Result Next → Prop
  | .ok (.value v') w' => Post M F w K v' w'
  | .ok .skip w' => Post M F w K undef w'
  | .ok (.enter f args) w' => w' = w ∧ Calls P f args w fun e w'' => match e with
    | .returned v' => Post M F w K v' w''
    | .panicked ch => ∃ v', ch = [{ v := v', recovered := false }] ∧ Post M F w PK v' w''
    | .outgrown => False
  | .ok (.round l fn tmps assign body) w' => w' = w ∧ RoundIn Fence.wide 0 P l fn tmps assign body w fun e w'' => match e with
    | .returned v' => Post M F w K v' w''
    | .panicked ch => ∃ v', ch = [{ v := v', recovered := false }] ∧ Post M F w PK v' w''
    | .outgrown => False
  | .halt (.panic v') w' => Post M F w PK v' w'
  | _ => False

theorem isU8_spec {P : Program} {t} (h : isU8 P t = true) : ∃ e, P.underlying t = some (.slice e) ∧ P.underlying e = some (.int .u8) := by
  unfold isU8 at h
  split at h
  · split at h
    · exact ⟨_, ‹_›, ‹_›⟩
    · cases h
  · cases h

theorem flat_B (bs : List UInt8) : flat (B bs) = B bs := by
  induction bs with
  | nil => rfl
  | cons b bs ih => simp only [flat, B, List.map_cons, List.flatMap_cons, AV.cells] at *; rw [ih]; rfl

theorem B_size (bs : List UInt8) : ∀ x ∈ B bs, x.cells.length = 1 := by
  intro x hx; simp only [B, List.mem_map] at hx; obtain ⟨b, _, rfl⟩ := hx; rfl

theorem VR_byte {M F w b c} (h : VR M F w (.int .u8 ((b : UInt8).toNat : Int)) c) : c = .int .u8 (b.toNat : Int) := h.int_inv

/-- a new block, of which the first cells are an object -/
theorem sim_newObjB {M σ} {w w' : World} (S : Sim M σ w) {A : Array Value} {e : TypeId} {z : Nat × Nat} {cs : List AV} (hw : w'.heap = w.heap.push (.cells A e z)) (hio : SameIO w w') (hl : cs.length ≤ A.size) (hv : ∀ j (h : j < cs.length), VR M σ.F w cs[j] (A[j]'(by omega)))
    (hz : ∀ j, j < cs.length → w'.frozen? ⟨w.heap.size, j, none⟩ = false) : Sim (M.newObj w.heap.size) (σ.newO cs) w' ∧ Ext M σ.F w (M.newObj w.heap.size) σ.F w' := by
  have hE : Ext M σ.F w (M.newObj w.heap.size) σ.F w' := (ext_newObj (F := σ.F) S.role (.cells A e z)).trans (.of_heap hw hio)
  refine ⟨⟨by simp [Mp.newObj, AS.newO, S.no], S.nf, fun B r' h => ?_, fun x cs' hx => ?_, fun x y hx hy hxy => ?_⟩, hE⟩
  · simp only [Mp.newObj, upd] at h
    rw [hw]
    split at h
    · simp; omega
    · have := S.role B r' h
      simp; omega
  · by_cases hxn : x = σ.no
    · subst hxn
      simp only [AS.newO, upd_same] at hx
      cases hx
      refine ⟨by simp [AS.newO], by simp only [Mp.newObj]; rw [← S.no, upd_same, upd_same], fun j hj => ?_⟩
      have e1 : (M.newObj w.heap.size).obj σ.no = (w.heap.size, 0) := by simp only [Mp.newObj]; rw [← S.no, upd_same]
      refine ⟨A[j]'(by omega), ?_, ?_, (hv j hj).mono hE⟩
      · rw [e1]; simp [World.cell?, hw]
      · rw [e1]; simpa using hz j hj
    · simp only [AS.newO] at hx
      rw [upd_ne _ _ hxn] at hx
      obtain ⟨a, b, c⟩ := S.obj x cs' hx
      have hB := S.role _ _ b
      have e1 : (M.newObj w.heap.size).obj x = M.obj x := by simp only [Mp.newObj]; rw [upd_ne _ _ (by rw [S.no]; exact hxn)]
      rw [e1]
      refine ⟨by simp [AS.newO]; omega, by simp only [Mp.newObj]; rw [upd_ne _ _ (by omega)]; exact b, fun j hj => ?_⟩
      obtain ⟨v, h1, h2, h3⟩ := c j hj
      have e : w'.heap[(M.obj x).1]? = w.heap[(M.obj x).1]? := by rw [hw, Array.getElem?_push, if_neg (by omega)]
      exact ⟨v, (cell?_of_heap e).trans h1, (frozen?_of_heap e).trans h2, h3.mono hE⟩
  · have S0 := (sim_newObj (A := #[]) (e := e) S (cs := []) ⟨rfl, fun j v h => by simp at h⟩).inj x y
    refine S0 ?_ ?_ hxy
    · by_cases hxn : x = σ.no
      · subst hxn; simp [AS.newO, upd]
      · simp only [AS.newO] at hx ⊢; rw [upd_ne _ _ hxn] at hx ⊢; exact hx
    · by_cases hxn : y = σ.no
      · subst hxn; simp [AS.newO, upd]
      · simp only [AS.newO] at hy ⊢; rw [upd_ne _ _ hxn] at hy ⊢; exact hy

theorem aconvE_sound {P : Program} {s d x σ} {K : AV → AS → Prop} (h : aconvE P s d x σ K) {M w x'} (S : Sim M σ w) (hx : VR M σ.F w x x') :
    ∃ v' w', (convert s d x').run P w = .ok v' w' ∧ Post M σ.F w K v' w' := by
  unfold aconvE at h
  split at h
  · obtain ⟨hs, hd, hK⟩ := h
    obtain ⟨e, hu, he⟩ := isU8_spec hs
    rw [nilsl_inv hx]
    refine ⟨.string .empty, w, ?_, .same S hK rfl (.refl _) (VR.str' rfl)⟩
    simp [convert, run_underlying hu, run_underlying (isStr_spec hd), run_underlying he, Conv.bytesToString]
  · rename_i φ sz xs
    obtain ⟨hs, hd, hrd, bs, rfl, hK⟩ := h
    obtain ⟨e, hu, he⟩ := isU8_spec hs
    generalize hB : B bs = ys at hx
    cases hx with
    | slz b sz a =>
      have hb : bs = [] := by simpa [B] using hB
      subst hb
      exact ⟨.string ⟨([] : List UInt8).toArray⟩, w, run_convert_bytes_back w s d e a 0 [] hu he (isStr_spec hd) (fun j hj => by simp at hj), .same S hK rfl (.refl _) (VR.str' rfl)⟩
    | sl _ _ _ C off cap cs hcap hlit hsz hm hc hv =>
    subst hB
    have hl : (B bs).length = bs.length := by simp [B]
    rw [hl]
    refine ⟨.string ⟨bs.toArray⟩, w, run_convert_bytes_back w s d e ⟨C, off, none⟩ cap bs hu he (isStr_spec hd) (fun j hj => ?_), .same S hK rfl (.refl _) (VR.str' rfl)⟩
    have hj' : j < (flat (B bs)).length := by rw [flat_B, hl]; exact hj
    rw [addr_add, hc hrd j hj']
    have := hv hrd j hj'
    simp only [flat_B] at this
    simp only [B, List.getElem_map] at this
    rw [VR_byte this]
  · rename_i o off sz len
    obtain ⟨hs, hd, cs, bs, ho, hb, hbs, hK⟩ := h
    obtain ⟨e, hu, he⟩ := isU8_spec hs
    obtain ⟨hlt, cap, hcap, rfl⟩ := slm_inv hx
    have hl : bs.length = len := by
      have := congrArg List.length hbs
      simp [B] at this; omega
    obtain ⟨_, _, hcell⟩ := S.obj o cs ho
    refine ⟨.string ⟨bs.toArray⟩, w, ?_, .same S hK rfl (.refl _) (VR.str' rfl)⟩
    rw [← hl]
    refine run_convert_bytes_back w s d e _ cap bs hu he (isStr_spec hd) (fun j hj => ?_)
    obtain ⟨c, h1, _, h3⟩ := hcell (off + j) (by omega)
    rw [addr_add, Nat.add_assoc, h1]
    have e1 : cs[off + j]'(by omega) = .int .u8 (bs[j].toNat : Int) := by
      have := congrArg (fun l => l[j]?) hbs
      simp only [B, List.getElem?_take, List.getElem?_drop, List.getElem?_map] at this
      rw [if_pos (by omega), List.getElem?_eq_getElem (by omega), List.getElem?_eq_getElem hj] at this
      simpa using this
    rw [e1] at h3
    rw [VR_byte h3]
  · rename_i bs
    obtain ⟨hs, hd, hK⟩ := h
    obtain ⟨e, hu, he⟩ := isU8_spec hd
    obtain ⟨b, rfl, rfl⟩ := hx.str_inv
    have hrun := run_bytes_of_string w s d e b (isStr_spec hs) hu he
    generalize hcap : grownCap w b.size 0 e = cap at hrun
    have hle : b.size ≤ cap := by rw [← hcap]; exact grownCap_ge ..
    refine ⟨_, _, hrun, ?_⟩
    have hF : ∀ g, g < M.nf → (upd σ.F σ.nf .alive) g = σ.F g ∨ (upd σ.F σ.nf .alive) g = .dead := fun g hg => .inl (upd_ne _ _ (by rw [← S.nf]; omega))
    have hheap : (w.drew.alloc (.cells (bytesRow b cap) e ((bytesRow b cap).size, (bytesRow b cap).size + 1))).heap = w.heap.push (.cells (bytesRow b cap) e ((bytesRow b cap).size, (bytesRow b cap).size + 1)) := rfl
    have hE := ext_newFam (F := σ.F) S.role _ hheap ⟨rfl, rfl, rfl⟩ hF
    have hsz : (bytesRow b cap).size = cap := by simp [bytesRow]; omega
    rcases hK with hK | hK
    rotate_left
    · have hlb : (B b.data.toList).length = b.size := by simp [B]
      obtain ⟨So, Eo⟩ := sim_newObjB S (cs := B b.data.toList) hheap ⟨rfl, rfl, rfl⟩ (by rw [hlb, hsz]; exact hle) (fun j hj => by
        have hj2 : j < b.data.size := by rw [hlb] at hj; exact hj
        have h1 := bytesRow_at b cap j hj2
        have h2 : (bytesRow b cap)[j]'(by rw [hsz]; have : b.data.size = b.size := rfl; omega) = .int .u8 ((b.data[j]).toNat : Int) := by
          rw [Array.getElem?_eq_getElem (by rw [hsz]; have : b.data.size = b.size := rfl; omega)] at h1
          exact Option.some.inj h1
        rw [h2]
        have e1 : (B b.data.toList)[j] = .int .u8 ((b.data[j]'hj2).toNat : Int) := by simp [B]
        rw [e1]
        exact .int ..) (fun j hj => by simp [World.frozen?, hheap]; rw [hlb] at hj; omega)
      have hp := VR.slm (M := M.newObj w.heap.size) (F := σ.F) (w := w.drew.alloc (.cells (bytesRow b cap) e ((bytesRow b cap).size, (bytesRow b cap).size + 1))) σ.no 0 1 b.size cap (by simp [Mp.newObj, S.no]) hle
      have e1 : (M.newObj w.heap.size).obj σ.no = (w.heap.size, 0) := by simp only [Mp.newObj]; rw [← S.no, upd_same]
      rw [e1] at hp
      have hlen : b.data.toList.length = b.size := by simp
      rw [hlen] at hK
      exact ⟨_, _, _, hK, hp, So, Eo⟩
    refine ⟨_, _, _, hK, ?_, sim_newFam S _ hheap ⟨rfl, rfl, rfl⟩ hF, hE⟩
    have hl : (B b.data.toList).length = b.size := by simp [B]
    have hcell : ∀ j, (w.drew.alloc (.cells (bytesRow b cap) e ((bytesRow b cap).size, (bytesRow b cap).size + 1))).cell? ⟨w.heap.size, 0 + j, none⟩ = (bytesRow b cap)[j]? := by
      intro j; rw [Nat.zero_add]; simp [World.cell?, hheap]
    have hbj : ∀ j (h : j < b.data.size), (bytesRow b cap)[j]? = some (.int .u8 ((b.data[j]).toNat : Int)) := fun j h => bytesRow_at b cap j h
    have key := VR.sl (M := M.newFam w.heap.size) (F := upd σ.F σ.nf .alive) (w := w.drew.alloc (.cells (bytesRow b cap) e ((bytesRow b cap).size, (bytesRow b cap).size + 1))) (.fam σ.nf false) 1 (B b.data.toList) w.heap.size 0 cap
      (fun j => ((bytesRow b cap)[j]?).getD undef) (by rw [hl]; exact hle) (by simp [Own.full]) (B_size _) ?_ (fun _ j hj => ?_) (fun _ j hj => ?_)
    · rw [hl] at key; exact key
    · refine ⟨by simp [Mp.newFam, S.nf], fun _ => ⟨by simp [Mp.newFam, upd, S.nf], fun j hj => ⟨?_, ?_⟩⟩⟩
      · rw [hcell, Array.getElem?_eq_getElem (by omega)]; rfl
      · simp [World.frozen?, hheap]; omega
    · rw [flat_B, hl] at hj
      rw [hcell, hbj j hj]; rfl
    · have hj2 := hj
      rw [flat_B, hl] at hj2
      rw [hbj j hj2]
      have e1 : (flat (B b.data.toList))[j] = .int .u8 ((b.data[j]'hj2).toNat : Int) := by
        simp only [flat_B]; simp [B]
      rw [e1]; exact .int ..
  · exact h.elim

theorem amake_sound {P : Program} {t l c σ} {K : AV → AS → Prop} (h : amake P t l c σ K) {M w l' c'} (S : Sim M σ w) (hl : VR M σ.F w l l') (hc : VR M σ.F w c c') :
    ∃ v' w', (Instr.makeSlice t l' c').run P w = .ok v' w' ∧ Post M σ.F w K v' w' := by
  unfold amake at h
  split at h
  · rename_i k1 n k2 m
    obtain ⟨sz, bs, z, he, hb, hz, hzk, hzl, rfl, h0, h1, h2, hK⟩ := h
    obtain ⟨e, hu, hs⟩ := elOf_spec he
    obtain ⟨i, hi, rfl⟩ := elBytes_spec hb hu
    have hz' : zeroOf P e = some z := by unfold elZero at hz; rw [hu] at hz; exact hz
    obtain ⟨zv, hzv, rfl⟩ : ∃ zv, i.zero = some zv ∧ z = ofVal zv := by
      unfold zeroOf at hz'
      rw [hi] at hz'
      cases hq : i.zero with
      | none => simp [hq] at hz'
      | some v => simp [hq] at hz'; exact ⟨v, rfl, hz'.symm⟩
    have hzr := ofVal_VR M σ.F w zv
    have hisz : i.size = sz := by
      have hs2 := hs
      unfold szOf at hs2
      split at hs2
      · simpa [hi] using hs2
      · cases hs2
    have hbi : (i.bytes : Int) * n ≤ 281474976710656 := by
      have hq : ((n.toNat * i.bytes : Nat) : Int) ≤ 2 ^ 47 := by exact_mod_cast h2
      rw [Int.natCast_mul, Int.toNat_of_nonneg h0, Int.mul_comm] at hq
      omega
    have hrun := run_make (P := P) w t e i zv hu hi hzv k1 k2 n n h0 (Int.le_refl _) hbi (by omega)
    rw [hl.int_inv, hc.int_inv]
    refine ⟨_, _, hrun, ?_⟩
    have hcells := Cells.zeros hzr hzk hzl n.toNat
    have hS := sim_newObj S (A := madeCells zv.cells (n.toNat * i.size)) (e := e) (cs := flat (List.replicate n.toNat (ofVal zv))) (by rw [hisz]; exact hcells)
    have hE := ext_newObj (F := σ.F) S.role (.cells (madeCells zv.cells (n.toNat * i.size)) e)
    refine ⟨_, _, _, hK, ?_, hS, hE⟩
    have hv := VR.slm (M := M.newObj w.heap.size) (F := σ.F) (w := { w with heap := w.heap.push (.cells (madeCells zv.cells (n.toNat * i.size)) e) }) σ.no 0 sz n.toNat n.toNat (by simp [Mp.newObj, S.no]) (Nat.le_refl _)
    have e1 : (M.newObj w.heap.size).obj σ.no = (w.heap.size, 0) := by simp only [Mp.newObj]; rw [← S.no, upd_same]
    rw [e1] at hv
    exact hv
  · exact h.elim

theorem aeff_sound {P : Program} {G : Env} {α : Operand → AV} {σ : AS} {K PK : AV → AS → Prop} {o : Oper} (h : aeff P G α σ K PK o.op) {M : Mp} {w : World} {ρ : Operand → Value} (S : Sim M σ w) (g : GOk P G M σ.F w)
    (hl : ∀ x ∈ o.op.operands, VR M σ.F w (α x) (ρ x)) : Lands P M σ.F w K PK ((execOp ρ o).run P w) := by
  cases ho : o.op <;> rw [ho] at h <;> simp only [aeff] at h
  case load t x =>
    obtain ⟨v, hK, hh⟩ := aload_sound h
    obtain ⟨v', h1, h2⟩ := hh M w (ρ x) S (hl x (by rw [ho]; simp [Op.operands]))
    unfold execOp; simp only [ho]; rw [Sem.run_bind, h1]
    exact .same S hK rfl (.refl _) h2
  case store t p x =>
    obtain ⟨σ', w', h1, hK, h2, h3⟩ := astore_sound h S (hl p (by rw [ho]; simp [Op.operands])) (hl x (by rw [ho]; simp [Op.operands]))
    unfold execOp; simp only [ho]; rw [Sem.run_bind, h1]
    exact ⟨_, σ', M, hK, .tuple _ _ rfl (fun j h => absurd h (Nat.not_lt_zero _)), h2, h3⟩
  case alloc t =>
    obtain ⟨z, hz, hk, hK⟩ := h
    obtain ⟨zv, hzv, rfl⟩ := zeroOf_spec hz w
    obtain ⟨c1, c2⟩ := (ofVal_VR M σ.F w zv).cells_rel hk
    have hS := sim_newObj S (A := zv.cells) (e := t) (Cells.of c1 c2)
    have hE := ext_newObj (F := σ.F) S.role (.cells zv.cells t)
    unfold execOp; simp only [ho]
    simp only [Instr.alloc, newVar, newRow, Sem.run_bind, hzv, Result.andThen_ok, run_newObj, Sem.run_pure]
    refine ⟨_, _, _, hK, ?_, hS, hE⟩
    have hv := VR.ptr (M := M.newObj w.heap.size) (F := σ.F) (w := { w with heap := w.heap.push (.cells zv.cells t) }) σ.no 0 (by simp [Mp.newObj, S.no])
    have e1 : (M.newObj w.heap.size).obj σ.no = (w.heap.size, 0) := by simp only [Mp.newObj]; rw [← S.no, upd_same]
    rw [e1] at hv
    exact hv
  case box t x =>
    obtain ⟨hk, hK⟩ := h
    obtain ⟨c1, c2⟩ := (hl x (by rw [ho]; simp [Op.operands])).cells_rel hk
    have hS := sim_newObj S (A := (ρ x).cells) (e := t) (Cells.of c1 c2)
    have hE := ext_newObj (F := σ.F) S.role (.cells (ρ x).cells t)
    unfold execOp; simp only [ho]
    simp only [Instr.box, newVar, newRow, Sem.run_bind, Result.andThen_ok, run_newObj, Sem.run_pure]
    refine ⟨_, _, _, hK, ?_, hS, hE⟩
    have hv := VR.ptr (M := M.newObj w.heap.size) (F := σ.F) (w := { w with heap := w.heap.push (.cells (ρ x).cells t) }) σ.no 0 (by simp [Mp.newObj, S.no])
    have e1 : (M.newObj w.heap.size).obj σ.no = (w.heap.size, 0) := by simp only [Mp.newObj]; rw [← S.no, upd_same]
    rw [e1] at hv
    exact hv
  case makeSlice t l c =>
    obtain ⟨v', w', h1, h2⟩ := amake_sound h S (hl l (by rw [ho]; simp [Op.operands])) (hl c (by rw [ho]; simp [Op.operands]))
    unfold execOp; simp only [ho]; rw [Sem.run_bind, h1]
    exact h2
  case convert s d x =>
    have hx := hl x (by rw [ho]; simp [Op.operands])
    unfold execOp; simp only [ho]; rw [Sem.run_bind]
    split at h
    · obtain ⟨v, hK, hh⟩ := aconv_sound h
      obtain ⟨v', h1, h2⟩ := hh M σ.F w (ρ x) hx
      rw [h1]
      exact .same S hK rfl (.refl _) h2
    · rename_i bs hbs
      cases hd : isStr P d with
      | true =>
        obtain ⟨hs, hK⟩ := h.1 hd
        have hc : aconv P s d (α x) (fun v => K v σ) := by rw [hbs]; exact ⟨hd, hs, hK⟩
        obtain ⟨v, hK, hh⟩ := aconv_sound hc
        obtain ⟨v', h1, h2⟩ := hh M σ.F w (ρ x) hx
        rw [h1]
        exact .same S hK rfl (.refl _) h2
      | false =>
        obtain ⟨v', w', h1, h2⟩ := aconvE_sound (h.2 hd) S hx
        rw [h1]; exact h2
    · obtain ⟨v', w', h1, h2⟩ := aconvE_sound h S hx
      rw [h1]; exact h2
  case panic x =>
    have hx := hl x (by rw [ho]; simp [Op.operands])
    split at h
    · rename_i t v hv
      rw [hv] at hx
      generalize hc : ρ x = c at hx
      have hx' := hx
      cases hx with
      | iface _ _ c' hc' =>
      unfold execOp; simp only [ho]
      simp only [hc, Instr.panic, Sem.run_bind, run_goPanic, Result.andThen_halt]
      exact .same S h rfl (.refl _) hx'
    · exact h.elim
  case call c =>
    split at h
    · rename_i hc
      split at h
      · rename_i t u s x ht hx
        obtain ⟨v', w', h1, h2⟩ := aappend_sound h S (hl s (by rw [ho]; simp [Op.operands, Call.operands, ← Array.mem_toList_iff, hx])) (hl x (by rw [ho]; simp [Op.operands, Call.operands, ← Array.mem_toList_iff, hx])) o.type
        have e1 : c.args.map ρ = #[ρ s, ρ x] := by apply Array.ext'; simp [hx]
        have e2 : c.argTypes = #[t, u] := by apply Array.ext'; simp [ht]
        unfold execOp; simp only [ho]
        simp only [resolve, hc, Sem.run_bind, Sem.run_pure, Result.andThen_ok, invoke, builtin, e1, e2, h1]
        exact h2
      · exact h.elim
    · rename_i f hc
      unfold acall at h
      split at h
      · rename_i n first cap hf
        obtain ⟨hcl, hcalls⟩ := h
        have hfv := hl f (by rw [ho]; simp [Op.operands, Call.operands, hc])
        rw [hf] at hfv
        obtain ⟨A, C, hρ, hA, hC, va, vc⟩ : ∃ A C, ρ f = .func (.func n) A C ∧ A.size = first.length ∧ C.size = cap.length ∧ (∀ j (h : j < first.length) (h' : j < A.size), VR M σ.F w first[j] A[j]) ∧
            (∀ j (h : j < cap.length) (h' : j < C.size), VR M σ.F w cap[j] C[j]) := by
          generalize ρ f = c at hfv
          cases hfv with
          | fn _ _ _ A B ha hb va vb => exact ⟨A, B, rfl, ha, hb, va, vb⟩
        obtain ⟨fn, hfn, hb, hname⟩ : ∃ fn, P.funcs[n]? = some fn ∧ fn.body.isSome = true ∧ (fn.name == "runtime.NumGoroutine") = false := by
          unfold callable at hcl
          split at hcl
          · simp only [Bool.and_eq_true, Bool.not_eq_true'] at hcl
            exact ⟨_, ‹_›, hcl.1, hcl.2⟩
          · cases hcl
        have hbn : fn.body.isNone = false := by cases hq : fn.body <;> simp [hq] at hb ⊢
        have hrun : (execOp ρ o).run P w = .ok (.enter n (A ++ c.args.map ρ ++ C)) w := by
          unfold execOp; simp only [ho]
          simp only [resolve, hc, hρ, Deferred.ofValue, Sem.run_bind, Sem.run_pure, Result.andThen_ok, invoke, callFunc, run_program, hfn, hname, hbn, Bool.false_eq_true, if_false]
        rw [hrun]
        refine ⟨rfl, (hcalls M w _ S g ?_).mono fun e w' he => ?_⟩
        · have harg : Cells M σ.F w (c.args.toList.map α) (c.args.map ρ) := by
            refine Cells.of (by simp) (fun j h h' => ?_)
            simp only [List.getElem_map, Array.getElem_map, Array.getElem_toList]
            refine hl _ ?_
            rw [ho]; simp [Op.operands, Call.operands]
          have app : ∀ {x y : List AV} {X Y : Array Value}, Cells M σ.F w x X → Cells M σ.F w y Y → Cells M σ.F w (x ++ y) (X ++ Y) := by
            intro x y X Y h1 h2
            refine ⟨by simp [h1.1, h2.1], fun j v hj => ?_⟩
            by_cases h : j < x.length
            · rw [List.getElem?_append_left h] at hj
              obtain ⟨c, e1, e2⟩ := h1.2 j v hj
              exact ⟨c, by rw [Array.getElem?_append_left (by rw [h1.1]; exact h)]; exact e1, e2⟩
            · rw [List.getElem?_append_right (by omega)] at hj
              obtain ⟨c, e1, e2⟩ := h2.2 _ v hj
              exact ⟨c, by rw [Array.getElem?_append_right (by rw [h1.1]; omega), h1.1]; exact e1, e2⟩
          exact app (app (Cells.of hA va) harg) (Cells.of hC vc)
        · obtain ⟨out, σ', M', hR, hO, hS, hE⟩ := he
          cases out with
          | ret v =>
            cases e with
            | returned v' => exact ⟨v, σ', M', hR, hO, hS, hE⟩
            | panicked ch => exact hO.elim
            | outgrown => exact hO.elim
          | panic v =>
            cases e with
            | returned v' => exact hO.elim
            | panicked ch =>
              obtain ⟨v', h1, h2⟩ := hO
              exact ⟨v', h1, v, σ', M', hR, h2, hS, hE⟩
            | outgrown => exact hO.elim
      · rename_i l first cap hf
        obtain ⟨rfl, rfl, hhas, hy⟩ := h
        have hfv := hl f (by rw [ho]; simp [Op.operands, Call.operands, hc])
        rw [hf] at hfv
        obtain ⟨A, C, hρ, hA, hC⟩ : ∃ A C, ρ f = .func (.yield l) A C ∧ A.size = 0 ∧ C.size = 0 := by
          generalize ρ f = c at hfv
          cases hfv with
          | fn _ _ _ A B ha hb va vb => exact ⟨A, B, rfl, ha, hb⟩
        have hA' : A = #[] := Array.eq_empty_of_size_eq_zero hA
        have hC' : C = #[] := Array.eq_empty_of_size_eq_zero hC
        subst hA' hC'
        have harg : Cells M σ.F w (c.args.toList.map α) (c.args.map ρ) := by
          refine Cells.of (by simp) (fun j h h' => ?_)
          simp only [List.getElem_map, Array.getElem_map, Array.getElem_toList]
          refine hl _ ?_
          rw [ho]; simp [Op.operands, Call.operands]
        obtain ⟨r, f0, M0, F0, w0, E0, hlt, h1, h2, _, h3⟩ := g.yields l hhas
        obtain ⟨h4, h5⟩ := h1 (h2 _ _ _ _ hy)
        obtain ⟨fn, tmps, assign, body, hrun, hround⟩ := h3 _ σ K PK M w _ hy S E0 h4 h5 harg
        have hrun' : (execOp ρ o).run P w = .ok (.round l fn tmps assign body) w := by
          unfold execOp; simp only [ho]
          simp only [resolve, hc, hρ, Deferred.ofValue, Sem.run_bind, Sem.run_pure, Result.andThen_ok, invoke, Array.empty_append]
          exact hrun
        rw [hrun']
        exact ⟨rfl, hround⟩
      · exact h.elim
    · exact h.elim

end Go.Abs
