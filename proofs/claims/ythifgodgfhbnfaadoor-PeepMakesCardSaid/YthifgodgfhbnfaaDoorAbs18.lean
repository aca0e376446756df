/- Rules by which a rewriter steps through what a text asks, one operation after the other; no condition. -/
import Derived.Test.YthifgodgfhbnfaaDoorAbs17
namespace Go.Abs
open Go

/-- a thing that is always rewritten: so that the congruence rules below always hold their place -/
def blk : Prop := True
@[simp] theorem blk_eq : blk = True := propext ⟨fun _ => trivial, fun _ => trivial⟩

def bindO {α : Type} (o : Option α) (K : α → Prop) : Prop := ∃ x, o = some x ∧ K x
@[simp] theorem bindO_some {α : Type} (x : α) (K : α → Prop) : bindO (some x) K = K x := by simp [bindO]
@[simp] theorem bindO_none {α : Type} (K : α → Prop) : bindO none K = False := by simp [bindO]
@[congr] theorem bindO_congr {dd : Prop} (_ : blk = dd) {α : Type} {o o' : Option α} {K : α → Prop} (h : o = o') : bindO o K = bindO o' K := by rw [h]

def ifB (b : Bool) (yes no : Prop) : Prop := if b then yes else no
@[simp] theorem ifB_true (yes no : Prop) : ifB true yes no = yes := by simp [ifB]
@[simp] theorem ifB_false (yes no : Prop) : ifB false yes no = no := by simp [ifB]
@[congr] theorem ifB_congr {dd : Prop} (_ : blk = dd) {b b' : Bool} {yes no : Prop} (h : b = b') : ifB b yes no = ifB b' yes no := by rw [h]
theorem ifB_intro {b : Bool} {yes no : Prop} (h1 : b = true → yes) (h2 : b = false → no) : ifB b yes no := by cases b <;> simp_all

def condV (v : AV) (yes no : Prop) : Prop := match v with
  | .bool b => ifB b yes no
  | _ => False
@[simp] theorem condV_bool (b : Bool) (yes no : Prop) : condV (.bool b) yes no = ifB b yes no := Eq.trans rfl rfl
@[congr] theorem condV_congr {dd : Prop} (_ : blk = dd) {v v' : AV} {yes no : Prop} (h : v = v') : condV v yes no = condV v' yes no := by rw [h]

def gateV (v : AV) (want : Bool) (yes no : Prop) : Prop := match v with
  | .bool b => ifB (b == want) yes no
  | .tuple [] => no
  | _ => False
@[simp] theorem gateV_bool (b want : Bool) (yes no : Prop) : gateV (.bool b) want yes no = ifB (b == want) yes no := Eq.trans rfl rfl
@[simp] theorem gateV_unit (want : Bool) (yes no : Prop) : gateV (.tuple []) want yes no = no := Eq.trans rfl rfl
@[congr] theorem gateV_congr {dd : Prop} (_ : blk = dd) {v v' : AV} {want : Bool} {yes no : Prop} (h : v = v') : gateV v want yes no = gateV v' want yes no := by rw [h]

@[simp] theorem acond_none (a : Nat → AV) (yes no : Prop) : acond a none yes no = yes := Eq.trans rfl rfl
@[simp] theorem acond_some (a : Nat → AV) (d : Nat) (want : Bool) (yes no : Prop) : acond a (some (d, want)) yes no = gateV (a d) want yes no := by
  unfold acond gateV
  simp only
  cases a d with
  | bool b => cases b <;> cases want <;> simp [ifB]
  | tuple l => cases l <;> rfl
  | _ => rfl
@[congr] theorem acond_congr1 {dd : Prop} (_ : blk = dd) {a a' : Nat → AV} {g : Option (Nat × Bool)} {yes no : Prop} (h : a = a') : acond a g yes no = acond a' g yes no := by rw [h]

section
variable {P : Program} {G : Env} {n : Nat}

@[congr] theorem avc_congr {dd : Prop} (_ : blk = dd) {p p' : PC} {Q : AQ} {a a' : Nat → AV} {σ σ' : AS} (h : a = a') (h2 : σ = σ') (h3 : p = p') : avc P G n p Q a σ = avc P G n p' Q a' σ' := by rw [h, h2, h3]
@[simp] theorem avc_skip (Q : AQ) (a σ) : avc P G n .skip Q a σ = Q .normal a σ := Eq.trans rfl rfl
@[simp] theorem avc_ops (l : List PO) (Q : AQ) (a σ) : avc P G n (.ops l) Q a σ = aops P G (withPf (hide l a) Q) l a σ := Eq.trans rfl rfl
@[simp] theorem avc_both (ls : List (List PO)) (Q : AQ) (a σ) : avc P G n (.both ls) Q a σ = aalts P G Q a σ ls := Eq.trans rfl rfl
@[congr] theorem aalts_congr {dd : Prop} (_ : blk = dd) {Q : AQ} {a a' : Nat → AV} {σ σ' : AS} {ls : List (List PO)} (h : a = a') (h2 : σ = σ') : aalts P G Q a σ ls = aalts P G Q a' σ' ls := by rw [h, h2]
@[simp] theorem aalts_nil (Q : AQ) (a σ) : aalts P G Q a σ [] = True := Eq.trans rfl rfl
@[simp] theorem aalts_cons (Q : AQ) (a σ) (l : List PO) (r : List (List PO)) : aalts P G Q a σ (l :: r) = (aops P G (withPf (hide l a) Q) l a σ ∧ aalts P G Q a σ r) := Eq.trans rfl rfl
@[simp] theorem withPf_normal (pf) (Q : AQ) (a σ) : withPf pf Q .normal a σ = Q .normal a σ := Eq.trans rfl rfl
@[simp] theorem withPf_exit (pf) (Q : AQ) (i a σ) : withPf pf Q (.exit i) a σ = Q (.exit i) a σ := Eq.trans rfl rfl
@[simp] theorem withPf_ret (pf) (Q : AQ) (a σ) : withPf pf Q .ret a σ = Q .ret a σ := Eq.trans rfl rfl
@[simp] theorem withPf_panic (pf) (Q : AQ) (v a σ) : withPf pf Q (.panic v) a σ = Q (.panic v) pf σ := Eq.trans rfl rfl
@[congr] theorem withPf_congr {dd : Prop} (_ : blk = dd) {pf : Nat → AV} {Q : AQ} {e : AExit} {a a' : Nat → AV} {σ σ' : AS} (h : a = a') (h2 : σ = σ') : withPf pf Q e a σ = withPf pf Q e a' σ' := by rw [h, h2]
@[simp] theorem avc_seq (x y : PC) (Q : AQ) (a σ) : avc P G n (.seq x y) Q a σ = avc P G n x (athen (avc P G n y Q) Q) a σ := Eq.trans rfl rfl
@[simp] theorem avc_cond (c : Operand) (x y : PC) (Q : AQ) (a σ) : avc P G n (.cond c x y) Q a σ = condV (ev G a c) (avc P G n x Q a σ) (avc P G n y Q a σ) := by
  simp only [avc, condV]
  cases ev G a c with
  | bool b => cases b <;> simp [ifB]
  | _ => rfl
@[simp] theorem avc_block (id : Nat) (c : PC) (Q : AQ) (a σ) : avc P G n (.block id c) Q a σ = avc P G n c (ablock id Q) a σ := Eq.trans rfl rfl
@[simp] theorem avc_loop (c : PC) (Q : AQ) (a σ) : avc P G n (.loop c) Q a σ = ALoop P G n c Q a σ := Eq.trans rfl rfl
@[simp] theorem avc_exit (i : Nat) (Q : AQ) (a σ) : avc P G n (.exit i) Q a σ = Q (.exit i) a σ := Eq.trans rfl rfl
@[simp] theorem avc_ret (Q : AQ) (a σ) : avc P G n .ret Q a σ = Q .ret a σ := Eq.trans rfl rfl
@[congr] theorem ALoop_congr {dd : Prop} (_ : blk = dd) {p : PC} {Q : AQ} {a a' : Nat → AV} {σ σ' : AS} (h : a = a') (h2 : σ = σ') : ALoop P G n p Q a σ = ALoop P G n p Q a' σ' := by rw [h, h2]
@[congr] theorem ACalls_congr {dd : Prop} (_ : blk = dd) {f : FuncId} {l l' : List AV} {σ σ' : AS} {R : Out → AS → Prop} (h : l = l') (h2 : σ = σ') : ACalls P G f l σ R = ACalls P G f l' σ' R := by rw [h, h2]

@[simp] theorem athen_normal (K : (Nat → AV) → AS → Prop) (Q : AQ) (a σ) : athen K Q .normal a σ = K a σ := Eq.trans rfl rfl
@[simp] theorem athen_exit (K : (Nat → AV) → AS → Prop) (Q : AQ) (i a σ) : athen K Q (.exit i) a σ = Q (.exit i) a σ := Eq.trans rfl rfl
@[simp] theorem athen_ret (K : (Nat → AV) → AS → Prop) (Q : AQ) (a σ) : athen K Q .ret a σ = Q .ret a σ := Eq.trans rfl rfl
@[simp] theorem athen_panic (K : (Nat → AV) → AS → Prop) (Q : AQ) (v a σ) : athen K Q (.panic v) a σ = Q (.panic v) a σ := Eq.trans rfl rfl
@[congr] theorem athen_congr {dd : Prop} (_ : blk = dd) {K : (Nat → AV) → AS → Prop} {Q : AQ} {e : AExit} {a a' : Nat → AV} {σ σ' : AS} (h : a = a') (h2 : σ = σ') : athen K Q e a σ = athen K Q e a' σ' := by rw [h, h2]
@[simp] theorem ablock_normal (id : Nat) (Q : AQ) (a σ) : ablock id Q .normal a σ = Q .normal a σ := Eq.trans rfl rfl
@[simp] theorem ablock_exit (id : Nat) (Q : AQ) (i a σ) : ablock id Q (.exit i) a σ = ifB (i == id) (Q .normal a σ) (Q (.exit i) a σ) := by
  simp only [ablock, ifB, beq_iff_eq]
@[simp] theorem ablock_ret (id : Nat) (Q : AQ) (a σ) : ablock id Q .ret a σ = Q .ret a σ := Eq.trans rfl rfl
@[simp] theorem ablock_panic (id : Nat) (Q : AQ) (v a σ) : ablock id Q (.panic v) a σ = Q (.panic v) a σ := Eq.trans rfl rfl
@[congr] theorem ablock_congr {dd : Prop} (_ : blk = dd) {id : Nat} {Q : AQ} {e : AExit} {a a' : Nat → AV} {σ σ' : AS} (h : a = a') (h2 : σ = σ') : ablock id Q e a σ = ablock id Q e a' σ' := by rw [h, h2]

@[congr] theorem aops_congr {dd : Prop} (_ : blk = dd) {Q : AQ} {l : List PO} {a a' : Nat → AV} {σ σ' : AS} (h : a = a') (h2 : σ = σ') : aops P G Q l a σ = aops P G Q l a' σ' := by rw [h, h2]
@[simp] theorem aops_nil (Q : AQ) (a σ) : aops P G Q [] a σ = Q .normal a σ := Eq.trans rfl rfl
@[simp] theorem aops_cons (Q : AQ) (d op g) (l : List PO) (a σ) : aops P G Q (⟨d, op, g, []⟩ :: l) a σ =
    acond a g (aop1 P G op d a σ (aops P G Q l) Q) (aops P G Q l (put a d (.tuple [])) σ) := by
  show acond a g (aop1 P G op d a σ (fun a' σ' => aagain P G a' σ' [] ∧ aops P G Q l a' σ') Q) _ = _
  rw [show (fun a' σ' => aagain P G a' σ' [] ∧ aops P G Q l a' σ') = aops P G Q l from by funext a' σ'; simp [aagain]]
@[simp] theorem aops_cons1 (Q : AQ) (d op g x y) (l : List PO) (a σ) : aops P G Q (⟨d, op, g, x :: y⟩ :: l) a σ =
    acond a g (aop1 P G op d a σ (fun a' σ' => aagain P G a' σ' (x :: y) ∧ aops P G Q l a' σ') Q) (aops P G Q l (put a d (.tuple [])) σ) := Eq.trans rfl rfl
@[simp] theorem aagain_nil (a σ) : aagain P G a σ [] = True := Eq.trans rfl rfl
@[simp] theorem aagain_cons (a σ) (g t x d) (r : List AG) : aagain P G a σ (⟨g, t, x, d⟩ :: r) = (acond a g (aload P t (ev G a x) σ fun v => v = a d) True ∧ aagain P G a σ r) := Eq.trans rfl rfl

@[congr] theorem aop1_congr {dd : Prop} (_ : blk = dd) {op : Op} {d : Option Nat} {a a' : Nat → AV} {σ σ' : AS} {K : (Nat → AV) → AS → Prop} {Q : AQ} (h : a = a') (h2 : σ = σ') : aop1 P G op d a σ K Q = aop1 P G op d a' σ' K Q := by rw [h, h2]

@[simp] theorem put_some (a : Nat → AV) (d : Nat) (v : AV) : put a (some d) v = upd a d v := Eq.trans rfl rfl
@[simp] theorem put_none (a : Nat → AV) (v : AV) : put a none v = a := Eq.trans rfl rfl
@[simp] theorem upd_at {α : Type} (f : Nat → α) (i : Nat) (x : α) (j : Nat) : upd f i x j = if j = i then x else f j := Eq.trans rfl rfl
@[simp] theorem frame0_at (l : List AV) (t : Nat) : frame0 l t = (l[t]?).getD (.tuple []) := Eq.trans rfl rfl
@[simp] theorem ev_tmp (a : Nat → AV) (t : Nat) : ev G a (.tmp t) = a t := Eq.trans rfl rfl
@[simp] theorem ev_func (a : Nat → AV) (f : Nat) : ev G a (.func f) = .fn (.func f) [] [] := Eq.trans rfl rfl
@[simp] theorem ev_global (a : Nat → AV) (g : Nat) : ev G a (.global g) = G.g g := Eq.trans rfl rfl
@[simp] theorem ev_int (a : Nat → AV) (k n) : ev G a (.const (.int k n)) = .int k n := Eq.trans rfl rfl
@[simp] theorem ev_bool (a : Nat → AV) (b) : ev G a (.const (.bool b)) = .bool b := Eq.trans rfl rfl
@[simp] theorem ev_nilsl (a : Nat → AV) : ev G a (.const (.slice none 0 0)) = .nilsl := Eq.trans rfl rfl
@[simp] theorem ev_nilp (a : Nat → AV) : ev G a (.const (.pointer none)) = .nilp := Eq.trans rfl rfl
@[simp] theorem ev_nilif (a : Nat → AV) : ev G a (.const .nilIface) = .nilif := Eq.trans rfl rfl
@[simp] theorem ev_nilfn (a : Nat → AV) : ev G a (.const .nilFunc) = .nilfn := Eq.trans rfl rfl
@[simp] theorem ev_str (a : Nat → AV) (l) : ev G a (.const (.string ⟨l⟩)) = .str l.toList := Eq.trans rfl rfl

/-! quiet operations -/
variable {a : Nat → AV} {σ : AS} {K : (Nat → AV) → AS → Prop} {Q : AQ} {d : Option Nat}
@[simp] theorem aop1_move (x) : aop1 P G (.move x) d a σ K Q = K (put a d (ev G a x)) σ := Eq.trans rfl rfl
@[simp] theorem aop1_assign (x) : aop1 P G (.assign x) d a σ K Q = K (put a d (ev G a x)) σ := Eq.trans rfl rfl
def pickV (v x y : AV) (K : AV → Prop) : Prop := match v with
  | .bool b => K (if b then x else y)
  | _ => False
@[simp] theorem pickV_bool (b x y) (K : AV → Prop) : pickV (.bool b) x y K = K (if b then x else y) := Eq.trans rfl rfl
@[congr] theorem pickV_congr {dd : Prop} (_ : blk = dd) {v v' x x' y y' : AV} {K : AV → Prop} (h : v = v') (h1 : x = x') (h2 : y = y') : pickV v x y K = pickV v' x' y' K := by rw [h, h1, h2]
@[simp] theorem aop1_pick (c x y) : aop1 P G (.pick c x y) d a σ K Q = pickV (ev G a c) (ev G a x) (ev G a y) fun v => K (put a d v) σ := by
  simp only [aop1, isPure, if_pos, apure, pickV]
  cases ev G a c with
  | bool b => simp
  | _ => simp
def nilV (v : AV) (K : AV → Prop) : Prop := match v with
  | .ptr _ _ | .pv _ _ | .fn (.func _) _ _ => K v
  | _ => False
@[simp] theorem nilV_ptr (o f) (K : AV → Prop) : nilV (.ptr o f) K = K (.ptr o f) := Eq.trans rfl rfl
@[simp] theorem nilV_pv (o f) (K : AV → Prop) : nilV (.pv o f) K = K (.pv o f) := Eq.trans rfl rfl
@[simp] theorem nilV_fn (f l c) (K : AV → Prop) : nilV (.fn (.func f) l c) K = K (.fn (.func f) l c) := Eq.trans rfl rfl
@[congr] theorem nilV_congr {dd : Prop} (_ : blk = dd) {v v' : AV} {K : AV → Prop} (h : v = v') : nilV v K = nilV v' K := by rw [h]
@[simp] theorem aop1_nilCheck (x) : aop1 P G (.nilCheck x) d a σ K Q = nilV (ev G a x) fun v => K (put a d v) σ := Eq.trans rfl rfl
@[simp] theorem aop1_binOp (op t x y u) : aop1 P G (.binOp op t x y u) d a σ K Q = abin P op t (ev G a x) (ev G a y) fun v => K (put a d v) σ := Eq.trans rfl rfl
@[simp] theorem aop1_unOp (op t x) : aop1 P G (.unOp op t x) d a σ K Q = aun op (ev G a x) fun v => K (put a d v) σ := Eq.trans rfl rfl
@[simp] theorem aop1_makeInterface (t x) : aop1 P G (.makeInterface t x) d a σ K Q = (isIface P t = some false ∧ K (put a d (.iface t (ev G a x))) σ) := Eq.trans rfl rfl
@[simp] theorem aop1_makeFunc (f u v) : aop1 P G (.makeFunc f u v) d a σ K Q = K (put a d (.fn f (u.toList.map (ev G a)) (v.toList.map (ev G a)))) σ := Eq.trans rfl rfl
@[simp] theorem aop1_fieldAddr (t x i) : aop1 P G (.fieldAddr t x i) d a σ K Q = afieldAddr P t (ev G a x) i fun v => K (put a d v) σ := Eq.trans rfl rfl
@[simp] theorem aop1_field (t x i) : aop1 P G (.field t x i) d a σ K Q = afield P t (ev G a x) i fun v => K (put a d v) σ := Eq.trans rfl rfl
@[simp] theorem aop1_indexAddr (t x i) : aop1 P G (.indexAddr t x i) d a σ K Q = aindexAddr P t (ev G a x) (ev G a i) fun v => K (put a d v) σ := Eq.trans rfl rfl
@[simp] theorem aop1_index (t x i) : aop1 P G (.index t x i) d a σ K Q = aindex P t (ev G a x) (ev G a i) fun v => K (put a d v) σ := Eq.trans rfl rfl
def partV (v : AV) (i : Nat) (K : AV → Prop) : Prop := match v with
  | .tuple vs => bindO vs[i]? K
  | _ => False
@[simp] theorem partV_tuple (vs i) (K : AV → Prop) : partV (.tuple vs) i K = bindO vs[i]? K := Eq.trans rfl rfl
@[congr] theorem partV_congr {dd : Prop} (_ : blk = dd) {v v' : AV} {i : Nat} {K : AV → Prop} (h : v = v') : partV v i K = partV v' i K := by rw [h]
@[simp] theorem aop1_extract (x i) : aop1 P G (.extract x i) d a σ K Q = partV (ev G a x) i fun v => K (put a d v) σ := by
  simp only [aop1, isPure, if_pos, apure, partV, bindO]
  cases ev G a x <;> rfl
@[simp] theorem aop1_build (t ps) : aop1 P G (.build t ps) d a σ K Q = abuild P t (ev G a) ps.toList fun v => K (put a d v) σ := Eq.trans rfl rfl
@[simp] theorem aop1_buildSlice (t n ps) : aop1 P G (.buildSlice t n ps) d a σ K Q = abuildSlice P t n (ev G a) ps.toList fun v => K (put a d v) σ := Eq.trans rfl rfl
@[simp] theorem aop1_len (t x) : aop1 P G (.call ⟨.builtin .len, #[x], #[t]⟩) d a σ K Q = alen P t (ev G a x) fun v => K (put a d v) σ := Eq.trans rfl rfl
@[simp] theorem aop1_cap (t x) : aop1 P G (.call ⟨.builtin .cap, #[x], #[t]⟩) d a σ K Q = acap P t (ev G a x) fun v => K (put a d v) σ := Eq.trans rfl rfl
@[congr] theorem acap_congr {dd : Prop} (_ : blk = dd) {t} {x x' : AV} {K : AV → Prop} (h : x = x') : acap P t x K = acap P t x' K := by rw [h]
@[simp] theorem acap_nilsl (t) (K : AV → Prop) : acap P t .nilsl K = ((elOf P t).isSome = true ∧ K (.int .i64 0)) := Eq.trans rfl rfl
@[simp] theorem acap_sl (t φ z xs) (K : AV → Prop) : acap P t (.sl φ z xs) K = ((elOf P t).isSome = true ∧ φ.full = true ∧ K (.int .i64 xs.length)) := Eq.trans rfl rfl
def assertV (P : Program) (t : TypeId) (ok : Bool) (v : AV) (K : AV → Prop) : Prop := match v with
  | .iface u v => isIface P t = some false ∧ u = t ∧ K (if ok then .tuple [v, .bool true] else v)
  | _ => False
@[simp] theorem assertV_iface (t ok u v) (K : AV → Prop) : assertV P t ok (.iface u v) K = (isIface P t = some false ∧ u = t ∧ K (if ok then .tuple [v, .bool true] else v)) := Eq.trans rfl rfl
@[congr] theorem assertV_congr {dd : Prop} (_ : blk = dd) {t ok} {v v' : AV} {K : AV → Prop} (h : v = v') : assertV P t ok v K = assertV P t ok v' K := by rw [h]
@[simp] theorem aop1_typeAssert (x xt t ok) : aop1 P G (.typeAssert x xt t ok) d a σ K Q = assertV P t ok (ev G a x) fun v => K (put a d v) σ := Eq.trans rfl rfl
@[simp] theorem aop1_slice (t x lo hi mx) : aop1 P G (.slice t x lo hi mx) d a σ K Q = aslice P (ev G a) t (ev G a x) lo hi mx fun v => K (put a d v) σ := Eq.trans rfl rfl
def minV (f : Int → Int → Int) (x y : AV) (K : AV → Prop) : Prop := match x, y with
  | .int k m, .int k' n => k = k' ∧ K (.int k (f m n))
  | _, _ => False
@[simp] theorem minV_int (f k m k' n) (K : AV → Prop) : minV f (.int k m) (.int k' n) K = (k = k' ∧ K (.int k (f m n))) := Eq.trans rfl rfl
@[congr] theorem minV_congr {dd : Prop} (_ : blk = dd) {f} {x x' y y' : AV} {K : AV → Prop} (h1 : x = x') (h2 : y = y') : minV f x y K = minV f x' y' K := by rw [h1, h2]
@[simp] theorem aop1_min (x y ts) : aop1 P G (.call ⟨.builtin .min, #[x, y], ts⟩) d a σ K Q = minV min (ev G a x) (ev G a y) fun v => K (put a d v) σ := Eq.trans rfl rfl
@[simp] theorem aop1_max (x y ts) : aop1 P G (.call ⟨.builtin .max, #[x, y], ts⟩) d a σ K Q = minV max (ev G a x) (ev G a y) fun v => K (put a d v) σ := Eq.trans rfl rfl

/-! operations on the state -/
@[simp] theorem aop1_load (t x) : aop1 P G (.load t x) d a σ K Q = aload P t (ev G a x) σ fun v => K (put a d v) σ := Eq.trans rfl rfl
@[simp] theorem aop1_store (t p x) : aop1 P G (.store t p x) d a σ K Q = astore P t (ev G a p) (ev G a x) σ fun σ' => K (put a d (.tuple [])) σ' := Eq.trans rfl rfl
@[simp] theorem aop1_alloc (t) : aop1 P G (.alloc t) d a σ K Q = bindO (zeroOf P t) fun z => z.known = true ∧ K (put a d (.ptr σ.no 0)) (σ.newO z.cells) := Eq.trans rfl rfl
@[simp] theorem aop1_box (t x) : aop1 P G (.box t x) d a σ K Q = ((ev G a x).known = true ∧ K (put a d (.ptr σ.no 0)) (σ.newO (ev G a x).cells)) := Eq.trans rfl rfl
@[simp] theorem aop1_make (t l c) : aop1 P G (.makeSlice t l c) d a σ K Q = amake P t (ev G a l) (ev G a c) σ fun v σ' => K (put a d v) σ' := Eq.trans rfl rfl
@[simp] theorem aop1_append (t u s x) : aop1 P G (.call ⟨.builtin .append, #[s, x], #[t, u]⟩) d a σ K Q = aappend P t u (ev G a s) (ev G a x) σ fun v σ' => K (put a d v) σ' := Eq.trans rfl rfl
@[simp] theorem aop1_call (f args ts) : aop1 P G (.call ⟨.value f, args, ts⟩) d a σ K Q =
    acall P G (ev G a f) (args.toList.map (ev G a)) σ (fun v σ' => K (put a d v) σ') (fun v σ' => Q (.panic v) anyFrame σ') := Eq.trans rfl rfl
def panicV (v : AV) (K : AV → Prop) : Prop := match v with
  | .iface t v => K (.iface t v)
  | _ => False
@[simp] theorem panicV_iface (t v) (K : AV → Prop) : panicV (.iface t v) K = K (.iface t v) := Eq.trans rfl rfl
@[congr] theorem panicV_congr {dd : Prop} (_ : blk = dd) {v v' : AV} {K : AV → Prop} (h : v = v') : panicV v K = panicV v' K := by rw [h]
@[simp] theorem aop1_panic (x) : aop1 P G (.panic x) d a σ K Q = panicV (ev G a x) fun v => Q (.panic v) anyFrame σ := by
  simp only [aop1, isPure, aeff, panicV]
  cases ev G a x <;> simp
end
end Go.Abs
