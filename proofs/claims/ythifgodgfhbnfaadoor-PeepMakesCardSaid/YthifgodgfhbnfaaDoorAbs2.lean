/- What an operation makes of abstract values: the quiet ones, a load, those that change the state; no condition. -/
import Derived.Test.YthifgodgfhbnfaaDoorAbs1
namespace Go.Abs
open Go

abbrev Frame' := Nat → AV

def ofVal1 : Value → AV
  | .bool b => .bool b
  | .int k n => .int k n
  | .string s => .str s.data.toList
  | .pointer none => .nilp
  | .slice none 0 0 => .nilsl
  | .nilFunc => .nilfn
  | .nilIface => .nilif
  | _ => .undef

def ofVal : Value → AV
  | .agg cs => .agg (cs.toList.map ofVal1)
  | v => ofVal1 v

def ev (G : Env) (a : Nat → AV) : Operand → AV
  | .tmp t => a t
  | .const v => ofVal v
  | .global g => G.g g
  | .func f => .fn (.func f) [] []

def upd {α : Type} (f : Nat → α) (i : Nat) (x : α) : Nat → α := fun j => if j = i then x else f j

theorem upd_same {α : Type} (f : Nat → α) (i : Nat) (x : α) : upd f i x i = x := by simp [upd]
theorem upd_ne {α : Type} (f : Nat → α) {i j : Nat} (x : α) (h : j ≠ i) : upd f i x j = f j := by simp [upd, h]

def put (a : Nat → AV) : Option Tmp → AV → Nat → AV
  | some d, v => upd a d v
  | none, _ => a

/-! what is asked of the program's types -/
structure FI where
  off : Nat
  size : Nat
  agg : Bool

/-- not the value of which nothing is known -/
def AV.known : AV → Bool
  | .undef => false
  | _ => true

def aggOf (P : Program) (t : TypeId) : Bool :=
  match P.underlying t with
  | some (.struct _) | some (.array _ _) => true
  | _ => false

def szOf (P : Program) (t : TypeId) : Option Nat :=
  match P.underlying t with
  | some _ => (P.info? t).map (·.size)
  | none => none

def fiOf (P : Program) (t : TypeId) (i : Nat) : Option FI :=
  match P.underlying t with
  | some (.struct fs) =>
    match fs[i]? with
    | some f => match szOf P f.type with
      | some n => if n = 0 then none else some ⟨f.offset, n, aggOf P f.type⟩
      | none => none
    | none => none
  | _ => none

/-- a slice type: its element's cells -/
def elOf (P : Program) (t : TypeId) : Option Nat :=
  match P.underlying t with
  | some (.slice e) => szOf P e
  | _ => none

/-- an array type: its length, its element's cells, whether these are several -/
def arOf (P : Program) (t : TypeId) : Option (Nat × Nat × Bool) :=
  match P.underlying t with
  | some (.array n e) => (szOf P e).map fun s => (n, s, aggOf P e)
  | _ => none

def zeroOf (P : Program) (t : TypeId) : Option AV := ((P.info? t).bind (·.zero)).map ofVal

def elZero (P : Program) (t : TypeId) : Option AV :=
  match P.underlying t with
  | some (.slice e) => zeroOf P e
  | _ => none

def intOf? (P : Program) (t : TypeId) : Option IntKind :=
  match P.underlying t with
  | some (.int k) => some k
  | _ => none

def isStr (P : Program) (t : TypeId) : Bool :=
  match P.underlying t with
  | some .string => true
  | _ => false

/-- a part of a struct's or an array's cells -/
def partOf (agg : Bool) (size off : Nat) (cs : List AV) (K : AV → Prop) : Prop :=
  if agg then off + size ≤ cs.length ∧ K (.agg ((cs.drop off).take size)) else ∃ v, cs[off]? = some v ∧ K v

/-- the values of a type that may be held against one another -/
def aeq1 : TypeDesc → AV → AV → Option Bool
  | .bool, .bool a, .bool b => some (a == b)
  | .int _, .int k a, .int k' b => if k = k' then some (a == b) else none
  | .string, .str a, .str b => some (a == b)
  | .pointer _, .nilp, .nilp => some true
  | .pointer _, .nilp, .ptr _ _ | .pointer _, .nilp, .pv _ _ | .pointer _, .ptr _ _, .nilp | .pointer _, .pv _ _, .nilp => some false
  | .slice _, .nilsl, .nilsl => some true
  | .interface ms, .nilif, .nilif => if ms.isEmpty then some true else none
  | .interface _, .nilif, .iface _ _ | .interface _, .iface _ _, .nilif => some false
  | .slice _, .nilsl, .sl _ _ _ | .slice _, .nilsl, .slm _ _ _ _ | .slice _, .sl _ _ _, .nilsl | .slice _, .slm _ _ _ _, .nilsl => some false
  | _, _, _ => none

def aeqFs (P : Program) : List Field → List AV → List AV → Option Bool
  | [], _, _ => some true
  | f :: fs, xs, ys =>
    if f.name = "_" then none else
    match P.underlying f.type, xs[f.offset]?, ys[f.offset]? with
    | some d, some x, some y => match aeq1 d x y with
      | some true => aeqFs P fs xs ys
      | some false => some false
      | none => none
    | _, _, _ => none

def aeq (P : Program) (t : TypeId) (x y : AV) : Option Bool :=
  match P.underlying t with
  | some (.struct fs) => match x, y with
    | .agg xs, .agg ys => if P.stoodInHeld t || P.eqGuardType P.depth t then none else aeqFs P fs.toList xs ys
    | _, _ => none
  | some d => aeq1 d x y
  | none => none

def strCmp (op : BinOp) (a b : List UInt8) (K : AV → Prop) : Prop :=
  match op with
  | .add => (a.length + b.length < 2 ^ 62) ∧ K (.str (a ++ b))
  | .eql => K (.bool (a == b))
  | .neq => K (.bool (!(a == b)))
  | .lss => K (.bool (Op.bytesLess a b))
  | .leq => K (.bool (Op.bytesLess a b || a == b))
  | .gtr => K (.bool (!(Op.bytesLess a b || a == b)))
  | .geq => K (.bool (!Op.bytesLess a b))
  | _ => False

def bits2 (k : IntKind) (f : BitVec k.bits → BitVec k.bits → BitVec k.bits) (a b : Int) : Int :=
  k.wrap (f (BitVec.ofInt k.bits a) (BitVec.ofInt k.bits b)).toNat

def intBin (op : BinOp) (k : IntKind) (a b : Int) (K : AV → Prop) : Prop :=
  match op with
  | .add => K (.int k (k.wrap (a + b)))
  | .sub => K (.int k (k.wrap (a - b)))
  | .mul => K (.int k (k.wrap (a * b)))
  | .quo => b ≠ 0 ∧ K (.int k (k.wrap (a.tdiv b)))
  | .rem => b ≠ 0 ∧ K (.int k (a.tmod b))
  | .and => K (.int k (bits2 k (· &&& ·) a b))
  | .or => K (.int k (bits2 k (· ||| ·) a b))
  | .xor => K (.int k (bits2 k (· ^^^ ·) a b))
  | .andNot => K (.int k (bits2 k (fun x y => x &&& ~~~y) a b))
  | .eql => K (.bool (decide (a = b)))
  | .neq => K (.bool (!decide (a = b)))
  | .lss => K (.bool (decide (a < b)))
  | .leq => K (.bool (decide (a ≤ b)))
  | .gtr => K (.bool (decide (b < a)))
  | .geq => K (.bool (decide (b ≤ a)))
  | _ => False

def shiftBin (op : BinOp) (k : IntKind) (a b : Int) (K : AV → Prop) : Prop :=
  match op with
  | .shl => 0 ≤ b ∧ K (.int k (k.wrap (a * 2 ^ (min b.toNat k.bits))))
  | .shr => 0 ≤ b ∧ K (.int k (a.fdiv (2 ^ (min b.toNat k.bits))))
  | _ => False

def abin (P : Program) (op : BinOp) (t : TypeId) (x y : AV) (K : AV → Prop) : Prop :=
  match x, y with
  | .int k a, .int k' b => match op with
    | .shl | .shr => shiftBin op k a b K
    | _ => k = k' ∧ intBin op k a b K
  | .str a, .str b => strCmp op a b K
  | x, y => match op with
    | .eql => ∃ r, aeq P t x y = some r ∧ K (.bool r)
    | .neq => ∃ r, aeq P t x y = some r ∧ K (.bool (!r))
    | _ => False

def aun (op : UnOp) (x : AV) (K : AV → Prop) : Prop :=
  match op, x with
  | .not, .bool b => K (.bool (!b))
  | .neg, .int k n => K (.int k (k.wrap (-n)))
  | _, _ => False

def aconv (P : Program) (src dst : TypeId) (x : AV) (K : AV → Prop) : Prop :=
  match x with
  | .int _ n => ∃ k, intOf? P dst = some k ∧ (P.underlying src).isSome ∧ K (.int k (k.wrap n))
  | .str s => isStr P dst = true ∧ (P.underlying src).isSome ∧ K (.str s)
  | _ => False

def optInt (a : Operand → AV) (d : Int) : Option Operand → Option Int
  | none => some d
  | some x => match a x with
    | .int _ n => some n
    | _ => none

/-- the same memory, full or not -/
def cut (φ : Own) (full : Bool) : Own :=
  match φ with
  | .stat _ => .stat full
  | .fam f _ => .fam f full

/-- x[lo:hi:mx] of something of a length -/
def bounds (a : Operand → AV) (len : Nat) (lo hi mx : Option Operand) (K : Nat → Nat → Nat → Prop) : Prop :=
  ∃ l h m : Int, optInt a 0 lo = some l ∧ optInt a len hi = some h ∧ optInt a len mx = some m ∧ 0 ≤ l ∧ l ≤ h ∧ h ≤ m ∧ m ≤ len ∧ (mx.isSome → hi.isSome) ∧ K l.toNat h.toNat m.toNat

def aslice (P : Program) (a : Operand → AV) (t : TypeId) (x : AV) (lo hi mx : Option Operand) (K : AV → Prop) : Prop :=
  match x with
  | .str s => isStr P t = true ∧ mx = none ∧ bounds a s.length lo hi none fun l h _ => K (.str ((s.take h).drop l))
  | .nilsl => (elOf P t).isSome = true ∧ bounds a 0 lo hi mx fun _ _ _ => K .nilsl
  | .sl φ sz xs => elOf P t = some sz ∧ bounds a xs.length lo hi mx fun l h m => K (.sl (cut φ (if mx.isSome then decide (m = h) else φ.full && decide (h = xs.length))) sz ((xs.take h).drop l))
  | .slm o off sz len => elOf P t = some sz ∧ mx = none ∧ bounds a len lo hi none fun l h _ => (l < len ∨ l = 0) ∧ K (.slm o (off + l * sz) sz (h - l))
  | _ => False

/-- a part that is a variable of its own -/
def fits (g : Bool) (n : Nat) (v : AV) : Prop := if g then v.cells.length = n else v.cells = [v]

def aindexAddr (P : Program) (t : TypeId) (x i : AV) (K : AV → Prop) : Prop :=
  match x, i with
  | .sl φ sz xs, .int _ n => elOf P t = some sz ∧ 0 ≤ n ∧ ∃ v, xs[n.toNat]? = some v ∧ K (.pv φ v)
  | .slm o off sz len, .int _ n => elOf P t = some sz ∧ 0 ≤ n ∧ n < len ∧ K (.ptr o (off + n.toNat * sz))
  | .ptr o off, .int _ n => ∃ l s g, arOf P t = some (l, s, g) ∧ 0 ≤ n ∧ n < (l : Nat) ∧ K (.ptr o (off + n.toNat * s))
  | .pv φ (.agg cs), .int _ n => ∃ l s g, arOf P t = some (l, s, g) ∧ 0 ≤ n ∧ n < (l : Nat) ∧ partOf g s (n.toNat * s) cs fun v => fits g s v ∧ K (.pv φ v)
  | _, _ => False

def aindex (P : Program) (t : TypeId) (x i : AV) (K : AV → Prop) : Prop :=
  match x, i with
  | .str s, .int _ n => isStr P t = true ∧ 0 ≤ n ∧ ∃ b, s[n.toNat]? = some b ∧ K (.int .u8 b.toNat)
  | .agg cs, .int _ n => ∃ l s g, arOf P t = some (l, s, g) ∧ 0 ≤ n ∧ n < (l : Nat) ∧ partOf g s (n.toNat * s) cs K
  | _, _ => False

def afieldAddr (P : Program) (t : TypeId) (x : AV) (f : Nat) (K : AV → Prop) : Prop :=
  match x with
  | .ptr o off => ∃ i, fiOf P t f = some i ∧ K (.ptr o (off + i.off))
  | .pv φ (.agg cs) => ∃ i, fiOf P t f = some i ∧ partOf i.agg i.size i.off cs fun v => fits i.agg i.size v ∧ K (.pv φ v)
  | _ => False

def afield (P : Program) (t : TypeId) (x : AV) (f : Nat) (K : AV → Prop) : Prop :=
  match x with
  | .agg cs => ∃ i, fiOf P t f = some i ∧ partOf i.agg i.size i.off cs K
  | _ => False

/-- cells written over from a place on -/
def splice (cs : List AV) (off : Nat) (vs : List AV) : List AV := cs.take off ++ vs ++ cs.drop (off + vs.length)

def fillS (P : Program) (t : TypeId) (a : Operand → AV) : List (Nat × Operand) → List AV → (List AV → Prop) → Prop
  | [], cs, K => K cs
  | (i, x) :: rest, cs, K => ∃ f, fiOf P t i = some f ∧ (a x).known = true ∧ (a x).cells.length = f.size ∧ f.off + f.size ≤ cs.length ∧ fillS P t a rest (splice cs f.off (a x).cells) K

def fillA (n sz : Nat) (a : Operand → AV) : List (Nat × Operand) → List AV → (List AV → Prop) → Prop
  | [], cs, K => K cs
  | (i, x) :: rest, cs, K => i < n ∧ (a x).known = true ∧ (a x).cells.length = sz ∧ fillA n sz a rest (cs.set i (a x)) K

def isStruct (P : Program) (t : TypeId) : Bool :=
  match P.underlying t with
  | some (.struct _) => true
  | _ => false

/-- have all fields of a struct a size? -/
def sized (P : Program) (t : TypeId) : Bool :=
  match P.underlying t with
  | some (.struct fs) => fs.toList.all fun f => (szOf P f.type).isSome
  | _ => false

def abuild (P : Program) (t : TypeId) (a : Operand → AV) (parts : List (Nat × Operand)) (K : AV → Prop) : Prop :=
  (isStruct P t = true ∧ sized P t = true) ∧ ∃ z, zeroOf P t = some z ∧ z.known = true ∧ fillS P t a parts z.cells fun cs => K (.agg cs)

def abuildSlice (P : Program) (t : TypeId) (n : Nat) (a : Operand → AV) (parts : List (Nat × Operand)) (K : AV → Prop) : Prop :=
  ∃ sz z, elOf P t = some sz ∧ elZero P t = some z ∧ z.known = true ∧ z.cells.length = sz ∧ 0 < sz ∧ n * sz ≤ 2 ^ 24 ∧ fillA n sz a parts (List.replicate n z) fun xs => K (.sl (.stat true) sz xs)

def alen (P : Program) (t : TypeId) (x : AV) (K : AV → Prop) : Prop :=
  match x with
  | .str s => isStr P t = true ∧ K (.int .i64 s.length)
  | .nilsl => (elOf P t).isSome = true ∧ K (.int .i64 0)
  | .sl _ _ xs => (elOf P t).isSome = true ∧ K (.int .i64 xs.length)
  | .slm _ _ _ len => (elOf P t).isSome = true ∧ K (.int .i64 len)
  | _ => False

def acap (P : Program) (t : TypeId) (x : AV) (K : AV → Prop) : Prop :=
  match x with
  | .nilsl => (elOf P t).isSome = true ∧ K (.int .i64 0)
  | .sl φ _ xs => (elOf P t).isSome = true ∧ φ.full = true ∧ K (.int .i64 xs.length)
  | _ => False

def isIface (P : Program) (t : TypeId) : Option Bool :=
  match P.underlying t with
  | some (.interface _) => some true
  | some _ => some false
  | none => none

/-- the operations that leave the state alone, and do not look at it -/
def apure (P : Program) (a : Operand → AV) : Op → (AV → Prop) → Prop
  | .move x, K | .assign x, K => K (a x)
  | .pick c x y, K => ∃ b, a c = .bool b ∧ K (if b then a x else a y)
  | .nilCheck x, K => match a x with
    | .ptr _ _ | .pv _ _ | .fn (.func _) _ _ => K (a x)
    | _ => False
  | .binOp op t x y _, K => abin P op t (a x) (a y) K
  | .unOp op _ x, K => aun op (a x) K
  | .convert s d x, K => aconv P s d (a x) K
  | .makeInterface t x, K => isIface P t = some false ∧ K (.iface t (a x))
  | .typeAssert x _ t ok, K => match a x with
    | .iface u v => isIface P t = some false ∧ u = t ∧ K (if ok then .tuple [v, .bool true] else v)
    | _ => False
  | .makeFunc f first cap, K => K (.fn f (first.toList.map a) (cap.toList.map a))
  | .slice t x lo hi mx, K => aslice P a t (a x) lo hi mx K
  | .fieldAddr t x f, K => afieldAddr P t (a x) f K
  | .field t x f, K => afield P t (a x) f K
  | .indexAddr t x i, K => aindexAddr P t (a x) (a i) K
  | .index t x i, K => aindex P t (a x) (a i) K
  | .extract x i, K => match a x with
    | .tuple vs => ∃ v, vs[i]? = some v ∧ K v
    | _ => False
  | .build t parts, K => abuild P t a parts.toList K
  | .buildSlice t n parts, K => abuildSlice P t n a parts.toList K
  | .call c, K => match c.callee with
    | .builtin .len => match c.argTypes.toList, c.args.toList with
      | [t], [x] => alen P t (a x) K
      | _, _ => False
    | .builtin .cap => match c.argTypes.toList, c.args.toList with
      | [t], [x] => acap P t (a x) K
      | _, _ => False
    | .builtin .min => match c.args.toList with
      | [x, y] => match a x, a y with
        | .int k m, .int k' n => k = k' ∧ K (.int k (min m n))
        | _, _ => False
      | _ => False
    | .builtin .max => match c.args.toList with
      | [x, y] => match a x, a y with
        | .int k m, .int k' n => k = k' ∧ K (.int k (max m n))
        | _, _ => False
      | _ => False
    | _ => False
  | _, _ => False

/-- is it one of these? -/
def isPure : Op → Bool
  | .move _ | .assign _ | .pick .. | .nilCheck _ | .binOp .. | .unOp .. | .makeInterface .. | .typeAssert .. | .makeFunc .. | .slice .. | .fieldAddr .. | .field ..
  | .indexAddr .. | .index .. | .extract .. | .build .. | .buildSlice .. => true
  | .call c => match c.callee with
    | .builtin .len | .builtin .cap | .builtin .min | .builtin .max => true
    | _ => false
  | _ => false

end Go.Abs
