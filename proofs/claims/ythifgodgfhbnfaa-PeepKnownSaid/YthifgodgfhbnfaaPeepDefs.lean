/- Part of the proofs of layer 22's statements: PeepDefs (what peep's functions do, in lists of instructions, under the conditions that each theorem names). -/
import Derived.Test.YthifgodgfhbnfaaGen
set_option linter.unusedSimpArgs false
set_option linter.unusedVariables false
namespace Go.Proofs.Ythifgodgfhbnfaa
open Go Go.Abs
structure W where
  op : Int
  ty : Int
  n : Int
  body : Int
  other : Int
  name : List UInt8
deriving DecidableEq
def W.cs (w : W) : List AV := [.int .i64 w.op, .int .i64 w.ty, .int .i64 w.n, .int .i64 w.body, .int .i64 w.other, .str w.name]
def W.av (w : W) : AV := .agg w.cs
abbrev To := List (List W)
/-- what the compiled list-maker gives: where the list lies, and all that was made -/
abbrev Rec := Int → To → Option (Int × To)

def leavesW (w : W) : Bool := w.op == 14 || w.op == 16 || w.op == 17
def plists (rec : Rec) (w : W) (to : To) : Option (W × To) :=
  if w.op = 13 then
    match rec w.body to with
    | none => none
    | some (b, to1) =>
      if 0 ≤ w.other then
        match rec w.other to1 with
        | none => none
        | some (o, to2) => some ({ w with body := b, other := o }, to2)
      else some ({ w with body := b }, to1)
  else if w.op = 11 ∨ w.op = 12 then
    match rec w.body to with
    | none => none
    | some (b, to1) => some ({ w with body := b }, to1)
  else some (w, to)
def pchosen (rec : Rec) (n : Int) (w : W) (to : To) : Option (List W × To) :=
  let at_ := if n = 0 then w.other else w.body
  if at_ < 0 then some ([], to) else
    match rec at_ to with
    | none => none
    | some (b, to1) => some ([⟨11, 0, 0, b, 0, []⟩], to1)
def ptogether (rec : Rec) (a b : W) (to : To) : Option (List W × Bool × To) :=
  let number := decide (a.op = 1) && decide (a.ty = 1)
  if (a.op = 1 ∨ a.op = 2) ∧ b.op = 18 then some ([], true, to)
  else if a.op = 1 ∧ b.op = 5 then some ([⟨1, 1, if a.n = 0 then 1 else 0, 0, 0, []⟩], decide (a.ty = b.ty), to)
  else if a.op = 1 ∧ b.op = 15 then
    if a.n = 0 then some ([], number, to) else some ([⟨14, 0, b.n, 0, 0, []⟩], number, to)
  else if a.op = 1 ∧ b.op = 13 then
    if number then
      match pchosen rec a.n b to with
      | none => none
      | some (l, to1) => some (l, true, to1)
    else some ([], false, to)
  else some ([], false, to)
def ploop (rec : Rec) : List W → List W → To → Option (List W × To)
  | [], l, to => some (l, to)
  | w :: ws, l, to =>
    match l.getLast? with
    | none =>
      match plists rec w to with
      | none => none
      | some (w', to2) => ploop rec ws (l ++ [w']) to2
    | some p =>
      if leavesW p then some (l, to) else
      match ptogether rec p w to with
      | none => none
      | some (two, is, to1) =>
        if is then ploop rec ws (l.dropLast ++ two) to1
        else match plists rec w to1 with
          | none => none
          | some (w', to2) => ploop rec ws (l ++ [w']) to2
def plist (frm : To) : Nat → Rec
  | 0, _, _ => none
  | k + 1, at_, to =>
    if at_ < 0 then none else
    match frm[at_.toNat]? with
    | none => none
    | some ws => match ploop (plist frm k) ws [] to with
      | none => none
      | some (l, to1) => some (to1.length, to1 ++ [l])

/-! what lies in a state -/
inductive All2 {α β : Type} (R : α → β → Prop) : List α → List β → Prop
  | nil : All2 R [] []
  | cons {x y xs ys} (h : R x y) (r : All2 R xs ys) : All2 R (x :: xs) (y :: ys)

def RepL (v : AV) (l : List W) : Prop := (l = [] ∧ v = .nilsl) ∨ ∃ b, v = .sl (.stat b) 6 (l.map W.av)
/-- the maker's own list of lists -/
def ToV (σ : AS) (v : AV) (to : To) : Prop :=
  (to = [] ∧ v = .nilsl) ∨ ∃ g tos, v = .sl (.fam g false) 1 tos ∧ g < σ.nf ∧ σ.F g = .alive ∧ All2 RepL tos to
/-- what it reads -/
def FromV (v : AV) (frm : To) : Prop := ∃ b rows, v = .sl (.stat b) 1 rows ∧ All2 RepL rows frm
def famOf : AV → Option Nat
  | .sl (.fam g _) _ _ => some g
  | _ => none
/-- the maker x in a state -/
def Maker (σ : AS) (x : Nat) (fv : AV) (to : To) : Prop := x < σ.no ∧ ∃ tv, σ.objs x = some [fv, tv] ∧ ToV σ tv to
/-- the family that the maker may end -/
def Uses (σ : AS) (x f : Nat) : Prop := ∃ fv tv, σ.objs x = some [fv, tv] ∧ famOf tv = some f
structure Keep (x : Nat) (σ σ' : AS) : Prop where
  no : σ.no ≤ σ'.no
  nf : σ.nf ≤ σ'.nf
  obj : ∀ o, o < σ.no → o ≠ x → σ'.objs o = σ.objs o
  fam : ∀ f, f < σ.nf → ¬ Uses σ x f → σ'.F f = σ.F f
  use : ∀ f, f < σ.nf → Uses σ' x f → Uses σ x f
theorem Keep.refl (x σ) : Keep x σ σ := ⟨Nat.le_refl _, Nat.le_refl _, fun _ _ _ => rfl, fun _ _ _ => rfl, fun _ _ h => h⟩
theorem Keep.trans {x σ σ1 σ2} (h : Keep x σ σ1) (h' : Keep x σ1 σ2) : Keep x σ σ2 where
  no := Nat.le_trans h.no h'.no
  nf := Nat.le_trans h.nf h'.nf
  obj o a b := by rw [h'.obj o (Nat.lt_of_lt_of_le a h.no) b, h.obj o a b]
  fam f a b := by rw [h'.fam f (Nat.lt_of_lt_of_le a h.nf) fun u => b (h.use f a u), h.fam f a b]
  use f a u := h.use f a (h'.use f (Nat.lt_of_lt_of_le a h.nf) u)
/-- new objects alone -/
theorem Keep.newO {x σ cs} (hx : x < σ.no) : Keep x σ (σ.newO cs) := by
  have h0 : (σ.newO cs).objs x = σ.objs x := by simp; omega
  exact ⟨by simp, by simp, fun o h1 h2 => by simp; omega, fun _ _ _ => rfl, fun f _ h => by unfold Uses at *; rwa [h0] at h⟩
theorem Maker.mono_newO {σ x fv to cs} (h : Maker σ x fv to) : Maker (σ.newO cs) x fv to := by
  obtain ⟨h1, tv, h2, h3⟩ := h
  exact ⟨by simp; omega, tv, by simp; rw [if_neg (by omega)]; exact h2, h3⟩
end Go.Proofs.Ythifgodgfhbnfaa
