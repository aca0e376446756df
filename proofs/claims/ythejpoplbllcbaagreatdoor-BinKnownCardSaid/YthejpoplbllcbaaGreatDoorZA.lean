/- Parts of the proof of the row BinKnown: contracts of functions, each under the conditions that its theorem names. -/
import Derived.Test.YthejpoplbllcbaaGreatDoorAbsB
import Derived.Lib.IndexMore
import Derived.Test.YthejpoplbllcbaaGreatDoorGenP
set_option linter.unusedSimpArgs false
set_option linter.unusedVariables false
set_option linter.unusedSimpArgs false
set_option linter.unusedVariables false
namespace Go.Proofs.YthejpoplbllcbaaGreatDoor
open Go Go.Abs
structure W where
 op : Int
 ty : Int
 n : Int
 body : Int
 other : Int
 name : List UInt8
deriving DecidableEq
abbrev To := List (List W)
structure F where
 name : List UInt8
 params : List Int
 locals : List Int
 type : Int
 lists : To
structure M where
 funcs : List F
 memory : Int
 main : Int
structure St where
 stack : List Int
 any : Bool
abbrev Res := Except Int
def giveS (s : St) (t : Int) : St := if t = 0 then s else { s with stack := s.stack ++ [t] }
def gives (r : Res St) (t : Int) : Res St := match r with
 | .ok s=>.ok (giveS s t)
 | .error e=>.error e
end Go.Proofs.YthejpoplbllcbaaGreatDoor
set_option linter.unusedSimpArgs false
set_option linter.unusedVariables false
namespace Go.Proofs.YthejpoplbllcbaaGreatDoor
open Go Go.Abs
def sumTo (f : Nat → Nat) : Nat → Nat
 | 0=>0
 | k + 1=>sumTo f k + f k
def rt (T : Nat → Nat) (named : List Bool) (i : Nat) : Nat := if named.getD i true then 0 else T i
def sumL (l : List Int) (T : Nat → Nat) : Nat := (l.map fun n => T n.toNat).sum
structure Named (T : Nat → Nat) (k : Nat) (named named' : List Bool) (ns : List Int) : Prop where
 inside : ∀ n ∈ ns,0 ≤ n ∧ n < (k : Int)
 sum : sumTo (rt T named') k + sumL ns T = sumTo (rt T named) k
 rest : ∀ i,k ≤ i → named'.getD i true = named.getD i true
 len : named'.length = named.length
end Go.Proofs.YthejpoplbllcbaaGreatDoor
set_option linter.unusedSimpArgs false
set_option linter.unusedVariables false
namespace Go.Proofs.YthejpoplbllcbaaGreatDoor
open Go Go.Abs
end Go.Proofs.YthejpoplbllcbaaGreatDoor
set_option linter.unusedSimpArgs false
set_option linter.unusedVariables false
namespace Go.Proofs.YthejpoplbllcbaaGreatDoor
open Go Go.Abs
end Go.Proofs.YthejpoplbllcbaaGreatDoor
set_option linter.unusedSimpArgs false
set_option linter.unusedVariables false
namespace Go.Proofs.YthejpoplbllcbaaGreatDoor
open Go Go.Abs
def W.cs (w : W) : List AV := [.int .i64 w.op,.int .i64 w.ty,.int .i64 w.n,.int .i64 w.body,.int .i64 w.other,.str w.name]
def W.av (w : W) : AV := .agg w.cs
inductive All2 {α β : Type} (R : α → β → Prop) : List α → List β → Prop
 | nil : All2 R [] []
 | cons {x y xs ys} (h : R x y) (r : All2 R xs ys) : All2 R (x :: xs) (y :: ys)
def famOf : AV → Option Nat
 | .sl (.fam g _) _ _=>some g
 | _=>none
def Uses (σ : AS) (x f : Nat) : Prop := ∃ fv tv,σ.objs x = some [fv,tv] ∧ famOf tv = some f
structure Keep (x : Nat) (σ σ' : AS) : Prop where
 no : σ.no ≤ σ'.no
 nf : σ.nf ≤ σ'.nf
 obj : ∀ o,o < σ.no → o ≠ x → σ'.objs o = σ.objs o
 fam : ∀ f,f < σ.nf → ¬ Uses σ x f → σ'.F f = σ.F f
 use : ∀ f,f < σ.nf → Uses σ' x f → Uses σ x f
end Go.Proofs.YthejpoplbllcbaaGreatDoor
set_option linter.unusedSimpArgs false
set_option linter.unusedVariables false
namespace Go.Proofs.YthejpoplbllcbaaGreatDoor
open Go Go.Abs
end Go.Proofs.YthejpoplbllcbaaGreatDoor
set_option linter.unusedSimpArgs false
set_option linter.unusedVariables false
namespace Go.Proofs.YthejpoplbllcbaaGreatDoor
open Go Go.Abs
end Go.Proofs.YthejpoplbllcbaaGreatDoor
set_option linter.unusedSimpArgs false
set_option linter.unusedVariables false
namespace Go.Proofs.YthejpoplbllcbaaGreatDoor
open Go Go.Abs
theorem All2.length {α β : Type} {R : α → β → Prop} {xs ys} (h : All2 R xs ys) : xs.length = ys.length := by
 induction h <;> simp_all
theorem All2.get {α β : Type} {R : α → β → Prop} {xs ys} (h : All2 R xs ys) {i : Nat} {y} (hy : ys[i]? = some y) : ∃ x,xs[i]? = some x ∧ R x y := by
 induction h generalizing i with
 | nil=>simp at hy
 | cons h r ih =>
  cases i with
  | zero=>simp at hy; subst hy; exact ⟨_,by simp,h⟩
  | succ i=>simp at hy; simpa using ih hy
theorem All2.append {α β : Type} {R : α → β → Prop} {xs ys xs' ys'} (h : All2 R xs ys) (h' : All2 R xs' ys') : All2 R (xs ++ xs') (ys ++ ys') := by
 induction h with
 | nil=>exact h'
 | cons h r ih=>exact .cons h ih
end Go.Proofs.YthejpoplbllcbaaGreatDoor
set_option linter.unusedSimpArgs false
set_option linter.unusedVariables false
namespace Go.Proofs.YthejpoplbllcbaaGreatDoor
open Go Go.Abs
end Go.Proofs.YthejpoplbllcbaaGreatDoor
set_option linter.unusedSimpArgs false
set_option linter.unusedVariables false
namespace Go.Proofs.YthejpoplbllcbaaGreatDoor
open Go Go.Abs
end Go.Proofs.YthejpoplbllcbaaGreatDoor
set_option linter.unusedSimpArgs false
set_option linter.unusedVariables false
namespace Go.Proofs.YthejpoplbllcbaaGreatDoor
open Go Go.Abs
structure Adds (σ σ' : AS) : Prop where
 no : σ.no ≤ σ'.no
 nf : σ.nf ≤ σ'.nf
 obj : ∀ o,o < σ.no → σ'.objs o = σ.objs o
 fam : ∀ f,f < σ.nf → σ'.F f = σ.F f
theorem Adds.refl (σ) : Adds σ σ := ⟨Nat.le_refl _,Nat.le_refl _,fun _ _ => rfl,fun _ _ => rfl⟩
theorem Adds.trans {σ σ1 σ2} (h : Adds σ σ1) (h' : Adds σ1 σ2) : Adds σ σ2 where
 no:=Nat.le_trans h.no h'.no
 nf:=Nat.le_trans h.nf h'.nf
 obj o a:=by rw [h'.obj o (Nat.lt_of_lt_of_le a h.no),h.obj o a]
 fam f a:=by rw [h'.fam f (Nat.lt_of_lt_of_le a h.nf),h.fam f a]
theorem Adds.newO {σ σ' cs} (h : Adds σ σ') : Adds σ (σ'.newO cs) where
 no:=Nat.le_trans h.no (by simp)
 nf:=h.nf
 obj o a:=by have:=h.no; simp; rw [if_neg (by omega)]; exact h.obj o a
 fam:=h.fam
theorem Adds.setO {σ σ' o cs} (h : Adds σ σ') (ho : σ.no ≤ o) : Adds σ (σ'.setO o cs) where
 no:=h.no
 nf:=h.nf
 obj p a:=by simp; rw [if_neg (by omega)]; exact h.obj p a
 fam:=h.fam
theorem Adds.newF {σ σ'} (h : Adds σ σ') : Adds σ σ'.newF where
 no:=h.no
 nf:=Nat.le_trans h.nf (by simp)
 obj:=h.obj
 fam f a:=by have:=h.nf; simp; rw [if_neg (by omega)]; exact h.fam f a
theorem Adds.setF {σ σ' f s} (h : Adds σ σ') (hf : σ.nf ≤ f) : Adds σ (σ'.setF f s) where
 no:=h.no
 nf:=h.nf
 obj:=h.obj
 fam g a:=by simp; rw [if_neg (by omega)]; exact h.fam g a
end Go.Proofs.YthejpoplbllcbaaGreatDoor
set_option linter.unusedSimpArgs false
set_option linter.unusedVariables false
namespace Go.Proofs.YthejpoplbllcbaaGreatDoor
open Go Go.Abs
end Go.Proofs.YthejpoplbllcbaaGreatDoor
set_option linter.unusedSimpArgs false
set_option linter.unusedVariables false
namespace Go.Proofs.YthejpoplbllcbaaGreatDoor
open Go Go.Abs
end Go.Proofs.YthejpoplbllcbaaGreatDoor
set_option linter.unusedSimpArgs false
set_option linter.unusedVariables false
namespace Go.Proofs.YthejpoplbllcbaaGreatDoor
open Go Go.Abs
def MU (r n : Nat) (a : Nat → AV) (_ : AS) : Nat := match a r with | .int _ i => n - i.toNat | _ => 0
end Go.Proofs.YthejpoplbllcbaaGreatDoor
set_option linter.unusedSimpArgs false
set_option linter.unusedVariables false
namespace Go.Proofs.YthejpoplbllcbaaGreatDoor
open Go Go.Abs
theorem Adds.mk1 {σ : AS} {c1 c2} : Adds σ ((σ.newO c1).setO σ.no c2) := ((Adds.refl σ).newO).setO (Nat.le_refl _)
def SlW (σ : AS) (v : AV) (l : List W) : Prop := (l = [] ∧ v = .nilsl) ∨ ∃ φ,v = .sl φ 6 (l.map W.av) ∧ Readable σ.F φ
theorem aeqW (w u : W) : aeq Tryz.prog 73 (.agg [.int .i64 w.op,.int .i64 w.ty,.int .i64 w.n,.int .i64 w.body,.int .i64 w.other,.str w.name]) (.agg [.int .i64 u.op,.int .i64 u.ty,.int .i64 u.n,.int .i64 u.body,.int .i64 u.other,.str u.name]) = some (decide (w = u)) := by
 simp [aeq,aeqFs]
 have key : (w = u) ↔ (w.op = u.op ∧ w.ty = u.ty ∧ w.n = u.n ∧ w.body = u.body ∧ w.other = u.other ∧ w.name = u.name):=by
  constructor
  ·rintro rfl; simp
  ·rintro ⟨h1,h2,h3,h4,h5,h6⟩
   cases w; cases u; simp_all
 by_cases h1 : w.op = u.op <;> by_cases h2 : w.ty = u.ty <;> by_cases h3 : w.n = u.n <;> by_cases h4 : w.body = u.body <;> by_cases h5 : w.other = u.other <;> by_cases h6 : w.name = u.name <;> simp [key,h1,h2,h3,h4,h5,h6]
def SI (va vb : AV) (a b : List W) (σ : AS) (f : Nat → AV) (τ : AS) : Prop := ∃ i : Nat,i ≤ a.length ∧ f 0 = va ∧ f 1 = vb ∧ f 5 = .int .i64 (i : Int) ∧ a.take i = b.take i ∧ τ = σ
def SM (a : List W) (f : Nat → AV) (_ : AS) : Nat := match f 5 with
 | .int _ n=>a.length - n.toNat
 | _=>0
theorem same_calls {G : Env} {va vb : AV} {a b : List W} {σ : AS} {R : Out → AS → Prop} (ha : SlW σ va a) (hb : SlW σ vb b) (hl : a.length ≤ 2 ^ 30) (h : R (.ret (.bool (decide (a = b)))) σ) : ACalls Tryz.prog G 120 [va,vb] σ R := by
 refine calls120 rfl ?_
 by_cases hab : a.length = b.length
 ·have loop : ∀ f,f 0 = va → f 1 = vb → f 5 = .int .i64 0 → ALoop Tryz.prog G 27 pc120_l1 (ablock 0 (athen (avc Tryz.prog G 27 pc120_r1 (afin Tryz.prog [.tmp 4] R)) (afin Tryz.prog [.tmp 4] R))) f σ:=by
   intro f f0 f1 f5
   refine aloop (SI va vb a b σ) (SM a) ⟨0,Nat.zero_le _,f0,f1,by simpa using f5,by simp,rfl⟩ fun f τ ⟨i,hi,f0,f1,f5,ht,hτ⟩=>?_
   subst hτ
   have hmu : SM a f τ = a.length - i:=by simp [SM,f5]
   by_cases hlt : i < a.length
   ·have hltb : i < b.length:=by omega
    obtain ⟨φ,rfl,hφ⟩ : ∃ φ,va = .sl φ 6 (a.map W.av) ∧ Readable τ.F φ:=by
     rcases ha with ⟨rfl,_⟩ | ha
     ·simp at hlt
     ·exact ha
    obtain ⟨ψ,rfl,hψ⟩ : ∃ φ,vb = .sl φ 6 (b.map W.av) ∧ Readable τ.F φ:=by
     rcases hb with ⟨rfl,_⟩ | hb
     ·simp at hltb
     ·exact hb
    have hw2 : IntKind.wrap .i64 ((i : Int) + 1) = (i : Int) + 1:=by rw [wrap_i64] <;> omega
    have ea : a.take (i + 1) = a.take i ++ [a[i]]:=by simp
    have eb : b.take (i + 1) = b.take i ++ [b[i]]:=by simp
    by_cases hw : a[i] = b[i]
    ·simp [pc120_l1,f0,f1,f5,hlt,hltb,W.av,W.cs,hφ,hψ,aeqW,hw,hw2]
     refine ⟨⟨i + 1,hlt,by simp [f0,W.av,W.cs],by simp [f1,W.av,W.cs],by simp,by rw [ea,eb,ht,hw],rfl⟩,?_⟩
     rw [hmu]
     have : ((i : Int) + 1).toNat = i + 1:=by omega
     simp [SM,this]; omega
    ·have hne : ¬ a = b:=fun e=>hw (by subst e; rfl)
     simp [hne] at h
     simp [pc120_l1,f0,f1,f5,hlt,hltb,W.av,W.cs,hφ,hψ,aeqW,hw,hw2,h]
   ·have he : i = a.length:=by omega
    subst he
    have e : a = b:=by rw [List.take_length,hab,List.take_length] at ht; exact ht
    have hla : a.length = b.length:=hab
    simp [e] at h
    rcases ha with ⟨rfl,rfl⟩ | ⟨φ,rfl,hφ⟩
    ·simp [pc120_l1,pc120_r1,f0,f1,f5,h]
    ·simp [pc120_l1,pc120_r1,f0,f1,f5,h]
  rcases ha with ⟨rfl,rfl⟩ | ⟨φ,rfl,hφ⟩ <;> rcases hb with ⟨rfl,rfl⟩ | ⟨ψ,rfl,hψ⟩
  ·simp [pc120]
   refine loop _ ?_ ?_ ?_ <;> simp
  ·simp at hab
   simp [pc120,← hab]
   refine loop _ ?_ ?_ ?_ <;> simp
  ·simp at hab
   subst hab
   simp [pc120]
   refine loop _ ?_ ?_ ?_ <;> simp
  ·simp [pc120,hab]
   refine loop _ ?_ ?_ ?_ <;> simp
 ·have hne : ¬ a = b:=fun e=>hab (by rw [e])
  have hi : ¬ (a.length : Int) = b.length:=by omega
  simp [hne] at h
  rcases ha with ⟨rfl,rfl⟩ | ⟨φ,rfl,hφ⟩ <;> rcases hb with ⟨rfl,rfl⟩ | ⟨ψ,rfl,hψ⟩
  ·simp at hab
  ·simp at hab
   have hi' : ¬ (0 : Int) = b.length:=by simpa using hi
   simp [pc120,hi',h]
  ·simp at hab
   have hi' : ¬ (a.length : Int) = 0:=by simpa using hi
   simp [pc120,hab,h]
  ·simp [pc120,hi,h]
end Go.Proofs.YthejpoplbllcbaaGreatDoor
set_option linter.unusedSimpArgs false
set_option linter.unusedVariables false
namespace Go.Proofs.YthejpoplbllcbaaGreatDoor
open Go Go.Abs
def OutG (τ : AS) (base sz : Nat) (v : AV) (ys : List AV) : Prop := (ys = [] ∧ v = .nilsl) ∨ ∃ g,v = .sl (.fam g false) sz ys ∧ base ≤ g ∧ g < τ.nf ∧ τ.F g = .alive
theorem OutG.keep {τ τ' : AS} {base sz : Nat} {v : AV} {ys : List AV} (h : OutG τ base sz v ys) (A : Adds τ τ') : OutG τ' base sz v ys := by
 rcases h with h | ⟨g,rfl,h1,h2,h3⟩
 ·exact .inl h
 ·have:=A.nf
  exact .inr ⟨g,rfl,h1,by omega,(A.fam g h2).trans h3⟩
theorem take_snoc {α : Type} {l : List α} {i : Nat} {x : α} (h : l[i]? = some x) : l.take (i + 1) = l.take i ++ [x] := by
 obtain ⟨hi,rfl⟩:=List.getElem?_eq_some_iff.1 h
 exact List.take_succ_eq_append_getElem hi
end Go.Proofs.YthejpoplbllcbaaGreatDoor
set_option linter.unusedSimpArgs false
set_option linter.unusedVariables false
namespace Go.Proofs.YthejpoplbllcbaaGreatDoor.Al
open Go Go.Abs Go.Proofs.YthejpoplbllcbaaGreatDoor
def RepE (v : AV) (l : List W) : Prop := (l = [] ∧ v = .nilsl) ∨ ∃ b,v = .sl (.fam 0 b) 6 (l.map W.av)
end Go.Proofs.YthejpoplbllcbaaGreatDoor.Al
set_option linter.unusedSimpArgs false
set_option linter.unusedVariables false
namespace Go.Proofs.YthejpoplbllcbaaGreatDoor.Al
open Go Go.Abs Go.Proofs.YthejpoplbllcbaaGreatDoor
theorem mrg_W (f : Nat) (w : W) : mrg f w.av = w.av := by simp [W.av,W.cs]
theorem mrg_Ws (f : Nat) (l : List W) : (l.map W.av).map (mrg f) = l.map W.av := by simp [Function.comp_def,mrg_W]
theorem RepE.mrg {v l} (h : RepE v l) {f : Nat} : mrg f v = v := by
 rcases h with ⟨_,rfl⟩ | ⟨b,rfl⟩
 ·simp
 ·rw [mrg_sl_fam,mrg_Ws]; split <;> rfl
theorem mrg_rows {tos tO} (h : All2 RepE tos tO) (f : Nat) : tos.map (mrg f) = tos := by
 induction h with
 | nil=>rfl
 | cons h r ih=>simp [h.mrg,ih]
end Go.Proofs.YthejpoplbllcbaaGreatDoor.Al
set_option linter.unusedSimpArgs false
set_option linter.unusedVariables false
namespace Go.Proofs.YthejpoplbllcbaaGreatDoor.Al
open Go Go.Abs Go.Proofs.YthejpoplbllcbaaGreatDoor
end Go.Proofs.YthejpoplbllcbaaGreatDoor.Al
set_option linter.unusedSimpArgs false
set_option linter.unusedVariables false
namespace Go.Proofs.YthejpoplbllcbaaGreatDoor.Al
open Go Go.Abs Go.Proofs.YthejpoplbllcbaaGreatDoor
def IntsE (v : AV) (l : List Int) : Prop := (l = [] ∧ (v = .nilsl ∨ ∃ b,v = .sl (.stat b) 1 [])) ∨ ∃ b,v = .sl (.fam 0 b) 1 (l.map (.int .i64))
theorem IntsE.one {v l} (h : IntsE v l) : v.known = true ∧ v.one = true ∧ v.cells = [v] := by
 rcases h with ⟨_,rfl | ⟨b,rfl⟩⟩ | ⟨b,rfl⟩ <;> simp
def MrgOr (R : Out → AS → Prop) (o : Out) (σ' : AS) : Prop := R o σ' ∨ ∃ v g p,o = .ret v ∧ 0 < σ'.nf ∧ σ'.F g = .alive ∧ R (.ret (mrg g v)) (σ'.mrg g p)
theorem merging {P : Program} {G : Env} {f : FuncId} {args : List AV} {σ : AS} {R : Out → AS → Prop} (h : ACalls P G f args σ (MrgOr R)) : ACalls P G f args σ R := mergeOr h
theorem MrgOr.merged {R : Out → AS → Prop} {v : AV} {σ' : AS} (g : Nat) (p : Nat → Bool) (hn : 0 < σ'.nf) (h : σ'.F g = .alive) (h2 : R (.ret (mrg g v)) (σ'.mrg g p)) : MrgOr R (.ret v) σ' := .inr ⟨v,g,p,rfl,hn,h,h2⟩
def LstE (g : Nat) (v : AV) (tO : To) : Prop := (tO = [] ∧ v = .nilsl) ∨ ∃ tos,v = .sl (.fam g false) 1 tos ∧ All2 RepE tos tO
theorem LstE.one {g v l} (h : LstE g v l) : v.known = true ∧ v.one = true ∧ v.cells = [v] := by
 rcases h with ⟨_,rfl⟩ | ⟨tos,rfl,_⟩ <;> simp
def FVE (v : AV) (p : F × Nat) : Prop := ∃ pv lv tv,v = .agg [.str p.1.name,pv,lv,.int .i64 p.1.type,tv] ∧ IntsE pv p.1.params ∧ IntsE lv p.1.locals ∧ LstE p.2 tv p.1.lists
structure Gs (τ : AS) (base : Nat) (g : Nat) (gs : List Nat) : Prop where
 nd : gs.Nodup
 each : ∀ x ∈ gs,base ≤ x ∧ x < τ.nf ∧ τ.F x = .alive ∧ x ≠ g
def OutE (τ : AS) (base : Nat) (v : AV) (l : List F) : Prop :=
 (l = [] ∧ v = .nilsl) ∨ ∃ g rows ps,v = .sl (.fam g false) 5 rows ∧ base ≤ g ∧ g < τ.nf ∧ τ.F g = .alive ∧ ps.map Prod.fst = l ∧ All2 FVE rows ps ∧ Gs τ base g (ps.map Prod.snd)
end Go.Proofs.YthejpoplbllcbaaGreatDoor.Al
set_option linter.unusedSimpArgs false
set_option linter.unusedVariables false
namespace Go.Proofs.YthejpoplbllcbaaGreatDoor.Al
open Go Go.Abs Go.Proofs.YthejpoplbllcbaaGreatDoor
def ME (τ : AS) (base : Nat) (v : AV) (m : M) : Prop := ∃ fv,v = .agg [fv,.int .i64 m.memory,.int .i64 m.main] ∧ OutE τ base fv m.funcs
end Go.Proofs.YthejpoplbllcbaaGreatDoor.Al
set_option linter.unusedSimpArgs false
set_option linter.unusedVariables false
namespace Go.Proofs.YthejpoplbllcbaaGreatDoor.Al
open Go Go.Abs Go.Proofs.YthejpoplbllcbaaGreatDoor
structure Spo (S : Nat → Prop) (σ σ' : AS) : Prop where
 no : σ.no ≤ σ'.no
 nf : σ.nf ≤ σ'.nf
 obj : ∀ o,o < σ.no → σ'.objs o = σ.objs o
 fam : ∀ k,k < σ.nf → ¬ S k → σ'.F k = σ.F k
 live : ∀ k,k < σ.nf → σ.F k ≠ .dead → σ'.F k ≠ .dead
theorem Spo.refl (S σ) : Spo S σ σ := ⟨Nat.le_refl _,Nat.le_refl _,fun _ _ => rfl,fun _ _ _ => rfl,fun _ _ h => h⟩
theorem Spo.trans {S σ σ1 σ2} (h : Spo S σ σ1) (k : Spo S σ1 σ2) : Spo S σ σ2 where
 no:=Nat.le_trans h.no k.no
 nf:=Nat.le_trans h.nf k.nf
 obj o a:=by rw [k.obj o (Nat.lt_of_lt_of_le a h.no),h.obj o a]
 fam f a b:=by rw [k.fam f (Nat.lt_of_lt_of_le a h.nf) b,h.fam f a b]
 live f a b:=k.live f (Nat.lt_of_lt_of_le a h.nf) (h.live f a b)
theorem Spo.mono {S T : Nat → Prop} {σ σ'} (h : Spo S σ σ') (hs : ∀ k,S k → T k) : Spo T σ σ' := ⟨h.no,h.nf,h.obj,fun k a b => h.fam k a fun q => b (hs k q),h.live⟩
theorem Spo.adds {S σ σ1 σ2} (h : Spo S σ σ1) (k : Adds σ1 σ2) : Spo S σ σ2 := h.trans ⟨k.no,k.nf,k.obj,fun f a _ => k.fam f a,fun f a b => by rw [k.fam f a]; exact b⟩
theorem Spo.spoil {S : Nat → Prop} {σ σ1} (h : Spo S σ σ1) {g : Nat} (hg : S g) : Spo S σ (σ1.setF g .spoiled) where
 no:=h.no
 nf:=h.nf
 obj:=h.obj
 fam k a b:=by
  have : k ≠ g:=fun e=>b (e ▸ hg)
  simp [this]; exact h.fam k a b
 live k a b:=by
  by_cases e : k = g
  ·subst e; simp
  ·simp [e]; exact h.live k a b
def SpI (v : AV) (n : Nat) (S : Nat → Prop) (σ : AS) (a : Nat → AV) (τ : AS) : Prop := ∃ i : Nat,i ≤ n ∧ a 0 = v ∧ a 2 = .int .i64 (i : Int) ∧ Spo S σ τ
theorem markInts_calls {G : Env} {n : Int} {σ : AS} {R : Out → AS → Prop} (h : ∀ k,R (.ret (.int .i64 k)) σ) : ACalls Tryz.prog G 77 [.int .i64 n] σ R := by
 refine calls77 rfl ?_
 simp [pc77]
 exact h _
theorem markWs_calls {G : Env} {n : Int} {σ : AS} {R : Out → AS → Prop} (h : ∀ (w : W) σ',Adds σ σ' → R (.ret w.av) σ') : ACalls Tryz.prog G 78 [.int .i64 n] σ R := by
 refine calls78 rfl ?_
 simp [pc78,splice]
 exact h ⟨_,0,0,0,0,[]⟩ _ .mk1
theorem markLists_calls {G : Env} {n : Int} {σ : AS} {R : Out → AS → Prop} (h : ∀ v,v.known = true → v.one = true → v.cells = [v] → R (.ret v) σ) : ACalls Tryz.prog G 79 [.int .i64 n] σ R := by
 refine calls79 rfl ?_
 simp [pc79,splice]
 exact h _ (by simp) (by simp) (by simp)
theorem markFs_calls {G : Env} {n : Int} {σ : AS} {R : Out → AS → Prop} (h : ∀ t σ',Adds σ σ' → R (.ret (.agg [.str [],.nilsl,.nilsl,.int .i64 t,.nilsl])) σ') : ACalls Tryz.prog G 80 [.int .i64 n] σ R := by
 refine calls80 rfl ?_
 simp [pc80,splice]
 exact h _ _ .mk1
theorem spoilInts_calls {G : Env} {v : AV} {l : List Int} {σ : AS} {R : Out → AS → Prop} (hv : IntsE v l) (hl : l.length ≤ 2 ^ 40) (h0 : 0 < σ.nf ∧ σ.F 0 ≠ .dead) (h : ∀ σ',Spo (· = 0) σ σ' → R (.ret (.tuple [])) σ') : ACalls Tryz.prog G 36 [v] σ R := by
 refine calls36 rfl ?_
 simp [pc36]
 refine aloop (SpI v l.length (· = 0) σ) (MU 2 (l.length + 1)) ⟨0,by omega,by simp,by simp,.refl _ _⟩ fun a τ hI=>?_
 obtain ⟨i,hi,a0,a2,hS⟩:=hI
 have w1 : IntKind.wrap .i64 ((i : Int) + 1) = ((i + 1 : Nat) : Int):=by rw [wrap_i64] <;> omega
 rcases hv with ⟨rfl,rfl | ⟨b,rfl⟩⟩ | ⟨b,rfl⟩
 ·have : i = 0:=by simpa using hi
  subst this
  simp [pc36_l1,a0,a2]
  exact h _ hS
 ·have : i = 0:=by simpa using hi
  subst this
  simp [pc36_l1,a0,a2]
  exact h _ hS
 ·by_cases hlt : i < l.length
  ·have hlt' : (i : Int) < (l.length : Int):=by omega
   have hd:=hS.live 0 h0.1 h0.2
   simp [pc36_l1,a0,a2,hlt']
   refine markInts_calls fun k=>?_
   simp [a0,a2,hlt,hd,w1]
   refine ⟨⟨i + 1,by omega,by simp [a0],by simp,hS.spoil rfl⟩,?_⟩
   simp only [MU,a2]; simp; omega
  ·have hlt' : ¬ (i : Int) < (l.length : Int):=by omega
   simp [pc36_l1,a0,a2,hlt']
   exact h _ hS
theorem spoilWs_calls {G : Env} {v : AV} {l : List W} {σ : AS} {R : Out → AS → Prop} (hv : RepE v l) (hl : l.length ≤ 2 ^ 40) (h0 : 0 < σ.nf ∧ σ.F 0 ≠ .dead) (h : ∀ σ',Spo (· = 0) σ σ' → R (.ret (.tuple [])) σ') : ACalls Tryz.prog G 37 [v] σ R := by
 refine calls37 rfl ?_
 simp [pc37]
 refine aloop (SpI v l.length (· = 0) σ) (MU 2 (l.length + 1)) ⟨0,by omega,by simp,by simp,.refl _ _⟩ fun a τ hI=>?_
 obtain ⟨i,hi,a0,a2,hS⟩:=hI
 have w1 : IntKind.wrap .i64 ((i : Int) + 1) = ((i + 1 : Nat) : Int):=by rw [wrap_i64] <;> omega
 rcases hv with ⟨rfl,rfl⟩ | ⟨b,rfl⟩
 ·have : i = 0:=by simpa using hi
  subst this
  simp [pc37_l1,a0,a2]
  exact h _ hS
 ·by_cases hlt : i < l.length
  ·have hlt' : (i : Int) < (l.length : Int):=by omega
   simp [pc37_l1,a0,a2,hlt']
   refine markWs_calls fun w σ1 A1=>?_
   have hS1:=hS.adds A1
   have hd:=hS1.live 0 h0.1 h0.2
   simp [W.av,W.cs,a0,a2,hlt,hd,w1]
   refine ⟨⟨i + 1,by omega,by simp [a0,W.av,W.cs],by simp,hS1.spoil rfl⟩,?_⟩
   simp only [MU,a2]; simp; omega
  ·have hlt' : ¬ (i : Int) < (l.length : Int):=by omega
   simp [pc37_l1,a0,a2,hlt']
   exact h _ hS
theorem RepE.one {v l} (h : RepE v l) : v.known = true ∧ v.one = true ∧ v.cells = [v] := by
 rcases h with ⟨_,rfl⟩ | ⟨b,rfl⟩ <;> simp
theorem spoilLists_calls {G : Env} {g : Nat} {v : AV} {l : To} {σ : AS} {R : Out → AS → Prop} (hv : LstE g v l) (hl : l.length ≤ 2 ^ 40) (h0 : l ≠ [] → g < σ.nf ∧ σ.F g ≠ .dead) (h : ∀ σ',Spo (· = g) σ σ' → R (.ret (.tuple [])) σ') : ACalls Tryz.prog G 38 [v] σ R := by
 refine calls38 rfl ?_
 simp [pc38]
 refine aloop (SpI v l.length (· = g) σ) (MU 2 (l.length + 1)) ⟨0,by omega,by simp,by simp,.refl _ _⟩ fun a τ hI=>?_
 obtain ⟨i,hi,a0,a2,hS⟩:=hI
 have w1 : IntKind.wrap .i64 ((i : Int) + 1) = ((i + 1 : Nat) : Int):=by rw [wrap_i64] <;> omega
 rcases hv with ⟨rfl,rfl⟩ | ⟨tos,rfl,ht⟩
 ·have : i = 0:=by simpa using hi
  subst this
  simp [pc38_l1,a0,a2]
  exact h _ hS
 ·have hlen:=ht.length
  by_cases hlt : i < l.length
  ·have hlt' : (i : Int) < (l.length : Int):=by omega
   obtain ⟨u,hu,hru⟩:=ht.get (List.getElem?_eq_getElem hlt)
   have u1:=hru.one
   have hne : l ≠ []:=by rintro rfl; simp at hlt
   have hd:=hS.live g (h0 hne).1 (h0 hne).2
   simp [pc38_l1,a0,a2,hlen,hlt']
   refine markLists_calls fun v v1 v2 v3=>?_
   simp [a0,a2,hu,u1,v1,v2,v3,hd,w1]
   refine ⟨⟨i + 1,by omega,by simp [a0],by simp,hS.spoil rfl⟩,?_⟩
   simp only [MU,a2]; simp; omega
  ·have hlt' : ¬ (i : Int) < (l.length : Int):=by omega
   simp [pc38_l1,a0,a2,hlen,hlt']
   exact h _ hS
theorem spoilFs_calls {G : Env} {g : Nat} {rows : List AV} {ps : List (F × Nat)} {σ : AS} {R : Out → AS → Prop} (hr : All2 FVE rows ps) (hl : ps.length ≤ 2 ^ 40) (h0 : g < σ.nf ∧ σ.F g ≠ .dead) (h : ∀ σ',Spo (· = g) σ σ' → R (.ret (.tuple [])) σ') : ACalls Tryz.prog G 39 [.sl (.fam g false) 5 rows] σ R := by
 refine calls39 rfl ?_
 have hlen:=hr.length
 simp [pc39]
 refine aloop (SpI (.sl (.fam g false) 5 rows) ps.length (· = g) σ) (MU 2 (ps.length + 1)) ⟨0,by omega,by simp,by simp,.refl _ _⟩ fun a τ hI=>?_
 obtain ⟨i,hi,a0,a2,hS⟩:=hI
 have w1 : IntKind.wrap .i64 ((i : Int) + 1) = ((i + 1 : Nat) : Int):=by rw [wrap_i64] <;> omega
 by_cases hlt : i < ps.length
 ·have hlt' : (i : Int) < (ps.length : Int):=by omega
  obtain ⟨u,hu,pv,lv,tv,rfl,hp,hll,ht⟩:=hr.get (List.getElem?_eq_getElem hlt)
  have p1:=hp.one
  have l1:=hll.one
  have t1:=ht.one
  simp [pc39_l1,a0,a2,hlen,hlt']
  refine markFs_calls fun t σ1 A1=>?_
  have hS1:=hS.adds A1
  have hd:=hS1.live g h0.1 h0.2
  simp [a0,a2,hu,p1,l1,t1,hd,w1]
  refine ⟨⟨i + 1,by omega,by simp [a0],by simp,hS1.spoil rfl⟩,?_⟩
  simp only [MU,a2]; simp; omega
 ·have hlt' : ¬ (i : Int) < (ps.length : Int):=by omega
  simp [pc39_l1,a0,a2,hlen,hlt']
  exact h _ hS
end Go.Proofs.YthejpoplbllcbaaGreatDoor.Al
set_option linter.unusedSimpArgs false
set_option linter.unusedVariables false
namespace Go.Proofs.YthejpoplbllcbaaGreatDoor.Al
open Go Go.Abs Go.Proofs.YthejpoplbllcbaaGreatDoor
def Sp (base : Nat) (k : Nat) : Prop := k = 0 ∨ base ≤ k
def SMO (mb g base : Nat) (rows : List AV) (ps : List (F × Nat)) (mem mn : Int) (σ : AS) (a : Nat → AV) (τ : AS) : Prop := ∃ i : Nat,i ≤ ps.length ∧ a 1 = .ptr mb 0 ∧ a 2 = .int .i64 (i : Int) ∧ τ.objs mb = some [.sl (.fam g false) 5 rows,.int .i64 mem,.int .i64 mn] ∧ mb < τ.no ∧ Spo (Sp base) σ τ ∧ τ.F g = .alive ∧
 (0 < τ.nf ∧ τ.F 0 ≠ .dead) ∧ g < τ.nf ∧ ∀ (j : Nat) p,i ≤ j → ps[j]? = some p → p.2 < τ.nf ∧ τ.F p.2 = .alive
def SMI (mb g base : Nat) (rows : List AV) (ps : List (F × Nat)) (mem mn : Int) (σ : AS) (i n : Nat) (a : Nat → AV) (τ : AS) : Prop := ∃ k : Nat,k ≤ n ∧ a 1 = .ptr mb 0 ∧ a 2 = .int .i64 (i : Int) ∧ a 3 = .int .i64 (k : Int) ∧ τ.objs mb = some [.sl (.fam g false) 5 rows,.int .i64 mem,.int .i64 mn] ∧ mb < τ.no ∧ Spo (Sp base) σ τ ∧ τ.F g = .alive ∧
 (0 < τ.nf ∧ τ.F 0 ≠ .dead) ∧ g < τ.nf ∧ ∀ (j : Nat) p,i ≤ j → ps[j]? = some p → p.2 < τ.nf ∧ τ.F p.2 = .alive
set_option maxHeartbeats 4000000 in
theorem spoilM_calls {G : Env} {base : Nat} {v : AV} {m : M} {σ : AS} {R : Out → AS → Prop} (hm : ME σ base v m) (hb0 : 0 < base) (hl : m.funcs.length ≤ 2 ^ 30) (h1 : ∀ f ∈ m.funcs,f.params.length ≤ 2 ^ 40) (h2 : ∀ f ∈ m.funcs,f.locals.length ≤ 2 ^ 40) (h3 : ∀ f ∈ m.funcs,f.lists.length ≤ 2 ^ 40) (h4 : ∀ f ∈ m.funcs,∀ r ∈ f.lists,r.length ≤ 2 ^ 40)
  (h00 : 0 < σ.nf ∧ σ.F 0 ≠ .dead) (h : ∀ σ',Spo (Sp base) σ σ' → R (.ret (.tuple [])) σ') : ACalls Tryz.prog G 11 [v] σ R:=by
 refine calls11 rfl ?_
 obtain ⟨fv,rfl,hov⟩:=hm
 rcases hov with ⟨hn,rfl⟩ | ⟨g,rows,ps,rfl,q1,q2,q3,q4,q5,q6⟩
 ·simp [pc11]
  refine aloop (fun a τ=>a 1 = .ptr σ.no 0 ∧ a 2 = .int .i64 0 ∧ τ = σ.newO [.nilsl,.int .i64 m.memory,.int .i64 m.main]) (fun _ _=>0) ⟨by simp,by simp,by simp⟩ fun a τ hI=>?_
  obtain ⟨a1,a2,rfl⟩:=hI
  simp [pc11_l2,pc11_r3,a1,a2]
  refine calls39 rfl ?_
  simp [pc39]
  refine aloop (fun a τ=>a 0 = .nilsl ∧ a 2 = .int .i64 0 ∧ τ = σ.newO [.nilsl,.int .i64 m.memory,.int .i64 m.main]) (fun _ _=>0) ⟨by simp,by simp,by simp⟩ fun a τ hI=>?_
  obtain ⟨a0,a2,rfl⟩:=hI
  simp [pc39_l1,a0,a2]
  exact h _ ((Spo.refl _ _).adds (Adds.refl σ).newO)
 ·have hrl:=q5.length
  have hpl : ps.length = m.funcs.length:=by rw [← q4]; simp
  simp [pc11]
  have hs1 : Spo (Sp base) σ (σ.newO [AV.sl (Own.fam g false) 5 rows,AV.int IntKind.i64 m.memory,AV.int IntKind.i64 m.main]):=(Spo.refl _ _).adds (Adds.refl σ).newO
  have hin : ∀ p ∈ ps,p.1 ∈ m.funcs:=fun p hp=>by rw [← q4]; exact List.mem_map_of_mem hp
  have hgs : ∀ p ∈ ps,base ≤ p.2 ∧ p.2 < σ.nf ∧ σ.F p.2 = .alive ∧ p.2 ≠ g:=fun p hp=>q6.each _ (List.mem_map_of_mem hp)
  refine aloop (SMO σ.no g base rows ps m.memory m.main σ) (MU 2 (ps.length + 1)) ⟨0,by omega,by simp,by simp,by simp,by simp,hs1,by simpa using q3,⟨by simpa using h00.1,by simpa using h00.2⟩,by simpa using q2,fun j p _ hp=>⟨by simpa using (hgs p (List.mem_of_getElem? hp)).2.1,by simpa using (hgs p (List.mem_of_getElem? hp)).2.2.1⟩⟩ fun a τ hI=>?_
  obtain ⟨i,hi,a1,a2,hob,hlt0,hS,hg,h0,hgn,hal⟩:=hI
  by_cases hlt : i < ps.length
  ·have hlt' : (i : Int) < (ps.length : Int):=by omega
   have hpi : ps[i]? = some ps[i]:=List.getElem?_eq_getElem hlt
   obtain ⟨u,hu,pv,lv,tv,rfl,hp,hll,ht⟩:=q5.get hpi
   have hmem:=List.getElem_mem hlt
   have b1:=h1 _ (hin _ hmem)
   have b2:=h2 _ (hin _ hmem)
   have b3:=h3 _ (hin _ hmem)
   have b4:=h4 _ (hin _ hmem)
   have hgi:=hgs _ hmem
   have hnd:=q6.nd
   have hdis : ∀ (j : Nat) p,i + 1 ≤ j → ps[j]? = some p → p.2 ≠ ps[i].2:=fun j p hj hp e=>by
    obtain ⟨hjl,rfl⟩:=List.getElem?_eq_some_iff.1 hp
    have hpw:=List.pairwise_iff_getElem.1 hnd i j (by simpa using hlt) (by simpa using hjl) (by omega)
    simp only [List.getElem_map] at hpw
    exact hpw e.symm
   generalize ps[i] = p at *
   have p1:=hp.one
   have l1:=hll.one
   have t1:=ht.one
   simp [pc11_l2,a1,a2,hob,hrl,hlt',hu,p1,l1,t1,hg]
   refine spoilInts_calls hp b1 h0 fun σ2 s2=>?_
   have ob2:=(s2.obj _ hlt0).trans hob
   have g2 : σ2.F g = .alive:=(s2.fam g hgn (by omega)).trans hg
   have n2:=s2.no
   have f2:=s2.nf
   have S2 : Spo (Sp base) σ σ2:=hS.trans (s2.mono fun k hk=>.inl hk)
   have z2 : 0 < σ2.nf ∧ σ2.F 0 ≠ .dead:=⟨by omega,s2.live 0 h0.1 h0.2⟩
   simp [a1,a2,ob2,hu,p1,l1,t1,g2]
   refine spoilInts_calls hll b2 z2 fun σ3 s3=>?_
   have ob3:=(s3.obj _ (by omega)).trans ob2
   have g3 : σ3.F g = .alive:=(s3.fam g (by omega) (by omega)).trans g2
   have n3:=s3.no
   have f3:=s3.nf
   have S3 : Spo (Sp base) σ σ3:=S2.trans (s3.mono fun k hk=>.inl hk)
   have z3 : 0 < σ3.nf ∧ σ3.F 0 ≠ .dead:=⟨by omega,s3.live 0 z2.1 z2.2⟩
   have al3 : ∀ (j : Nat) p,i ≤ j → ps[j]? = some p → p.2 < σ3.nf ∧ σ3.F p.2 = .alive:=fun j p hj hp=>by
    obtain ⟨x1,x2⟩:=hal j p hj hp
    have:=(hgs p (List.mem_of_getElem? hp)).1
    exact ⟨by omega,by rw [s3.fam _ (by omega) (by omega),s2.fam _ (by omega) (by omega)]; exact x2⟩
   simp [a1,a2]
   refine aloop (SMI σ.no g base rows ps m.memory m.main σ i p.1.lists.length) (MU 3 (p.1.lists.length + 1)) ⟨0,by omega,by simp [a1],by simp [a2],by simp,ob3,by omega,S3,g3,z3,by omega,al3⟩ fun c ρ hJ=>?_
   obtain ⟨k,hk,c1,c2,c3,obk,hltk,Sk,gk,zk,gnk,alk⟩:=hJ
   have aik:=alk i p (Nat.le_refl _) hpi
   by_cases hkl : k < p.1.lists.length
   ·have hkl' : (k : Int) < (p.1.lists.length : Int):=by omega
    have w2 : IntKind.wrap .i64 ((k : Int) + 1) = ((k + 1 : Nat) : Int):=by rw [wrap_i64] <;> omega
    rcases ht with ⟨he,_⟩ | ⟨tos,rfl,htr⟩
    ·rw [he] at hkl; simp at hkl
    have htl:=htr.length
    obtain ⟨rv,hrv,hre⟩:=htr.get (List.getElem?_eq_getElem hkl)
    have hrow:=b4 _ (List.getElem_mem hkl)
    have r1:=hre.one
    generalize p.1.lists[k] = row at *
    simp [pc11_l1,c1,c2,c3,obk,hu,p1,l1,gk,htl,hkl',hrv,r1,aik.2]
    refine spoilWs_calls hre hrow zk fun σ4 s4=>?_
    have f4:=s4.nf
    have n4:=s4.no
    simp [c1,c2,c3,w2]
    refine ⟨⟨k + 1,by omega,by simp [c1],by simp [c2],by simp,(s4.obj _ hltk).trans obk,by omega,Sk.trans (s4.mono fun k hk=>.inl hk),(s4.fam g gnk (by omega)).trans gk,⟨by omega,s4.live 0 zk.1 zk.2⟩,by omega,fun j p hj hp=>?_⟩,?_⟩
    ·obtain ⟨x1,x2⟩:=alk j p hj hp
     have:=(hgs p (List.mem_of_getElem? hp)).1
     exact ⟨by omega,by rw [s4.fam _ (by omega) (by omega)]; exact x2⟩
    ·simp only [MU,c3]; simp; omega
   ·have hkl' : ¬ (k : Int) < (p.1.lists.length : Int):=by omega
    have htlen : ∀ K : AV → Prop,alen Tryz.prog 49 tv K = K (.int .i64 (p.1.lists.length : Int)):=fun K=>by
     rcases ht with ⟨he,rfl⟩ | ⟨tos,rfl,htr⟩
     ·simp [he]
     ·simp [htr.length]
    have w1 : IntKind.wrap .i64 ((i : Int) + 1) = ((i + 1 : Nat) : Int):=by rw [wrap_i64] <;> omega
    simp [pc11_l1,pc11_r1,c1,c2,c3,obk,hu,p1,l1,t1,gk,htlen,hkl']
    refine spoilLists_calls ht b3 (fun _=>⟨aik.1,by rw [aik.2]; simp⟩) fun σ4 s4=>?_
    have f4:=s4.nf
    have n4:=s4.no
    simp [pc11_r2,c1,c2,w1]
    refine ⟨⟨i + 1,by omega,by simp [c1],by simp,(s4.obj _ hltk).trans obk,by omega,Sk.trans (s4.mono fun k hk=>.inr (by rw [hk]; exact hgi.1)),(s4.fam g gnk (fun e=>hgi.2.2.2 e.symm)).trans gk,⟨by omega,s4.live 0 zk.1 zk.2⟩,by omega,fun j p' hj hp'=>?_⟩,?_⟩
    ·obtain ⟨x1,x2⟩:=alk j p' (by omega) hp'
     exact ⟨by omega,by rw [s4.fam _ (by omega) (hdis j p' hj hp')]; exact x2⟩
    ·simp only [MU,a2]; simp; omega
  ·have hlt' : ¬ (i : Int) < (ps.length : Int):=by omega
   simp [pc11_l2,pc11_r3,a1,a2,hob,hrl,hlt']
   refine spoilFs_calls q5 (by omega) ⟨hgn,by rw [hg]; simp⟩ fun σ4 s4=>?_
   simp
   exact h _ (hS.trans (s4.mono fun k hk=>.inr (by rw [hk]; exact q1)))
end Go.Proofs.YthejpoplbllcbaaGreatDoor.Al
set_option linter.unusedSimpArgs false
set_option linter.unusedVariables false
namespace Go.Proofs.YthejpoplbllcbaaGreatDoor.Al
open Go Go.Abs Go.Proofs.YthejpoplbllcbaaGreatDoor
def Rd (σ : AS) : Go.Abs.Own → Prop
 | .stat _=>True
 | .fam f _=>f < σ.nf ∧ σ.F f = .alive
theorem Rd.read {σ φ} (h : Rd σ φ) : Readable σ.F φ := by
 cases φ with
 | stat b=>exact trivial
 | fam f b=>exact h.2
theorem Rd.keep {σ σ' φ} (h : Rd σ φ) (A : Adds σ σ') : Rd σ' φ := by
 cases φ with
 | stat b=>exact trivial
 | fam f b=>exact ⟨by have:=A.nf; have:=h.1; omega,(A.fam f h.1).trans h.2⟩
def IntsO (σ : AS) (v : AV) (l : List Int) : Prop := (l = [] ∧ v = .nilsl) ∨ ∃ φ,v = .sl φ 1 (l.map (.int .i64)) ∧ Rd σ φ
def RepO (σ : AS) (v : AV) (l : List W) : Prop := (l = [] ∧ v = .nilsl) ∨ ∃ φ,v = .sl φ 6 (l.map W.av) ∧ Rd σ φ
def LstO (σ : AS) (v : AV) (l : To) : Prop := (l = [] ∧ v = .nilsl) ∨ ∃ φ rows,v = .sl φ 1 rows ∧ Rd σ φ ∧ All2 (RepO σ) rows l
def FVO (σ : AS) (v : AV) (f : F) : Prop := ∃ pv lv tv,v = .agg [.str f.name,pv,lv,.int .i64 f.type,tv] ∧ IntsO σ pv f.params ∧ IntsO σ lv f.locals ∧ LstO σ tv f.lists
def FsO (σ : AS) (v : AV) (l : List F) : Prop := (l = [] ∧ v = .nilsl) ∨ ∃ φ rows,v = .sl φ 5 rows ∧ Rd σ φ ∧ All2 (FVO σ) rows l
def MO (σ : AS) (v : AV) (m : M) : Prop := ∃ fv,v = .agg [fv,.int .i64 m.memory,.int .i64 m.main] ∧ FsO σ fv m.funcs
theorem IntsO.one {σ v l} (h : IntsO σ v l) : v.known = true ∧ v.one = true ∧ v.cells = [v] := by rcases h with ⟨_,rfl⟩ | ⟨b,rfl,_⟩ <;> simp
theorem RepO.one {σ v l} (h : RepO σ v l) : v.known = true ∧ v.one = true ∧ v.cells = [v] := by rcases h with ⟨_,rfl⟩ | ⟨b,rfl,_⟩ <;> simp
theorem LstO.one {σ v l} (h : LstO σ v l) : v.known = true ∧ v.one = true ∧ v.cells = [v] := by rcases h with ⟨_,rfl⟩ | ⟨b,_,rfl,_⟩ <;> simp
theorem FsO.one {σ v l} (h : FsO σ v l) : v.known = true ∧ v.one = true ∧ v.cells = [v] := by rcases h with ⟨_,rfl⟩ | ⟨b,_,rfl,_⟩ <;> simp
theorem IntsO.keep {σ σ' v l} (h : IntsO σ v l) (A : Adds σ σ') : IntsO σ' v l := by
 rcases h with h | ⟨φ,h,r⟩
 ·exact .inl h
 ·exact .inr ⟨φ,h,r.keep A⟩
theorem RepO.keep {σ σ' v l} (h : RepO σ v l) (A : Adds σ σ') : RepO σ' v l := by
 rcases h with h | ⟨φ,h,r⟩
 ·exact .inl h
 ·exact .inr ⟨φ,h,r.keep A⟩
theorem all2_mono {α β : Type} {R S : α → β → Prop} {xs ys} (h : All2 R xs ys) (hs : ∀ x y,R x y → S x y) : All2 S xs ys := by
 induction h with
 | nil=>exact .nil
 | cons h r ih=>exact .cons (hs _ _ h) ih
theorem LstO.keep {σ σ' v l} (h : LstO σ v l) (A : Adds σ σ') : LstO σ' v l := by
 rcases h with h | ⟨φ,rows,h,r,k⟩
 ·exact .inl h
 ·exact .inr ⟨φ,rows,h,r.keep A,all2_mono k fun _ _ q=>q.keep A⟩
theorem FVO.keep {σ σ' v l} (h : FVO σ v l) (A : Adds σ σ') : FVO σ' v l := by
 obtain ⟨pv,lv,tv,h,a,b,c⟩:=h
 exact ⟨pv,lv,tv,h,a.keep A,b.keep A,c.keep A⟩
theorem FsO.keep {σ σ' v l} (h : FsO σ v l) (A : Adds σ σ') : FsO σ' v l := by
 rcases h with h | ⟨φ,rows,h,r,k⟩
 ·exact .inl h
 ·exact .inr ⟨φ,rows,h,r.keep A,all2_mono k fun _ _ q=>q.keep A⟩
theorem MO.keep {σ σ' v m} (h : MO σ v m) (A : Adds σ σ') : MO σ' v m := by
 obtain ⟨fv,h,k⟩:=h
 exact ⟨fv,h,k.keep A⟩
theorem IntsO.len {σ v l} (h : IntsO σ v l) (K : AV → Prop) : alen Tryz.prog 38 v K = K (.int .i64 (l.length : Int)) := by rcases h with ⟨rfl,rfl⟩ | ⟨b,rfl,_⟩ <;> simp
theorem LstO.len {σ v l} (h : LstO σ v l) (K : AV → Prop) : alen Tryz.prog 49 v K = K (.int .i64 (l.length : Int)) := by
 rcases h with ⟨rfl,rfl⟩ | ⟨b,rows,rfl,_,hr⟩
 ·simp
 ·simp [hr.length]
theorem FsO.len {σ v l} (h : FsO σ v l) (K : AV → Prop) : alen Tryz.prog 25 v K = K (.int .i64 (l.length : Int)) := by
 rcases h with ⟨rfl,rfl⟩ | ⟨b,rows,rfl,_,hr⟩
 ·simp
 ·simp [hr.length]
theorem IntsO.at {σ v l} (h : IntsO σ v l) {i : Nat} (hi : i < l.length) : ∃ φ,Rd σ φ ∧ ∀ K : AV → Prop,aindexAddr Tryz.prog 38 v (.int .i64 (i : Int)) K = K (.pv φ (.int .i64 l[i])) := by
 rcases h with ⟨rfl,_⟩ | ⟨φ,rfl,r⟩
 ·simp at hi
 ·exact ⟨φ,r,fun K=>by simp [hi]⟩
theorem LstO.at {σ v l} (h : LstO σ v l) {i : Nat} (hi : i < l.length) : ∃ φ rv,Rd σ φ ∧ RepO σ rv l[i] ∧ ∀ K : AV → Prop,aindexAddr Tryz.prog 49 v (.int .i64 (i : Int)) K = K (.pv φ rv) := by
 rcases h with ⟨rfl,_⟩ | ⟨φ,rows,rfl,r,hr⟩
 ·simp at hi
 ·obtain ⟨rv,h1,h2⟩:=hr.get (List.getElem?_eq_getElem hi)
  exact ⟨φ,rv,r,h2,fun K=>by simp [h1]⟩
theorem FsO.at {σ v l} (h : FsO σ v l) {i : Nat} (hi : i < l.length) : ∃ φ rv,Rd σ φ ∧ FVO σ rv l[i] ∧ ∀ K : AV → Prop,aindexAddr Tryz.prog 25 v (.int .i64 (i : Int)) K = K (.pv φ rv) := by
 rcases h with ⟨rfl,_⟩ | ⟨φ,rows,rfl,r,hr⟩
 ·simp at hi
 ·obtain ⟨rv,h1,h2⟩:=hr.get (List.getElem?_eq_getElem hi)
  exact ⟨φ,rv,r,h2,fun K=>by simp [h1]⟩
def EI (va vb : AV) (n : Nat) (σ : AS) (a : Nat → AV) (τ : AS) : Prop := ∃ i : Nat,i ≤ n ∧ a 0 = va ∧ a 1 = vb ∧ a 5 = .int .i64 (i : Int) ∧ Adds σ τ
theorem eqInts_calls {G : Env} {σ : AS} {R : Out → AS → Prop} {va vb : AV} {l : List Int} (ha : IntsO σ va l) (hb : IntsO σ vb l) (hl : l.length ≤ 2 ^ 40) (h : ∀ σ',Adds σ σ' → R (.ret (.bool true)) σ') : ACalls Tryz.prog G 104 [va,vb] σ R := by
 refine calls104 rfl ?_
 have hal:=ha.len
 have hbl:=hb.len
 simp [pc104,hal,hbl]
 refine aloop (EI va vb l.length σ) (MU 5 (l.length + 1)) ⟨0,by omega,by simp,by simp,by simp,.refl _⟩ fun a τ hI=>?_
 obtain ⟨i,hi,a0,a1,a5,A⟩:=hI
 by_cases hlt : i < l.length
 ·obtain ⟨φ,r1,hx1⟩:=(ha.keep A).at hlt
  obtain ⟨ψ,r2,hx2⟩:=(hb.keep A).at hlt
  have q1:=r1.read
  have q2:=r2.read
  have w5 : IntKind.wrap .i64 ((i : Int) + 1) = ((i + 1 : Nat) : Int):=by rw [wrap_i64] <;> omega
  simp [pc104_l1,a0,a1,a5,hal,hlt,hx1,hx2,w5,q1,q2]
  refine ⟨⟨i + 1,by omega,by simp [a0],by simp [a1],by simp,A⟩,?_⟩
  simp only [MU,a5]; simp; omega
 ·simp [pc104_l1,pc104_r1,a0,a1,a5,hal,hlt]
  exact h _ A
theorem eqLists_calls {G : Env} {σ : AS} {R : Out → AS → Prop} {va vb : AV} {l : To} (ha : LstO σ va l) (hb : LstO σ vb l) (hl : l.length ≤ 2 ^ 40) (hr : ∀ r ∈ l,r.length ≤ 2 ^ 30) (h : ∀ σ',Adds σ σ' → R (.ret (.bool true)) σ') : ACalls Tryz.prog G 105 [va,vb] σ R := by
 refine calls105 rfl ?_
 have hal:=ha.len
 have hbl:=hb.len
 simp [pc105,hal,hbl]
 refine aloop (EI va vb l.length σ) (MU 5 (l.length + 1)) ⟨0,by omega,by simp,by simp,by simp,.refl _⟩ fun a τ hI=>?_
 obtain ⟨i,hi,a0,a1,a5,A⟩:=hI
 by_cases hlt : i < l.length
 ·obtain ⟨φ,rv1,r1,e1,hx1⟩:=(ha.keep A).at hlt
  obtain ⟨ψ,rv2,r2,e2,hx2⟩:=(hb.keep A).at hlt
  have q1:=r1.read
  have q2:=r2.read
  have o1:=e1.one
  have o2:=e2.one
  have hrl:=hr _ (List.getElem_mem hlt)
  have w5 : IntKind.wrap .i64 ((i : Int) + 1) = ((i + 1 : Nat) : Int):=by rw [wrap_i64] <;> omega
  have sl : ∀ {v : AV} {r : List W},RepO τ v r → SlW τ v r:=fun h=>by
   rcases h with ⟨h1,h2⟩ | ⟨φ,h1,h2⟩
   ·exact .inl ⟨h1,h2⟩
   ·exact .inr ⟨φ,h1,h2.read⟩
  simp [pc105_l1,a0,a1,a5,hal,hlt,hx1,hx2,q1,q2,o1,o2]
  refine same_calls (sl e1) (sl e2) hrl ?_
  simp [w5,a5]
  refine ⟨⟨i + 1,by omega,by simp [a0],by simp [a1],by simp,A⟩,?_⟩
  simp only [MU,a5]; simp; omega
 ·simp [pc105_l1,pc105_r1,a0,a1,a5,hal,hlt]
  exact h _ A
structure SzE (f : F) : Prop where
 params : f.params.length ≤ 2 ^ 40
 locals : f.locals.length ≤ 2 ^ 40
 lists : f.lists.length ≤ 2 ^ 40
 rows : ∀ r ∈ f.lists,r.length ≤ 2 ^ 30
theorem eqF_calls {G : Env} {σ : AS} {R : Out → AS → Prop} {va vb : AV} {f : F} (ha : FVO σ va f) (hb : FVO σ vb f) (hs : SzE f) (h : ∀ σ',Adds σ σ' → R (.ret (.bool true)) σ') : ACalls Tryz.prog G 76 [va,vb] σ R := by
 refine calls76 rfl ?_
 obtain ⟨pa,la,ta,rfl,hpa,hla,hta⟩:=ha
 obtain ⟨pb,lb,tb,rfl,hpb,hlb,htb⟩:=hb
 have a1:=hpa.one
 have a2:=hla.one
 have a3:=hta.one
 have b1:=hpb.one
 have b2:=hlb.one
 have b3:=htb.one
 simp [pc76,a1,a2,a3,b1,b2,b3]
 have A1 : Adds σ ((σ.newO [AV.str f.name,pa,la,AV.int IntKind.i64 f.type,ta]).newO [AV.str f.name,pb,lb,AV.int IntKind.i64 f.type,tb]):=(Adds.refl σ).newO.newO
 have oa : ((σ.newO [AV.str f.name,pa,la,AV.int IntKind.i64 f.type,ta]).newO [AV.str f.name,pb,lb,AV.int IntKind.i64 f.type,tb]).objs σ.no = some [AV.str f.name,pa,la,AV.int IntKind.i64 f.type,ta]:=by simp
 have ob : ((σ.newO [AV.str f.name,pa,la,AV.int IntKind.i64 f.type,ta]).newO [AV.str f.name,pb,lb,AV.int IntKind.i64 f.type,tb]).objs (σ.no + 1) = some [AV.str f.name,pb,lb,AV.int IntKind.i64 f.type,tb]:=by simp
 have n1 : ((σ.newO [AV.str f.name,pa,la,AV.int IntKind.i64 f.type,ta]).newO [AV.str f.name,pb,lb,AV.int IntKind.i64 f.type,tb]).no = σ.no + 2:=by simp
 generalize (σ.newO [AV.str f.name,pa,la,AV.int IntKind.i64 f.type,ta]).newO [AV.str f.name,pb,lb,AV.int IntKind.i64 f.type,tb] = σ1 at *
 refine eqInts_calls (hpa.keep A1) (hpb.keep A1) hs.params fun σ2 A2=>?_
 have oa2:=(A2.obj _ (by omega)).trans oa
 have ob2:=(A2.obj _ (by omega)).trans ob
 have n2:=A2.no
 have B2:=A1.trans A2
 simp [oa2,ob2,a1,a2,a3,b1,b2,b3]
 refine eqInts_calls (hla.keep B2) (hlb.keep B2) hs.locals fun σ3 A3=>?_
 have oa3:=(A3.obj _ (by omega)).trans oa2
 have ob3:=(A3.obj _ (by omega)).trans ob2
 have B3:=B2.trans A3
 simp [oa3,ob3,a1,a2,a3,b1,b2,b3]
 refine eqLists_calls (hta.keep B3) (htb.keep B3) hs.lists hs.rows fun σ4 A4=>?_
 simp
 exact h _ (B3.trans A4)
theorem eqFs_calls {G : Env} {σ : AS} {R : Out → AS → Prop} {va vb : AV} {l : List F} (ha : FsO σ va l) (hb : FsO σ vb l) (hl : l.length ≤ 2 ^ 40) (hs : ∀ f ∈ l,SzE f) (h : ∀ σ',Adds σ σ' → R (.ret (.bool true)) σ') : ACalls Tryz.prog G 35 [va,vb] σ R := by
 refine calls35 rfl ?_
 have hal:=ha.len
 have hbl:=hb.len
 simp [pc35,hal,hbl]
 refine aloop (EI va vb l.length σ) (MU 5 (l.length + 1)) ⟨0,by omega,by simp,by simp,by simp,.refl _⟩ fun a τ hI=>?_
 obtain ⟨i,hi,a0,a1,a5,A⟩:=hI
 by_cases hlt : i < l.length
 ·obtain ⟨φ,rv1,r1,e1,hx1⟩:=(ha.keep A).at hlt
  obtain ⟨ψ,rv2,r2,e2,hx2⟩:=(hb.keep A).at hlt
  have q1:=r1.read
  have q2:=r2.read
  have hsz:=hs _ (List.getElem_mem hlt)
  generalize l[i] = f at *
  have w5 : IntKind.wrap .i64 ((i : Int) + 1) = ((i + 1 : Nat) : Int):=by rw [wrap_i64] <;> omega
  have f1:=e1
  have f2:=e2
  obtain ⟨pa,la,ta,rfl,hpa,hla,hta⟩:=e1
  obtain ⟨pb,lb,tb,rfl,hpb,hlb,htb⟩:=e2
  have o1:=hpa.one
  have o2:=hla.one
  have o3:=hta.one
  have o4:=hpb.one
  have o5:=hlb.one
  have o6:=htb.one
  simp [pc35_l1,a0,a1,a5,hal,hlt,hx1,hx2,q1,q2,o1,o2,o3,o4,o5,o6]
  refine eqF_calls f1 f2 hsz fun σ2 A2=>?_
  simp [w5,a5]
  refine ⟨⟨i + 1,by omega,by simp [a0],by simp [a1],by simp,A.trans A2⟩,?_⟩
  simp only [MU,a5]; simp; omega
 ·simp [pc35_l1,pc35_r1,a0,a1,a5,hal,hlt]
  exact h _ A
theorem eqM_calls {G : Env} {σ : AS} {R : Out → AS → Prop} {va vb : AV} {m : M} (ha : MO σ va m) (hb : MO σ vb m) (hl : m.funcs.length ≤ 2 ^ 40) (hs : ∀ f ∈ m.funcs,SzE f) (h : ∀ σ',Adds σ σ' → R (.ret (.bool true)) σ') : ACalls Tryz.prog G 10 [va,vb] σ R := by
 refine calls10 rfl ?_
 obtain ⟨fa,rfl,hfa⟩:=ha
 obtain ⟨fb,rfl,hfb⟩:=hb
 have a1:=hfa.one
 have b1:=hfb.one
 simp [pc10,a1,b1]
 have A1 : Adds σ ((σ.newO [fa,AV.int IntKind.i64 m.memory,AV.int IntKind.i64 m.main]).newO [fb,AV.int IntKind.i64 m.memory,AV.int IntKind.i64 m.main]):=(Adds.refl σ).newO.newO
 refine eqFs_calls (hfa.keep A1) (hfb.keep A1) hl hs fun σ2 A2=>?_
 simp
 exact h _ (A1.trans A2)
end Go.Proofs.YthejpoplbllcbaaGreatDoor.Al
set_option linter.unusedSimpArgs false
set_option linter.unusedVariables false
namespace Go.Proofs.YthejpoplbllcbaaGreatDoor.Al
open Go Go.Abs Go.Proofs.YthejpoplbllcbaaGreatDoor
theorem rep_e {σ : AS} (h0 : 0 < σ.nf ∧ σ.F 0 = .alive) {v l} (h : RepE v l) : RepO σ v l := by
 rcases h with h | ⟨b,h⟩
 ·exact .inl h
 ·exact .inr ⟨_,h,h0⟩
theorem ints_e {σ : AS} (h0 : 0 < σ.nf ∧ σ.F 0 = .alive) {v l} (h : IntsE v l) : IntsO σ v l := by
 rcases h with ⟨rfl,h | ⟨b,h⟩⟩ | ⟨b,h⟩
 ·exact .inl ⟨rfl,h⟩
 ·exact .inr ⟨_,h,trivial⟩
 ·exact .inr ⟨_,h,h0⟩
theorem all2_fst {R : AV → F × Nat → Prop} {S : AV → F → Prop} {rows : List AV} {ps : List (F × Nat)} (h : All2 R rows ps) (hs : ∀ v p,p ∈ ps → R v p → S v p.1) : All2 S rows (ps.map Prod.fst) := by
 induction h with
 | nil=>exact .nil
 | cons h r ih=>exact .cons (hs _ _ (by simp) h) (ih fun v p hp=>hs v p (by simp [hp]))
theorem m_e {σ : AS} {base : Nat} (h0 : 0 < σ.nf ∧ σ.F 0 = .alive) {v m} (h : ME σ base v m) : MO σ v m := by
 obtain ⟨fv,rfl,hf⟩:=h
 refine ⟨fv,rfl,?_⟩
 rcases hf with h | ⟨g,rows,ps,rfl,q1,q2,q3,q4,q5,q6⟩
 ·exact .inl h
 ·refine .inr ⟨_,rows,rfl,⟨q2,q3⟩,?_⟩
  rw [← q4]
  refine all2_fst q5 fun v p hp ⟨pv,lv,tv,e,a,b,c⟩=>⟨pv,lv,tv,e,ints_e h0 a,ints_e h0 b,?_⟩
  obtain ⟨u1,u2,u3,u4⟩:=q6.each p.2 (List.mem_map_of_mem hp)
  rcases c with c | ⟨tos,rfl,c⟩
  ·exact .inl c
  ·exact .inr ⟨_,tos,rfl,⟨u2,u3⟩,all2_mono c fun _ _ q=>rep_e h0 q⟩
end Go.Proofs.YthejpoplbllcbaaGreatDoor.Al
set_option linter.unusedSimpArgs false
set_option linter.unusedVariables false
namespace Go.Proofs.YthejpoplbllcbaaGreatDoor
open Go Go.Abs
@[simp] theorem blit_nil (t) : blitSl t [] = false := by simp [blitSl]
@[simp] theorem blit_tmp (t i k r) : blitSl t ((i,.tmp k) :: r) = false := by simp [blitSl]
@[simp] theorem blit_i64 (t i n r) : blitSl t ((i,.const (.int .i64 n)) :: r) = false := by simp [blitSl]
@[simp] theorem blit_str (t i n r) : blitSl t ((i,.const (.string n)) :: r) = false := by simp [blitSl]
def byteI (n : Int) : UInt8 := UInt8.ofNat (n % 256).toNat
def uF : Nat → Int → List UInt8
 | 0,_=>[]
 | k + 1,n=>if n ≤ 127 then [byteI n] else (byteI n ||| 128) :: uF k (n / 128)
def sF : Nat → Int → List UInt8
 | 0,_=>[]
 | k + 1,n=>if -64 ≤ n ∧ n ≤ 63 then [byteI n &&& 127] else (byteI n ||| 128) :: sF k (n / 128)
def uI (n : Int) : List UInt8 := uF 10 n
def sI (n : Int) : List UInt8 := sF 10 n
theorem byteI_nat (n : Int) : ((byteI n).toNat : Int) = n % 256 := by
 unfold byteI
 have h1 : 0 ≤ n % 256 ∧ n % 256 < 256:=⟨Int.emod_nonneg _ (by decide),Int.emod_lt_of_pos _ (by decide)⟩
 rw [UInt8.toNat_ofNat']
 omega
theorem wrap_u8 (n : Int) : IntKind.wrap .u8 n = ((byteI n).toNat : Int) := by
 rw [byteI_nat]
 simp [IntKind.wrap,IntKind.signed,IntKind.bits]
theorem bits2_u8 (f : BitVec 8 → BitVec 8 → BitVec 8) (a b : UInt8) : bits2 .u8 f (a.toNat : Int) (b.toNat : Int) = ((f a.toBitVec b.toBitVec).toNat : Int) := by
 have e1 : BitVec.ofInt 8 (a.toNat : Int) = a.toBitVec:=by
  apply BitVec.eq_of_toNat_eq
  simp
 have e2 : BitVec.ofInt 8 (b.toNat : Int) = b.toBitVec:=by
  apply BitVec.eq_of_toNat_eq
  simp
 show IntKind.wrap .u8 ((f (BitVec.ofInt 8 (a.toNat : Int)) (BitVec.ofInt 8 (b.toNat : Int))).toNat : Int) = _
 rw [e1,e2]
 have:=(f a.toBitVec b.toBitVec).isLt
 simp [IntKind.wrap,IntKind.signed,IntKind.bits]
 omega
theorem or_u8 (a : UInt8) : bits2 .u8 (· ||| ·) (a.toNat : Int) 128 = ((a ||| 128).toNat : Int) := by
 exact bits2_u8 (· ||| ·) a 128
theorem and_u8 (a : UInt8) : bits2 .u8 (· &&& ·) (a.toNat : Int) 127 = ((a &&& 127).toNat : Int) := by
 exact bits2_u8 (· &&& ·) a 127
theorem shr7 (n : Int) : n.fdiv (2 ^ min 7 IntKind.i64.bits) = n / 128 := by
 show n.fdiv 128 = n / 128
 exact Int.fdiv_eq_ediv_of_nonneg _ (by decide)
@[simp] theorem B_len (bs : List UInt8) : (B bs).length = bs.length := by simp [B]
@[simp] theorem B_app (x y : List UInt8) : B (x ++ y) = B x ++ B y := by simp [B]
theorem uF_len : ∀ (k : Nat) (n : Int),(uF k n).length ≤ k
 | 0,_=>by simp [uF]
 | k + 1,n=>by
  rw [uF]
  split
  ·simp
  ·simp [uF_len k]
theorem sF_len : ∀ (k : Nat) (n : Int),(sF k n).length ≤ k
 | 0,_=>by simp [sF]
 | k + 1,n=>by
  rw [sF]
  split
  ·simp
  ·simp [sF_len k]
end Go.Proofs.YthejpoplbllcbaaGreatDoor
set_option linter.unusedSimpArgs false
set_option linter.unusedVariables false
namespace Go.Proofs.YthejpoplbllcbaaGreatDoor
open Go Go.Abs
def NewB (σ σ' : AS) (v : AV) (bs : List UInt8) : Prop := OutG σ' σ.nf 1 v (B bs) ∧ Adds σ σ'
section
variable {G : Env} {σ : AS} {R : Out → AS → Prop}
def UnI (n0 : Int) (σ : AS) (a : Nat → AV) (τ : AS) : Prop := ∃ (k : Nat) (n : Int) (bs : List UInt8),1 ≤ k ∧ k ≤ 10 ∧ n < 128 ^ k ∧ bs ++ uF k n = uI n0 ∧ bs.length + k ≤ 10 ∧ a 0 = .int .i64 n ∧ ((bs = [] ∧ a 3 = .nilsl) ∨ ∃ g,a 3 = .sl (.fam g false) 1 (B bs) ∧ σ.nf ≤ g ∧ g < τ.nf ∧ τ.F g = .alive) ∧ Adds σ τ
def MUn (r : Nat) (a : Nat → AV) (_ : AS) : Nat := match a r with | .int _ i => i.toNat | _ => 0
theorem u_calls {n : Int} (hn : n < 2 ^ 63) (h : ∀ v σ',NewB σ σ' v (uI n) → R (.ret v) σ') : ACalls Tryz.prog G 15 [.int .i64 n] σ R := by
 refine calls15 rfl ?_
 simp [pc15]
 refine aloop (UnI n σ) (MUn 0) ⟨10,n,[],by omega,by omega,by omega,rfl,by simp,by simp,.inl ⟨rfl,by simp⟩,.refl _⟩ fun a τ hI=>?_
 obtain ⟨k,m,bs,h1,h2,h3,h4,h5,a0,hO,hA⟩:=hI
 obtain ⟨k,rfl⟩ : ∃ j,k = j + 1:=⟨k - 1,by omega⟩
 rw [uF] at h4
 by_cases hm : m ≤ 127
 ·rw [if_pos hm] at h4
  have hm' : ¬ 127 < m:=by omega
  have hbl : (B bs).length = bs.length:=by simp [B]
  have hBa : B bs ++ [AV.int .u8 ((byteI m).toNat : Int)] = B (bs ++ [byteI m]):=by simp [B]
  rcases hO with ⟨rfl,a3⟩ | ⟨g,a3,g1,g2,g3⟩
  ·simp [pc15_l1,pc15_r1,a0,a3,hm',wrap_u8]
   refine h _ _ ⟨.inr ⟨τ.nf,?_,hA.nf,by simp,by simp⟩,hA.newF⟩
   rw [← h4]; simp [B]
  ·simp [pc15_l1,pc15_r1,a0,a3,hm',wrap_u8,g3]
   refine ⟨by omega,?_⟩
   refine h _ _ ⟨.inr ⟨τ.nf,?_,hA.nf,by simp,by simp⟩,(hA.setF g1).newF (σ':=τ.setF g .dead)⟩
   rw [← h4]; simp [B]
 ·rw [if_neg hm] at h4
  have hm' : 127 < m:=by omega
  have hk : 1 ≤ k:=by
   rcases Nat.eq_zero_or_pos k with rfl | h
   ·simp at h3; omega
   ·exact h
  have hlt : m / 128 < 128 ^ k:=by
   rw [Int.pow_succ] at h3
   omega
  rcases hO with ⟨rfl,a3⟩ | ⟨g,a3,g1,g2,g3⟩
  ·simp [pc15_l1,a0,a3,hm',wrap_u8,or_u8,shr7]
   refine ⟨⟨k,m / 128,[byteI m ||| 128],hk,by omega,hlt,by rw [← h4]; simp,by simp at h5 ⊢; omega,by simp,.inr ⟨τ.nf,by simp [B],hA.nf,by simp,by simp⟩,hA.newF⟩,?_⟩
   simp only [MUn,a0]; simp; omega
  ·simp [pc15_l1,a0,a3,hm',wrap_u8,or_u8,shr7,g3]
   have hgn:=hA.nf
   refine ⟨by omega,⟨k,m / 128,bs ++ [byteI m ||| 128],hk,by omega,hlt,by rw [← h4]; simp,by simp at h5 ⊢; omega,by simp,.inr ⟨τ.nf,by simp [B],hgn,by simp,by simp⟩,(hA.setF g1).newF (σ':=τ.setF g .dead)⟩,?_⟩
   simp only [MUn,a0]; simp; omega
def SnI (n0 : Int) (σ : AS) (a : Nat → AV) (τ : AS) : Prop := ∃ (k : Nat) (n : Int) (bs : List UInt8),k ≤ 9 ∧ -(64 * 128 ^ k) ≤ n ∧ n < 64 * 128 ^ k ∧ bs ++ sF (k + 1) n = sI n0 ∧ bs.length + k + 1 ≤ 10 ∧ a 0 = .int .i64 n ∧ ((bs = [] ∧ a 3 = .nilsl) ∨ ∃ g,a 3 = .sl (.fam g false) 1 (B bs) ∧ σ.nf ≤ g ∧ g < τ.nf ∧ τ.F g = .alive) ∧ Adds σ τ
def MUs (r : Nat) (a : Nat → AV) (_ : AS) : Nat := match a r with | .int _ i => i.natAbs | _ => 0
theorem s_calls {n : Int} (hn : -(2 ^ 63) ≤ n ∧ n < 2 ^ 63) (h : ∀ v σ',NewB σ σ' v (sI n) → R (.ret v) σ') : ACalls Tryz.prog G 13 [.int .i64 n] σ R := by
 refine calls13 rfl ?_
 simp [pc13]
 refine aloop (SnI n σ) (MUs 0) ⟨9,n,[],by omega,by omega,by omega,rfl,by simp,by simp,.inl ⟨rfl,by simp⟩,.refl _⟩ fun a τ hI=>?_
 obtain ⟨k,m,bs,h2,h3,h3',h4,h5,a0,hO,hA⟩:=hI
 rw [sF] at h4
 have fin : ∀ (x : Prop),x = (m < -64 ∨ 63 < m) → x = x:=fun _ _=>rfl
 by_cases hm : -64 ≤ m ∧ m ≤ 63
 ·rw [if_pos hm] at h4
  have hm1 : ¬ m < -64:=by omega
  have hm2 : ¬ 63 < m:=by omega
  rcases hO with ⟨rfl,a3⟩ | ⟨g,a3,g1,g2,g3⟩
  ·simp [pc13_l1,pc13_r1,a0,a3,hm1,hm2,wrap_u8,and_u8]
   refine h _ _ ⟨.inr ⟨τ.nf,?_,hA.nf,by simp,by simp⟩,hA.newF⟩
   rw [← h4]; simp [B]
  ·simp [pc13_l1,pc13_r1,a0,a3,hm1,hm2,wrap_u8,and_u8,g3]
   refine ⟨by omega,?_⟩
   refine h _ _ ⟨.inr ⟨τ.nf,?_,hA.nf,by simp,by simp⟩,(hA.setF g1).newF (σ':=τ.setF g .dead)⟩
   rw [← h4]; simp [B]
 ·rw [if_neg hm] at h4
  have hk : 1 ≤ k:=by
   rcases Nat.eq_zero_or_pos k with rfl | h
   ·simp at h3 h3'; omega
   ·exact h
  obtain ⟨k,rfl⟩ : ∃ j,k = j + 1:=⟨k - 1,by omega⟩
  have hlt : m / 128 < 64 * 128 ^ k:=by
   rw [Int.pow_succ] at h3'
   omega
  have hle : -(64 * 128 ^ k) ≤ m / 128:=by
   rw [Int.pow_succ] at h3
   omega
  have hgn:=hA.nf
  by_cases hm1 : m < -64
  ·rcases hO with ⟨rfl,a3⟩ | ⟨g,a3,g1,g2,g3⟩
   ·simp [pc13_l1,a0,a3,hm1,wrap_u8,or_u8,shr7]
    refine ⟨⟨k,m / 128,[byteI m ||| 128],by omega,hle,hlt,by rw [← h4]; simp,by simp at h5 ⊢; omega,by simp,.inr ⟨τ.nf,by simp [B],hA.nf,by simp,by simp⟩,hA.newF⟩,?_⟩
    simp only [MUs,a0]; simp; omega
   ·simp [pc13_l1,a0,a3,hm1,wrap_u8,or_u8,shr7,g3]
    refine ⟨by omega,⟨k,m / 128,bs ++ [byteI m ||| 128],by omega,hle,hlt,by rw [← h4]; simp,by simp at h5 ⊢; omega,by simp,.inr ⟨τ.nf,by simp [B],hgn,by simp,by simp⟩,(hA.setF g1).newF (σ':=τ.setF g .dead)⟩,?_⟩
    simp only [MUs,a0]; simp; omega
  ·have hm2 : 63 < m:=by omega
   rcases hO with ⟨rfl,a3⟩ | ⟨g,a3,g1,g2,g3⟩
   ·simp [pc13_l1,a0,a3,hm1,hm2,wrap_u8,or_u8,shr7]
    refine ⟨⟨k,m / 128,[byteI m ||| 128],by omega,hle,hlt,by rw [← h4]; simp,by simp at h5 ⊢; omega,by simp,.inr ⟨τ.nf,by simp [B],hA.nf,by simp,by simp⟩,hA.newF⟩,?_⟩
    simp only [MUs,a0]; simp; omega
   ·simp [pc13_l1,a0,a3,hm1,hm2,wrap_u8,or_u8,shr7,g3]
    refine ⟨by omega,⟨k,m / 128,bs ++ [byteI m ||| 128],by omega,hle,hlt,by rw [← h4]; simp,by simp at h5 ⊢; omega,by simp,.inr ⟨τ.nf,by simp [B],hgn,by simp,by simp⟩,(hA.setF g1).newF (σ':=τ.setF g .dead)⟩,?_⟩
    simp only [MUs,a0]; simp; omega
end
end Go.Proofs.YthejpoplbllcbaaGreatDoor
set_option linter.unusedSimpArgs false
set_option linter.unusedVariables false
namespace Go.Proofs.YthejpoplbllcbaaGreatDoor
open Go Go.Abs
def BytO (σ : AS) (v : AV) (bs : List UInt8) : Prop := (bs = [] ∧ v = .nilsl) ∨ ∃ φ,v = .sl φ 1 (B bs) ∧ Al.Rd σ φ
theorem BytO.one {σ v bs} (h : BytO σ v bs) : v.known = true ∧ v.one = true ∧ v.cells = [v] := by rcases h with ⟨_,rfl⟩ | ⟨b,rfl,_⟩ <;> simp
theorem BytO.keep {σ σ' v bs} (h : BytO σ v bs) (A : Adds σ σ') : BytO σ' v bs := by
 rcases h with h | ⟨b,h,r⟩
 ·exact .inl h
 ·exact .inr ⟨b,h,r.keep A⟩
theorem BytO.len {σ v bs} (h : BytO σ v bs) (K : AV → Prop) : alen Tryz.prog 22 v K = K (.int .i64 (bs.length : Int)) := by
 rcases h with ⟨rfl,rfl⟩ | ⟨b,rfl,_⟩ <;> simp
theorem NewB.byt {σ σ' v bs} (h : NewB σ σ' v bs) : BytO σ' v bs := by
 rcases h.1 with ⟨h1,h2⟩ | ⟨g,h1,h2,h3,h4⟩
 ·exact .inl ⟨by simpa [B] using h1,h2⟩
 ·exact .inr ⟨_,h1,h3,h4⟩
theorem B_one (bs : List UInt8) : ∀ y,y ∈ B bs → y.cells.length = 1 ∧ ∀ c,c ∈ y.cells → c.one = true := by
 intro y hy
 simp only [B,List.mem_map] at hy
 obtain ⟨b,_,rfl⟩:=hy
 simp
theorem NewB.behind {σ σ1 σ2 v bs} (A : Adds σ σ1) (h : NewB σ1 σ2 v bs) : NewB σ σ2 v bs := by
 refine ⟨?_,A.trans h.2⟩
 rcases h.1 with h1 | ⟨g,h1,h2,h3,h4⟩
 ·exact .inl h1
 ·exact .inr ⟨g,h1,Nat.le_trans A.nf h2,h3,h4⟩
section
variable {G : Env} {σ : AS} {R : Out → AS → Prop}
theorem grow_calls {n : Nat} (hn : n < 2 ^ 40) (g0 : n = 0 → R (.ret .nilsl) σ) (g1 : 0 < n → R (.ret (.sl (.fam σ.nf false) 1 [])) σ.newF) : ACalls Tryz.prog G 83 [.nilsl,.int .i64 (n : Int)] σ R := by
 refine calls83 rfl ?_
 have w5 : IntKind.wrap .i64 0 = 0:=rfl
 have w2 : IntKind.wrap .i64 (n : Int) = (n : Int):=by rw [wrap_i64] <;> omega
 have n2 : ¬ (n : Int) < 0:=by omega
 cases n with
 | zero =>
  simp [pc83,w5]
  exact g0 rfl
 | succ n =>
  have hz' : (0 : Int) < ((n + 1 : Nat) : Int):=by omega
  have e1 : (((n + 1 : Nat) : Int)).toNat = n + 1:=by omega
  simp only [Int.natCast_add,Int.natCast_one] at *
  simp [pc83,w5,w2,n2,hz',e1,List.replicate_succ,bounds,optInt]
  exact ⟨by omega,by omega,by omega,by omega,g1 (by omega)⟩
def sumB (l : List (List UInt8)) : Nat := (l.map List.length).sum
theorem sumB_flat (l : List (List UInt8)) : l.flatten.length = sumB l := by simp [sumB,List.length_flatten]
theorem sumB_take {l : List (List UInt8)} {i : Nat} {b : List UInt8} (h : l[i]? = some b) : sumB (l.take (i + 1)) = sumB (l.take i) + b.length := by
 rw [take_snoc h]; simp [sumB]
theorem sumB_le (l : List (List UInt8)) (i : Nat) : sumB (l.take i) ≤ sumB l := by
 have e : sumB (l.take i ++ l.drop i) = sumB (l.take i) + sumB (l.drop i):=by simp only [sumB,List.map_append,List.sum_append]
 rw [List.take_append_drop] at e
 omega
end
def BysO (σ : AS) (v : AV) (l : List (List UInt8)) : Prop := (l = [] ∧ v = .nilsl) ∨ ∃ φ rows,v = .sl φ 1 rows ∧ Al.Rd σ φ ∧ All2 (BytO σ) rows l
theorem BysO.one {σ v l} (h : BysO σ v l) : v.known = true ∧ v.one = true ∧ v.cells = [v] := by rcases h with ⟨_,rfl⟩ | ⟨b,_,rfl,_⟩ <;> simp
theorem BysO.keep {σ σ' v l} (h : BysO σ v l) (A : Adds σ σ') : BysO σ' v l := by
 rcases h with h | ⟨φ,rows,h,r,k⟩
 ·exact .inl h
 ·exact .inr ⟨φ,rows,h,r.keep A,Al.all2_mono k fun _ _ q=>q.keep A⟩
theorem BysO.len {σ v l} (h : BysO σ v l) (K : AV → Prop) : alen Tryz.prog 65 v K = K (.int .i64 (l.length : Int)) := by
 rcases h with ⟨rfl,rfl⟩ | ⟨b,rows,rfl,_,hr⟩
 ·simp
 ·simp [hr.length]
theorem BysO.at {σ v l} (h : BysO σ v l) {i : Nat} (hi : i < l.length) : ∃ φ rv,Al.Rd σ φ ∧ BytO σ rv l[i] ∧ ∀ K : AV → Prop,aindexAddr Tryz.prog 65 v (.int .i64 (i : Int)) K = K (.pv φ rv) := by
 rcases h with ⟨rfl,_⟩ | ⟨φ,rows,rfl,r,hr⟩
 ·simp at hi
 ·obtain ⟨rv,h1,h2⟩:=hr.get (List.getElem?_eq_getElem hi)
  exact ⟨φ,rv,r,h2,fun K=>by simp [h1]⟩
theorem BysO.lit {σ b vs l} (h : All2 (BytO σ) vs l) : BysO σ (.sl (.stat b) 1 vs) l := .inr ⟨_,_,rfl,trivial,h⟩
section
variable {G : Env} {σ : AS} {R : Out → AS → Prop}
def CI1 (v : AV) (l : List (List UInt8)) (σ : AS) (a : Nat → AV) (τ : AS) : Prop := ∃ i : Nat,i ≤ l.length ∧ a 0 = v ∧ a 9 = v ∧ a 10 = .int .i64 (l.length : Int) ∧ a 11 = .int .i64 (i : Int) ∧ a 3 = .int .i64 ((sumB (l.take i) : Nat) : Int) ∧ τ = σ
def CI2 (v : AV) (l : List (List UInt8)) (σ : AS) (a : Nat → AV) (τ : AS) : Prop := ∃ i : Nat,i ≤ l.length ∧ a 25 = v ∧ a 26 = .int .i64 (l.length : Int) ∧ a 27 = .int .i64 (i : Int) ∧ Adds σ τ ∧
 ((sumB l = 0 ∧ a 6 = .nilsl) ∨ ∃ g,a 6 = .sl (.fam g false) 1 (B (l.take i).flatten) ∧ σ.nf ≤ g ∧ g < τ.nf ∧ τ.F g = .alive)
set_option maxHeartbeats 1000000 in
theorem concatB_calls {v : AV} {l : List (List UInt8)} (hv : BysO σ v l) (hs : sumB l < 2 ^ 40) (hl : l.length ≤ 2 ^ 40) (h : ∀ v σ',NewB σ σ' v l.flatten → R (.ret v) σ') : ACalls Tryz.prog G 41 [v] σ R := by
 refine calls41 rfl ?_
 have hlen:=hv.len
 have hon:=hv.one
 simp [pc41,hlen,hon]
 refine aloop (CI1 v l σ) (MU 11 (l.length + 1)) ⟨0,by omega,by simp,by simp,by simp,by simp,by simp [sumB],rfl⟩ fun a τ hI=>?_
 obtain ⟨i,hi,a0,a9,a10,a11,a3,rfl⟩:=hI
 by_cases hlt : i < l.length
 ·have hlt' : (i : Int) < (l.length : Int):=by omega
  have hg:=List.getElem?_eq_getElem hlt
  obtain ⟨φ0,x,hr0,hb,hx⟩:=hv.at hlt
  have hr0:=hr0.read
  have hst:=sumB_take hg
  have hsl:=sumB_le l (i + 1)
  generalize l[i] = y at *
  have x1:=hb.one
  have x2:=hb.len
  have w1 : IntKind.wrap .i64 ((i : Int) + 1) = ((i + 1 : Nat) : Int):=by rw [wrap_i64] <;> omega
  have w2 : IntKind.wrap .i64 (((sumB (l.take i) : Nat) : Int) + (y.length : Int)) = ((sumB (l.take i) + y.length : Nat) : Int):=by rw [wrap_i64] <;> omega
  have n2 : ¬ ((sumB (l.take i) : Nat) : Int) + (y.length : Int) < 0:=by omega
  simp [pc41_l1,a0,a9,a10,a11,a3,hlt',hx,hr0,x1,x2,w1,w2,n2]
  refine ⟨⟨i + 1,by omega,by simp [a0],by simp [a9],by simp [a10],by simp,by simp [hst],rfl⟩,?_⟩
  simp only [MU,a11]; simp; omega
 ·have hie : i = l.length:=by omega
  subst hie
  rw [List.take_length] at a3
  have ht:=sumB_flat l
  simp [pc41_l1,pc41_r1,pc41_r2,a0,a9,a10,a11,a3]
  refine grow_calls hs (fun hz=>?_) (fun hz=>?_)
  ·simp [hlen,a0]
   refine aloop (CI2 v l τ) (MU 27 (l.length + 1)) ⟨0,by omega,by simp [a0],by simp,by simp,.refl _,.inl ⟨hz,by simp⟩⟩ fun a2 τ2 hI2=>?_
   obtain ⟨i,hi,b25,b26,b27,hA,hO⟩:=hI2
   by_cases hlt : i < l.length
   ·have hlt' : (i : Int) < (l.length : Int):=by omega
    have hg:=List.getElem?_eq_getElem hlt
    obtain ⟨φ0,x,hr0,hb,hx⟩:=(hv.keep hA).at hlt
    have hr0:=hr0.read
    have hst:=sumB_take hg
    have hsl:=sumB_le l (i + 1)
    have htk:=take_snoc hg
    generalize l[i] = y at *
    have x1:=hb.one
    have hfl:=sumB_flat (l.take i)
    have w1 : IntKind.wrap .i64 ((i : Int) + 1) = ((i + 1 : Nat) : Int):=by rw [wrap_i64] <;> omega
    have hgn:=hA.nf
    rcases hO with ⟨h0,b6⟩ | ⟨g,b6,g1,g2,g3⟩
    ·have hy : y = []:=List.length_eq_zero_iff.1 (by omega)
     subst hy
     rcases hb with ⟨_,rfl⟩ | ⟨φ,rfl,hr⟩
     ·simp [pc41_l2,b25,b26,b27,b6,hlt',hx,hr0,w1]
      refine ⟨⟨i + 1,by omega,by simp [b25],by simp [b26],by simp,hA,.inl ⟨h0,by simp⟩⟩,?_⟩
      simp only [MU,b27]; simp; omega
     ·have hr':=hr.read
      simp [pc41_l2,b25,b26,b27,b6,hlt',hx,hr0,w1,hr',B]
      refine ⟨⟨i + 1,by omega,by simp [b25],by simp [b26],by simp,hA,.inl ⟨h0,by simp⟩⟩,?_⟩
      simp only [MU,b27]; simp; omega
    ·rcases hb with ⟨rfl,rfl⟩ | ⟨φ,rfl,hr⟩
     ·simp [pc41_l2,b25,b26,b27,b6,hlt',hx,hr0,w1,g3]
      have hsm : (List.take i (List.map List.length l)).sum = sumB (l.take i):=by rw [← List.map_take]; rfl
      refine ⟨by omega,⟨i + 1,by omega,by simp [b25],by simp [b26],by simp,(hA.setF g1).newF (σ':=τ2.setF g .dead),.inr ⟨τ2.nf,by rw [htk]; simp,hgn,by simp,by simp⟩⟩,?_⟩
      simp only [MU,b27]; simp; omega
     ·have hr':=hr.read
      simp [pc41_l2,b25,b26,b27,b6,hlt',hx,hr0,w1,g3,hr']
      have hsm : (List.take i (List.map List.length l)).sum = sumB (l.take i):=by rw [← List.map_take]; rfl
      refine ⟨B_one y,by omega,⟨i + 1,by omega,by simp [b25],by simp [b26],by simp,(hA.setF g1).newF (σ':=τ2.setF g .dead),.inr ⟨τ2.nf,by rw [htk]; simp,hgn,by simp,by simp⟩⟩,?_⟩
      simp only [MU,b27]; simp; omega
   ·have hie : i = l.length:=by omega
    subst hie
    rw [List.take_length] at hO
    rcases hO with ⟨h0,b6⟩ | ⟨g,b6,g1,g2,g3⟩
    ·simp [pc41_l2,pc41_r1,b26,b27,b6]
     exact h _ _ ⟨.inl ⟨by have : l.flatten = []:=List.length_eq_zero_iff.1 (by omega); rw [this]; rfl,rfl⟩,hA⟩
    ·simp [pc41_l2,pc41_r1,b26,b27,b6]
     exact h _ _ ⟨.inr ⟨g,rfl,g1,g2,g3⟩,hA⟩
  ·simp [hlen,a0]
   refine aloop (CI2 v l τ) (MU 27 (l.length + 1)) ⟨0,by omega,by simp [a0],by simp,by simp,(Adds.refl τ).newF,.inr ⟨τ.nf,by simp [B],by simp,by simp,by simp⟩⟩ fun a2 τ2 hI2=>?_
   obtain ⟨i,hi,b25,b26,b27,hA,hO⟩:=hI2
   by_cases hlt : i < l.length
   ·have hlt' : (i : Int) < (l.length : Int):=by omega
    have hg:=List.getElem?_eq_getElem hlt
    obtain ⟨φ0,x,hr0,hb,hx⟩:=(hv.keep hA).at hlt
    have hr0:=hr0.read
    have hst:=sumB_take hg
    have hsl:=sumB_le l (i + 1)
    have htk:=take_snoc hg
    generalize l[i] = y at *
    have x1:=hb.one
    have hfl:=sumB_flat (l.take i)
    have w1 : IntKind.wrap .i64 ((i : Int) + 1) = ((i + 1 : Nat) : Int):=by rw [wrap_i64] <;> omega
    have hgn:=hA.nf
    rcases hO with ⟨h0,b6⟩ | ⟨g,b6,g1,g2,g3⟩
    ·have hy : y = []:=List.length_eq_zero_iff.1 (by omega)
     subst hy
     rcases hb with ⟨_,rfl⟩ | ⟨φ,rfl,hr⟩
     ·simp [pc41_l2,b25,b26,b27,b6,hlt',hx,hr0,w1]
      refine ⟨⟨i + 1,by omega,by simp [b25],by simp [b26],by simp,hA,.inl ⟨h0,by simp⟩⟩,?_⟩
      simp only [MU,b27]; simp; omega
     ·have hr':=hr.read
      simp [pc41_l2,b25,b26,b27,b6,hlt',hx,hr0,w1,hr',B]
      refine ⟨⟨i + 1,by omega,by simp [b25],by simp [b26],by simp,hA,.inl ⟨h0,by simp⟩⟩,?_⟩
      simp only [MU,b27]; simp; omega
    ·rcases hb with ⟨rfl,rfl⟩ | ⟨φ,rfl,hr⟩
     ·simp [pc41_l2,b25,b26,b27,b6,hlt',hx,hr0,w1,g3]
      have hsm : (List.take i (List.map List.length l)).sum = sumB (l.take i):=by rw [← List.map_take]; rfl
      refine ⟨by omega,⟨i + 1,by omega,by simp [b25],by simp [b26],by simp,(hA.setF g1).newF (σ':=τ2.setF g .dead),.inr ⟨τ2.nf,by rw [htk]; simp,hgn,by simp,by simp⟩⟩,?_⟩
      simp only [MU,b27]; simp; omega
     ·have hr':=hr.read
      simp [pc41_l2,b25,b26,b27,b6,hlt',hx,hr0,w1,g3,hr']
      have hsm : (List.take i (List.map List.length l)).sum = sumB (l.take i):=by rw [← List.map_take]; rfl
      refine ⟨B_one y,by omega,⟨i + 1,by omega,by simp [b25],by simp [b26],by simp,(hA.setF g1).newF (σ':=τ2.setF g .dead),.inr ⟨τ2.nf,by rw [htk]; simp,hgn,by simp,by simp⟩⟩,?_⟩
      simp only [MU,b27]; simp; omega
   ·have hie : i = l.length:=by omega
    subst hie
    rw [List.take_length] at hO
    rcases hO with ⟨h0,b6⟩ | ⟨g,b6,g1,g2,g3⟩
    ·simp [pc41_l2,pc41_r1,b26,b27,b6]
     exact h _ _ ⟨.inl ⟨by have : l.flatten = []:=List.length_eq_zero_iff.1 (by omega); rw [this]; rfl,rfl⟩,hA⟩
    ·simp [pc41_l2,pc41_r1,b26,b27,b6]
     exact h _ _ ⟨.inr ⟨g,rfl,g1,g2,g3⟩,hA⟩
end
end Go.Proofs.YthejpoplbllcbaaGreatDoor
set_option linter.unusedSimpArgs false
set_option linter.unusedVariables false
namespace Go.Proofs.YthejpoplbllcbaaGreatDoor
open Go Go.Abs
def sizedL (bs : List UInt8) : List UInt8 := uI bs.length ++ bs
def sectionL (n : UInt8) (bs : List UInt8) : List UInt8 := n :: sizedL bs
def rowL (l : List (List UInt8)) : List UInt8 := uI l.length ++ l.flatten
theorem uI_len (n : Int) : (uI n).length ≤ 10 := uF_len 10 n
theorem sI_len (n : Int) : (sI n).length ≤ 10 := sF_len 10 n
theorem uF_ne {k : Nat} {n : Int} : uF (k + 1) n ≠ [] := by rw [uF]; split <;> simp
theorem uI_ne (n : Int) : uI n ≠ [] := uF_ne
section
variable {G : Env} {σ : AS} {R : Out → AS → Prop}
theorem app_calls {σ1 : AS} {v1 v2 : AV} {x y : List UInt8} {K : AV → AS → Prop} (h1 : NewB σ σ1 v1 x) (hx : x ≠ []) (h2 : BytO σ1 v2 y) (hl : x.length + y.length ≤ 2 ^ 42) (h : ∀ v σ',NewB σ σ' v (x ++ y) → K v σ') : aappend Tryz.prog 22 22 v1 v2 σ1 K := by
 obtain ⟨ho,hA⟩:=h1
 rcases ho with ⟨h0,_⟩ | ⟨g,rfl,g1,g2,g3⟩
 ·exact absurd (by simpa [B] using h0) hx
 have hgn:=hA.nf
 rcases h2 with ⟨rfl,rfl⟩ | ⟨φ,rfl,hr⟩
 ·simp [g3]
  exact ⟨by omega,h _ _ ⟨.inr ⟨σ1.nf,by simp,hgn,by simp,by simp⟩,(hA.setF g1).newF (σ':=σ1.setF g .dead)⟩⟩
 ·have hr':=hr.read
  simp [g3,hr']
  exact ⟨B_one y,by omega,h _ _ ⟨.inr ⟨σ1.nf,by simp,hgn,by simp,by simp⟩,(hA.setF g1).newF (σ':=σ1.setF g .dead)⟩⟩
theorem app_go {σ1 : AS} {v1 v2 : AV} {x y : List UInt8} {K : AV → AS → Prop} (h1 : NewB σ σ1 v1 x) (hx : x ≠ []) (h2 : BytO σ1 v2 y) (hl : x.length + y.length ≤ 2 ^ 42) (h : ∀ v σ',NewB σ σ' v (x ++ y) → K v σ') :
  asource Tryz.prog 22 (.int .u8 0) 1 v2 σ1.F fun ys=>(∀ y,y ∈ ys → y.cells.length = 1 ∧ ∀ c,c ∈ y.cells → c.one = true) ∧ grown 1 1 v1 ys σ1 K:=by
 have:=app_calls h1 hx h2 hl h
 simp at this
 exact this
theorem lit_go {σ1 : AS} {v2 : AV} {xs : List AV} {x y : List UInt8} {K : AV → AS → Prop} (hA : Adds σ σ1) (e : xs = B x) (hx : x ≠ []) (h2 : BytO σ1 v2 y) (hl : x.length + y.length ≤ 2 ^ 42) (h : ∀ v σ',NewB σ σ' v (x ++ y) → K v σ') (hy : y ≠ []) :
  asource Tryz.prog 22 (.int .u8 0) 1 v2 σ1.F fun ys=>(∀ y,y ∈ ys → y.cells.length = 1 ∧ ∀ c,c ∈ y.cells → c.one = true) ∧ grown 1 1 (.sl (.stat true) 1 xs) ys σ1 K:=by
 subst e
 have hgn:=hA.nf
 rcases h2 with ⟨rfl,rfl⟩ | ⟨φ,rfl,hr⟩
 ·exact absurd rfl hy
 ·have hr':=hr.read
  obtain ⟨c,y,rfl⟩:=List.exists_cons_of_ne_nil hy
  have e1 : B (c :: y) = AV.int .u8 (c.toNat : Int) :: B y:=rfl
  rw [e1]
  simp [hr']
  have:=B_one (c :: y)
  rw [e1] at this
  exact ⟨fun z hz=>B_one y z hz,by simp at hl; omega,h _ _ ⟨.inr ⟨σ1.nf,by simp [B],hgn,by simp,by simp⟩,hA.newF⟩⟩
theorem sized_calls {v : AV} {bs : List UInt8} (hv : BytO σ v bs) (hl : bs.length < 2 ^ 40) (h : ∀ v' σ',NewB σ σ' v' (sizedL bs) → R (.ret v') σ') : ACalls Tryz.prog G 42 [v] σ R := by
 refine calls42 rfl ?_
 have v1:=hv.one
 have v2:=hv.len
 simp [pc42,v1,v2]
 refine u_calls (by omega) fun u σ1 hu=>?_
 have hv1:=hv.keep hu.2
 have hul:=uI_len bs.length
 simp
 refine app_go hu (uI_ne _) hv1 (by omega) fun v' σ' h'=>?_
 simp
 exact h _ _ h'
theorem section_calls {n : UInt8} {v : AV} {l : List (List UInt8)} (hv : BysO σ v l) (hs : sumB l < 2 ^ 39) (hl : l.length ≤ 2 ^ 40) (h : ∀ v' σ',NewB σ σ' v' (sectionL n l.flatten) → R (.ret v') σ') : ACalls Tryz.prog G 45 [.int .u8 (n.toNat : Int),v] σ R := by
 refine calls45 rfl ?_
 have hon:=hv.one
 simp [pc45,hon]
 refine concatB_calls hv (by omega) hl fun c σ1 hc=>?_
 have hsl:=sumB_flat l
 simp
 refine sized_calls hc.byt (by omega) fun d σ2 hd=>?_
 simp
 have hsz : (sizedL l.flatten).length ≤ l.flatten.length + 10:=by simp only [sizedL,List.length_append]; have:=uI_len l.flatten.length; omega
 refine lit_go (x:=[n]) (hc.2.trans hd.2) rfl (by simp) hd.byt (by have : ([n] : List UInt8).length = 1:=rfl; omega) (fun v' σ' h'=>?_) (by simp [sizedL,uI_ne])
 simp
 exact h _ _ h'
theorem row_calls {v : AV} {l : List (List UInt8)} (hv : BysO σ v l) (hs : sumB l < 2 ^ 39) (hl : l.length ≤ 2 ^ 40) (h : ∀ v' σ',NewB σ σ' v' (rowL l) → R (.ret v') σ') : ACalls Tryz.prog G 46 [v] σ R := by
 refine calls46 rfl ?_
 have hlen:=hv.len
 have hon:=hv.one
 simp [pc46,hlen,hon]
 refine u_calls (by omega) fun u σ1 hu=>?_
 have hul:=uI_len l.length
 have hsl:=sumB_flat l
 simp
 have hv1:=hv.keep hu.2
 refine concatB_calls hv1 (by omega) hl fun c σ2 hc=>?_
 simp
 have hu2 : NewB σ σ2 u (uI l.length):=⟨hu.1.keep hc.2,hu.2.trans hc.2⟩
 refine app_go hu2 (uI_ne _) hc.byt (by omega) fun v' σ' h'=>?_
 simp
 exact h _ _ h'
def typesL (l : List Int) : List UInt8 := uI l.length ++ l.map fun t => byteI (128 - t)
def TyI (v : AV) (l : List Int) (σ : AS) (a : Nat → AV) (τ : AS) : Prop := ∃ i : Nat,i ≤ l.length ∧ a 9 = v ∧ a 10 = .int .i64 (l.length : Int) ∧ a 11 = .int .i64 (i : Int) ∧ NewB σ τ (a 3) (uI l.length ++ (l.take i).map fun t => byteI (128 - t))
theorem types_calls {v : AV} {l : List Int} (hv : Al.IntsO σ v l) (hl : l.length ≤ 2 ^ 39) (h : ∀ v' σ',NewB σ σ' v' (typesL l) → R (.ret v') σ') : ACalls Tryz.prog G 81 [v] σ R := by
 refine calls81 rfl ?_
 have v1:=hv.one
 have v2:=hv.len
 simp [pc81,v1,v2]
 refine u_calls (by omega) fun u σ1 hu=>?_
 have hul:=uI_len l.length
 simp [v2]
 refine aloop (TyI v l σ) (MU 11 (l.length + 1)) ⟨0,by omega,by simp,by simp,by simp,by simpa using hu⟩ fun a τ hI=>?_
 obtain ⟨i,hi,a9,a10,a11,hO⟩:=hI
 by_cases hlt : i < l.length
 ·have hlt' : (i : Int) < (l.length : Int):=by omega
  obtain ⟨φ,hr,hix⟩:=(hv.keep hO.2).at hlt
  have hr':=hr.read
  have hg:=List.getElem?_eq_getElem hlt
  have htk:=take_snoc hg
  generalize l[i] = t at *
  have w1 : IntKind.wrap .i64 ((i : Int) + 1) = ((i + 1 : Nat) : Int):=by rw [wrap_i64] <;> omega
  have w2 : IntKind.wrap .u8 (IntKind.wrap .i64 (128 - t)) = ((byteI (128 - t)).toNat : Int):=by
   rw [wrap_u8,byteI_nat,byteI_nat]
   simp [IntKind.wrap,IntKind.signed,IntKind.bits]
   omega
  obtain ⟨hq,hA⟩:=hO
  rcases hq with ⟨h0,_⟩ | ⟨g,b3,g1,g2,g3⟩
  ·have : uI l.length = []:=by
    have h0 : (B (uI l.length ++ (l.take i).map fun t=>byteI (128 - t))).length = 0:=by rw [h0]; rfl
    rw [B_len,List.length_append] at h0
    exact List.length_eq_zero_iff.1 (by omega)
   exact absurd this (uI_ne _)
  have hgn:=hA.nf
  simp [pc81_l1,a9,a10,a11,hlt',hix,hr',b3,w1,w2,g3]
  refine ⟨by omega,⟨i + 1,by omega,by simp [a9],by simp [a10],by simp,.inr ⟨τ.nf,by rw [htk]; simp [B],hgn,by simp,by simp⟩,(hA.setF g1).newF (σ':=τ.setF g .dead)⟩,?_⟩
  simp only [MU,a11]; simp; omega
 ·have hie : i = l.length:=by omega
  subst hie
  rw [List.take_length] at hO
  simp [pc81_l1,pc81_r1,a10,a11]
  exact h _ _ hO
def resultsL (t : Int) : List UInt8 := if t = 0 then typesL [] else typesL [t]
theorem results_calls {t : Int} (h : ∀ v' σ',NewB σ σ' v' (resultsL t) → R (.ret v') σ') : ACalls Tryz.prog G 82 [.int .i64 t] σ R := by
 refine calls82 rfl ?_
 by_cases ht : t = 0
 ·have e : resultsL t = typesL []:=if_pos ht
  rw [e] at h
  simp [pc82,ht]
  refine types_calls (l:=[]) (.inl ⟨rfl,rfl⟩) (by simp) fun v σ1 h1=>?_
  simp
  exact h _ _ h1
 ·have e : resultsL t = typesL [t]:=if_neg ht
  rw [e] at h
  simp [pc82,ht]
  refine types_calls (l:=[t]) (.inr ⟨.stat true,rfl,trivial⟩) (by simp) fun v σ1 h1=>?_
  simp
  exact h _ _ h1
def headL (takes : List Int) (gives : Int) : List UInt8 := 96 :: (typesL takes ++ resultsL gives)
theorem typesL_len (l : List Int) : (typesL l).length ≤ l.length + 10 := by
 have:=uI_len l.length
 simp [typesL]; omega
theorem resultsL_len (t : Int) : (resultsL t).length ≤ 11 := by
 unfold resultsL
 split
 ·exact Nat.le_trans (typesL_len []) (by simp)
 ·exact typesL_len [t]
theorem head_calls {v : AV} {l : List Int} {g : Int} (hv : Al.IntsO σ v l) (hl : l.length ≤ 2 ^ 38) (h : ∀ v' σ',NewB σ σ' v' (headL l g) → R (.ret v') σ') : ACalls Tryz.prog G 40 [v,.int .i64 g] σ R := by
 refine calls40 rfl ?_
 have v1:=hv.one
 have e0 : blitSl 22 [(0,Operand.const (.int .u8 96))] = false:=by decide
 simp [pc40,v1,e0]
 refine types_calls hv (by omega) fun t σ1 ht=>?_
 have ht1:=ht.byt
 simp
 refine results_calls fun r σ2 hr=>?_
 have t1:=(ht1.keep hr.2).one
 have r1:=hr.byt.one
 have hb : BytO σ2 (.sl (.stat true) 1 [.int .u8 96]) [96]:=.inr ⟨_,rfl,trivial⟩
 simp [t1,r1]
 have l1:=typesL_len l
 have l2:=resultsL_len g
 refine concatB_calls (l:=[[96],typesL l,resultsL g]) (BysO.lit (.cons hb (.cons (ht1.keep hr.2) (.cons hr.byt .nil)))) (by simp [sumB]; omega) (by simp) fun c σ3 hc=>?_
 simp
 have:=NewB.behind (ht.2.trans hr.2) hc
 simpa [headL] using h _ _ (by simpa [headL] using this)
theorem BytO.at {v : AV} {bs : List UInt8} (h : BytO σ v bs) {i : Nat} (hi : i < bs.length) : ∃ φ,Al.Rd σ φ ∧ ∀ K : AV → Prop,aindexAddr Tryz.prog 22 v (.int .i64 (i : Int)) K = K (.pv φ (.int .u8 (bs[i].toNat : Int))) := by
 rcases h with ⟨rfl,_⟩ | ⟨φ,rfl,r⟩
 ·simp at hi
 ·exact ⟨φ,r,fun K=>by simp [hi,B]⟩
def SbI (va vb : AV) (x y : List UInt8) (σ : AS) (a : Nat → AV) (τ : AS) : Prop := ∃ i : Nat,i ≤ x.length ∧ a 0 = va ∧ a 1 = vb ∧ a 5 = .int .i64 (i : Int) ∧ τ = σ ∧ x.take i = y.take i
theorem sameBytes_calls {va vb : AV} {x y : List UInt8} (ha : BytO σ va x) (hb : BytO σ vb y) (hl : x.length ≤ 2 ^ 40) (h : R (.ret (.bool (decide (x = y)))) σ) : ACalls Tryz.prog G 14 [va,vb] σ R := by
 refine calls14 rfl ?_
 have a1:=ha.one
 have a2:=ha.len
 have b1:=hb.one
 have b2:=hb.len
 by_cases hxy : x.length = y.length
 ·simp [pc14,a1,a2,b1,b2,hxy]
  refine aloop (SbI va vb x y σ) (MU 5 (x.length + 1)) ⟨0,by omega,by simp,by simp,by simp,rfl,by simp⟩ fun a τ hI=>?_
  obtain ⟨i,hi,c0,c1,c5,rfl,heq⟩:=hI
  by_cases hlt : i < x.length
  ·have hlt' : (i : Int) < (y.length : Int):=by omega
   obtain ⟨φ,hr,hix⟩:=ha.at hlt
   obtain ⟨ψ,hs,hiy⟩:=hb.at (show i < y.length by omega)
   have hr':=hr.read
   have hs':=hs.read
   have gx:=take_snoc (List.getElem?_eq_getElem hlt)
   have gy:=take_snoc (List.getElem?_eq_getElem (show i < y.length by omega))
   have w1 : IntKind.wrap .i64 ((i : Int) + 1) = ((i + 1 : Nat) : Int):=by rw [wrap_i64] <;> omega
   by_cases hc : x[i] = y[i]
   ·simp [pc14_l1,c0,c1,c5,a2,hxy,hlt',hix,hiy,hr',hs',hc,w1]
    refine ⟨⟨i + 1,by omega,by simp [c0],by simp [c1],by simp,rfl,by rw [gx,gy,heq,hc]⟩,?_⟩
    simp only [MU,c5]; simp; omega
   ·have hne : ¬ x = y:=fun e=>hc (by subst e; rfl)
    have hc' : ¬ ((x[i].toNat : Int) = (y[i].toNat : Int)):=fun e=>hc (UInt8.toNat_inj.1 (by exact_mod_cast e))
    simp [pc14_l1,c0,c1,c5,a2,hxy,hlt',hix,hiy,hr',hs',hc,hc']
    simpa [hne] using h
  ·have hie : i = x.length:=by omega
   subst hie
   have e : x = y:=by rw [List.take_length,hxy,List.take_length] at heq; exact heq
   simp [pc14_l1,pc14_r1,c0,c5,a2,hxy]
   simpa [e] using h
 ·have hne : ¬ x = y:=fun e=>hxy (by rw [e])
  have hxy' : ¬ ((x.length : Int) = (y.length : Int)):=by omega
  simp [pc14,a1,a2,b1,b2,hxy,hxy']
  simpa [hne] using h
theorem equal_calls {va vb : AV} {x y : List UInt8} (ha : BytO σ va x) (hb : BytO σ vb y) (h : R (.ret (.bool (decide (x = y)))) σ) : ACalls Tryz.prog G 33 [va,vb] σ R := by
 refine calls33 rfl ?_
 rcases ha with ⟨rfl,rfl⟩ | ⟨φ,rfl,hr⟩ <;> rcases hb with ⟨rfl,rfl⟩ | ⟨ψ,rfl,hs⟩
 ·simp [pc33]
  simpa using h
 ·have hs':=hs.read
  simp [pc33,hs']
  simpa using h
 ·have hr':=hr.read
  simp [pc33,hr']
  simpa using h
 ·have hs':=hs.read
  have hr':=hr.read
  simp [pc33,hr',hs']
  simpa using h
theorem und22 : Tryz.prog.underlying 22 = some (.slice 5) := by kernel_rfl
@[simp] theorem aeq22_nil : aeq Tryz.prog 22 .nilsl .nilsl = some true := by simp [aeq,aeq1,und22]
@[simp] theorem aeq22_sl (φ k l) : aeq Tryz.prog 22 (.sl φ k l) .nilsl = some false := by simp [aeq,aeq1,und22]
theorem clone_calls {v : AV} {bs : List UInt8} (hv : BytO σ v bs) (hl : bs.length ≤ 2 ^ 40) (h : ∀ v' σ',BytO σ' v' bs → Adds σ σ' → R (.ret v') σ') : ACalls Tryz.prog G 28 [v] σ R := by
 refine calls28 rfl ?_
 rcases hv with ⟨rfl,rfl⟩ | ⟨φ,rfl,hr⟩
 ·simp [pc28]
  exact h _ _ (.inl ⟨rfl,rfl⟩) (.refl _)
 ·have hr':=hr.read
  simp [pc28,hr']
  refine ⟨B_one bs,?_⟩
  cases bs with
  | nil =>
   have e1 : B [] = []:=rfl
   rw [e1]
   simp
   exact h _ _ (.inr ⟨.stat true,rfl,trivial⟩) (.refl _)
  | cons c y =>
   have e1 : B (c :: y) = AV.int .u8 (c.toNat : Int) :: B y:=rfl
   rw [e1]
   simp
   refine ⟨by simp at hl; omega,?_⟩
   exact h _ _ (.inr ⟨.fam σ.nf false,by simp [B],by simp,by simp⟩) (Adds.refl _).newF
end
end Go.Proofs.YthejpoplbllcbaaGreatDoor
set_option linter.unusedSimpArgs false
set_option linter.unusedVariables false
namespace Go.Proofs.YthejpoplbllcbaaGreatDoor
open Go Go.Abs
def signText : List UInt8 := [97,100,100,32,115,117,98,32,109,117,108,32,100,105,118,95,115,32,114,101,109,95,115,32,97,110,100,32,111,114,32,120,111,114,32,115,104,108,32,115,104,114,95,115,32,101,113,32,110,101,32,108,116,95,115,32,103,116,95,115,32,108,101,95,115,32,103,101,95,115]
def signNames : List (List UInt8) := [[97,100,100],[115,117,98],[109,117,108],[100,105,118,95,115],[114,101,109,95,115],[97,110,100],[111,114],[120,111,114],[115,104,108],[115,104,114,95,115],[101,113],[110,101],[108,116,95,115],[103,116,95,115],[108,101,95,115],[103,101,95,115]]
def isSpB (c : UInt8) : Bool := c == 32 || (9 ≤ c && c ≤ 13)
def spTab : List AV := (List.range 256).map fun c => .int .u8 (if isSpB (UInt8.ofNat c) then 1 else 0)
def ones : List UInt8 := [106,107,108,109,111,113,114,115,116,117,70,71,72,74,76,78]
def twos : List UInt8 := [124,125,126,127,129,131,132,133,134,135,81,82,83,85,87,89]
def pw (op ty n : Int) : W := { op := op,ty := ty,n := n,body := 0,other := 0,name := [] }
def plainT : List (UInt8 × W) := [(0x45,pw 5 1 0),(0x50,pw 5 2 0),(0xA7,pw 6 0 0),(0xAC,pw 7 0 0),(0x2C,pw 8 1 1),(0x28,pw 8 1 4),(0x29,pw 8 2 8),(0x3A,pw 9 1 1),(0x36,pw 9 1 4),(0x37,pw 9 2 8),(0x0F,pw 16 0 0),(0x00,pw 17 0 0),(0x1A,pw 18 0 0)]
def numT : List (UInt8 × W) := [(0x41,pw 1 1 0),(0x42,pw 1 2 0),(0x20,pw 2 0 0),(0x21,pw 3 0 0),(0x10,pw 10 0 0),(0x0C,pw 14 0 0),(0x0D,pw 15 0 0)]
def keysA (l : List (UInt8 × W)) : List AV := l.map fun p => .int .u8 (p.1.toNat : Int)
def valsA (l : List (UInt8 × W)) : List AV := l.map fun p => p.2.av
structure VarsB (G : Env) : Prop where
 bytes : G.g 0 = .pv (.stat true) (.agg [.str ones,.str twos])
 plain : ∃ l : List (UInt8 × W),l.Perm plainT ∧ G.g 1 = .pv (.stat true) (.mp (keysA l) (valsA l))
 nums : ∃ l : List (UInt8 × W),l.Perm numT ∧ G.g 2 = .pv (.stat true) (.mp (keysA l) (valsA l))
 space : G.g 3 = .pv (.stat true) (.agg spTab)
def fC : Nat → Nat × Bool × UInt8
 | 0=>(0,true,0)
 | i + 1=>let c:=signText.getD i 0; let p:=fC i; (p.1 + (if p.2.1 && !isSpB c then 1 else 0),isSpB c,p.2.2 ||| c)
def fS : Nat → Nat × Nat
 | 0=>(0,0)
 | i + 1=>if isSpB (signText.getD i 0) then (i + 1,(fS i).2 + 1) else fS i
theorem spTab_at (c : UInt8) : spTab[c.toNat]? = some (.int .u8 (if isSpB c then 1 else 0)) := by
 have h : c.toNat < 256:=c.toNat_lt
 have : ∀ k : Fin 256,spTab[k.1]? = some (.int .u8 (if isSpB (UInt8.ofNat k.1) then 1 else 0)):=by
  intro k; simp [spTab]
 have:=this ⟨c.toNat,h⟩
 simpa using this
theorem sb_small : ∀ k,(fC k).1 ≤ k := by
 intro k
 induction k with
 | zero=>simp [fC]
 | succ k ih=>simp only [fC]; split <;> omega
def fCells (k : Nat) : List AV := (signNames.take k).map AV.str ++ List.replicate (16 - k) (.str [])
theorem fS_fact : ∀ i : Fin 70,(isSpB (signText.getD i 0) = true → signNames[(fS i).2]? = some ((signText.take i).drop (fS i).1) ∧ (fS i).2 < 16 ∧ (fS i).1 ≤ i ∧ i.1 + 1 < 70 ∧ isSpB (signText.getD (i.1 + 1) 0) = false ∧ fS (i.1 + 1) = (i.1 + 1,(fS i).2 + 1)) ∧ (isSpB (signText.getD i 0) = false → fS (i.1 + 1) = fS i) := by decide
theorem fS_end : fS 70 = (66,15) := by decide
theorem fCells_step {k : Nat} {b : List UInt8} (h : signNames[k]? = some b) : splice (fCells k) k [.str b] = fCells (k + 1) := by
 have hk:=(List.getElem?_eq_some_iff.1 h).1
 have hl : signNames.length = 16:=rfl
 have ht:=take_snoc h
 have hA : ((signNames.take k).map AV.str).length = k:=by simp; omega
 unfold splice fCells
 rw [List.take_left' hA,ht,List.map_append]
 have e : 16 - k = (16 - (k + 1)) + 1:=by omega
 have hd : ((signNames.take k).map AV.str ++ List.replicate (16 - k) (AV.str [])).drop (k + [AV.str b].length) = List.replicate (16 - (k + 1)) (AV.str []):=by
  rw [List.drop_append,List.drop_eq_nil_of_le (by rw [hA]; simp),hA,e]
  simp
 rw [hd]
 simp
theorem amake_strs {σ : AS} {K : AV → AS → Prop} : amake Tryz.prog 66 (.int .i64 16) (.int .i64 16) σ K = K (.slm σ.no 0 1 16) (σ.newO (fCells 0)) := by
 have e1 : elOf Tryz.prog 66 = some 1:=by kernel_rfl
 have e2 : elBytes Tryz.prog 66 = some 16:=by kernel_rfl
 have e3 : elZero Tryz.prog 66 = some (.str []):=by kernel_rfl
 have e4 : (16 : Int).toNat = 16:=rfl
 simp [amake,e1,e2,e3,e4,AV.cells,AV.known]
 exact Iff.rfl
section
variable {G : Env} {σ : AS} {R : Out → AS → Prop}
def F1 (σ : AS) (a : Nat → AV) (τ : AS) : Prop := ∃ i : Nat,i ≤ signText.length ∧ a 0 = .str signText ∧ a 3 = .int .i64 ((fC i).1 : Nat) ∧ a 4 = .int .i64 (if (fC i).2.1 then 1 else 0) ∧ a 5 = .int .u8 ((fC i).2.2.toNat : Nat) ∧ a 6 = .int .i64 (i : Nat) ∧ τ = σ
def F4 (σ : AS) (x : Nat) (a : Nat → AV) (τ : AS) : Prop := ∃ i : Nat,i ≤ signText.length ∧ a 0 = .str signText ∧ a 9 = .slm x 0 1 16 ∧ a 10 = .int .i64 ((fS i).2 : Nat) ∧ a 11 = .int .i64 ((fS i).1 : Nat) ∧ a 12 = .int .i64 (i : Nat) ∧ Adds σ τ ∧ x < τ.no ∧ τ.objs x = some (fCells (fS i).2)
theorem fields_calls (V : VarsB G) (h : ∀ x σ',Adds σ σ' → σ.no ≤ x → x < σ'.no → σ'.objs x = some (signNames.map AV.str) → R (.ret (.slm x 0 1 16)) σ') : ACalls Tryz.prog G 107 [.str signText] σ R := by
 refine calls107 rfl ?_
 have v3:=V.space
 have hL : signText.length = 70:=rfl
 simp [pc107]
 refine aloop (F1 σ) (MU 6 (signText.length + 1)) ⟨0,by omega,by simp,by simp [fC],by simp [fC],by simp [fC],by simp,rfl⟩ fun a τ hI=>?_
 obtain ⟨i,hi,a0,a3,a4,a5,a6,rfl⟩:=hI
 by_cases hlt : i < signText.length
 ·have hlt' : (i : Int) < (signText.length : Int):=by omega
  have hg:=List.getElem?_eq_getElem hlt
  have hf : fC (i + 1) = ((fC i).1 + (if (fC i).2.1 && !isSpB signText[i] then 1 else 0),isSpB signText[i],(fC i).2.2 ||| signText[i]):=by simp [fC,hg]
  have hn:=sb_small i
  generalize signText[i] = c at *
  have hs:=spTab_at c
  have w1 : IntKind.wrap .i64 ((i : Int) + 1) = ((i + 1 : Nat) : Int):=by rw [wrap_i64] <;> omega
  have w0 : ∀ b : UInt8,bits2 .u8 (· ||| ·) (b.toNat : Int) (c.toNat : Int) = ((b ||| c).toNat : Int):=fun b=>bits2_u8 (· ||| ·) b c
  have c1 : (c.toNat : Int) < 256:=by have:=c.toNat_lt; omega
  generalize fC i = p at *
  obtain ⟨n,ws,b⟩:=p
  have w2 : IntKind.wrap .i64 ((n : Int) + 1) = ((n + 1 : Nat) : Int):=by rw [wrap_i64] <;> omega
  have w3 : IntKind.wrap .i64 (n : Int) = (n : Int):=by rw [wrap_i64] <;> omega
  have w4 : IntKind.wrap .i64 0 = 0:=rfl
  have w5 : IntKind.wrap .i64 1 = 1:=rfl
  have z0 : bits2 .i64 (· ^^^ ·) (-1) 0 = -1:=by decide
  have z1 : bits2 .i64 (· ^^^ ·) (-1) 1 = -2:=by decide
  have z2 : bits2 .i64 (· &&& ·) 1 (-1) = 1:=by decide
  have z3 : bits2 .i64 (· &&& ·) 1 (-2) = 0:=by decide
  have z4 : bits2 .i64 (· &&& ·) 0 (-1) = 0:=by decide
  have z5 : bits2 .i64 (· &&& ·) 0 (-2) = 0:=by decide
  have z6 : IntKind.signed .i64 = true:=rfl
  cases hsp : isSpB c <;> cases ws <;> simp only [hsp,if_true,if_false,Bool.false_eq_true] at hs hf a4 ⊢ <;> simp at hn a3 a5 <;> simp [pc107_l1,a0,a3,a4,a5,a6,hlt',hg,v3,hs,c1,w0,w1,w2,w3,w4,w5,z0,z1,z2,z3,z4,z5,z6,-UInt8.toNat_or] <;> refine ⟨⟨i + 1,by omega,by simp [a0],by simp [hf],by simp [hf,hsp],by simp [hf],by simp,rfl⟩,?_⟩ <;> simp only [MU,a6] <;> simp <;> omega
 ·have hie : i = signText.length:=by omega
  subst hie
  have e1 : fC signText.length = (16,false,(fC 70).2.2):=by decide
  have e2 : ¬ (128 : Int) ≤ ((fC 70).2.2.toNat : Nat):=by decide
  rw [e1] at a3 a4 a5
  simp [pc107_l1,pc107_r4,a0,a3,a4,a5,a6,e2,amake_strs]
  refine aloop (fun a2 τ2=>a2 0 = .str signText ∧ a2 9 = .slm τ.no 0 1 16 ∧ a2 10 = .int .i64 0 ∧ a2 12 = .int .i64 0 ∧ τ2 = τ.newO (fCells 0)) (fun _ _=>0) ⟨by simp [a0],by simp,by simp,by simp,rfl⟩ fun a2 τ2 hI2=>?_
  obtain ⟨b0,b9,b10,b12,rfl⟩:=hI2
  have w5 : 0 < signText.length:=by decide
  have g0 : signText[0]'w5 = 97:=rfl
  have g1 : UInt8.toNat 97 = 97:=rfl
  have t0 : spTab[97]? = some (.int .u8 0):=(spTab_at 97).trans (by rw [show isSpB 97 = false from rfl]; rfl)
  simp [pc107_l2,pc107_r3,b0,b9,b10,b12,g0,g1,t0,v3,w5]
  refine aloop (F4 τ τ.no) (MU 12 (signText.length + 1)) ⟨0,by omega,by simp [b0],by simp [b9],by simp [b10,fS],by simp [fS],by simp [b12],(Adds.refl τ).newO,by simp,by simp [fS]⟩ fun a3 τ3 hI3=>?_
  obtain ⟨i,hi,c0,c9,c10,c11,c12,hA,hx,ho⟩:=hI3
  by_cases hlt : i < signText.length
  ·have hlt' : (i : Int) < (signText.length : Int):=by omega
   have hg:=List.getElem?_eq_getElem hlt
   obtain ⟨f1,f2⟩:=fS_fact ⟨i,by omega⟩
   have hgd : signText.getD i 0 = signText[i]:=by simp [hg]
   simp only [hgd] at f1 f2
   have w1 : IntKind.wrap .i64 ((i : Int) + 1) = ((i + 1 : Nat) : Int):=by rw [wrap_i64] <;> omega
   generalize signText[i] = c at *
   have hs:=spTab_at c
   have c1 : (c.toNat : Int) < 256:=by have:=c.toNat_lt; omega
   cases hsp : isSpB c with
   | false =>
    rw [hsp] at hs
    have f2:=f2 hsp
    simp at hs
    simp [pc107_l4,c0,c9,c10,c11,c12,hlt',hg,v3,hs,c1,w1]
    refine ⟨⟨i + 1,by omega,by simp [c0],by simp [c9],by simp [c10,f2],by simp [c11,f2],by simp,hA,hx,by simp [ho,f2]⟩,?_⟩
    simp only [MU,c12]; simp; omega
   | true =>
    rw [hsp] at hs
    obtain ⟨g1,g2,g3,g4,g5,g6⟩:=f1 hsp
    simp at hs
    simp [pc107_l4,c0,c9,c10,c11,c12,hlt',hg,v3,hs,c1,w1,ho]
    have hlen : (fCells (fS i).2).length = 16:=by
     simp only [fCells,List.length_append,List.length_map,List.length_take,List.length_replicate]
     have : signNames.length = 16:=rfl
     omega
    refine ⟨g3,by omega,by omega,by omega,?_⟩
    refine aloop (fun b τ4=>b 0 = .str signText ∧ b 9 = .slm τ.no 0 1 16 ∧ b 10 = .int .i64 (((fS i).2 + 1 : Nat) : Int) ∧ b 12 = .int .i64 ((i + 1 : Nat) : Int) ∧ Adds τ τ4 ∧ τ.no < τ4.no ∧ τ4.objs τ.no = some (fCells ((fS i).2 + 1))) (fun _ _=>0) ⟨by simp [c0],by simp [c9],by simp; rw [wrap_i64] <;> omega,by simp,hA.setO (by omega),by simp; exact hx,by simp; exact fCells_step g1⟩ fun b τ4 hI4=>?_
    obtain ⟨d0,d9,d10,d12,hA4,hx4,ho4⟩:=hI4
    have hlt2 : (((i + 1 : Nat) : Int)) < (signText.length : Int):=by omega
    have hlt3 : i + 1 < signText.length:=by omega
    have hg2:=List.getElem?_eq_getElem hlt3
    have hgd2 : signText.getD (i + 1) 0 = signText[i + 1]:=by simp [hg2]
    simp only [hgd2] at g5
    generalize signText[i + 1] = c' at *
    have hs2:=spTab_at c'
    rw [g5] at hs2
    have c1' : (c'.toNat : Int) < 256:=by have:=c'.toNat_lt; omega
    simp at hs2
    simp only [Int.natCast_add,Int.natCast_one] at d12 hlt2
    simp [pc107_l3,pc107_r1,d0,d9,d10,d12,hlt2,hg2,v3,hs2,c1']
    refine ⟨by omega,⟨i + 1,by omega,by simp [d0],by simp [d9],by simp [d10,g6],by simp [g6],by simp [d12],hA4,hx4,by simp [ho4,g6]⟩,?_⟩
    simp only [MU,c12]; simp [d12]; omega
  ·have hie : i = signText.length:=by omega
   subst hie
   have e3 : fS signText.length = (66,15):=fS_end
   rw [e3] at c10 c11 ho
   have w6 : (66 : Int) < signText.length:=by decide
   have w7 : 66 < signText.length:=by decide
   have w8 : (signText.length : Int) - 66 = 4:=by decide
   have e4 : signText.drop 66 = [103,101,95,115]:=by decide
   simp at c10 c11 ho
   simp [pc107_l4,pc107_r2,c0,c9,c10,c11,c12,ho,w6,w7]
   refine ⟨by omega,by decide,?_⟩
   rw [fCells_step (k:=15) (b:=signText.drop 66) (by decide)]
   exact h τ.no _ (hA.setO (by omega)) (by omega) (by simpa using hx) (by simp; rfl)
end
end Go.Proofs.YthejpoplbllcbaaGreatDoor
set_option linter.unusedSimpArgs false
set_option linter.unusedVariables false
namespace Go.Proofs.YthejpoplbllcbaaGreatDoor
open Go Go.Abs
def signIx (s : List UInt8) : Option Nat := signNames.findIdx? (· == s)
def keyN (w : W) : Int := if w.op = 8 ∨ w.op = 9 then w.n else 0
def hitsW (w : W) (p : UInt8 × W) : Bool := decide (p.2.op = w.op) && (decide (p.2.n = keyN w) && (decide (p.2.ty = 0) || decide (p.2.ty = w.ty)))
def lookT (w : W) : UInt8 := (((plainT ++ numT).find? (hitsW w)).map (·.1)).getD 0
def codeL (w : W) : Option UInt8 := if w.op = 4 then (match signIx w.name with
  | some i=>if w.ty = 1 then ones[i]? else if w.ty = 2 then twos[i]? else none
  | none=>none) else some (lookT w)
def left (seen : List Nat) : Nat → Nat
 | 0=>0
 | n + 1=>left seen n + if n ∈ seen then 0 else 1
theorem left_le (seen : List Nat) (i : Nat) : ∀ n,left (seen ++ [i]) n ≤ left seen n
 | 0=>Nat.le_refl _
 | n + 1=>by
  have:=left_le seen i n
  simp only [left,List.mem_append,List.mem_singleton]
  by_cases h : n ∈ seen <;> simp [h]
  ·exact this
  ·split <;> omega
theorem left_lt {seen : List Nat} {i : Nat} (h : i ∉ seen) : ∀ n,i < n → left (seen ++ [i]) n < left seen n
 | 0,hi=>by omega
 | n + 1,hi=>by
  have h2:=left_le seen i n
  simp only [left,List.mem_append,List.mem_singleton]
  by_cases hn : i = n
  ·subst hn
   simp [h]
   omega
  ·have:=left_lt h n (by omega)
   by_cases h' : n ∈ seen
   ·simp [h']; exact this
   ·have : ¬ n = i:=fun e=>hn e.symm
    simp [h',this]; exact left_lt h n (by omega)
theorem hits_one (w : W) : ∀ p ∈ plainT ++ numT,∀ q ∈ plainT ++ numT,hitsW w p = true → hitsW w q = true → p = q := by
 have key : ∀ p ∈ plainT ++ numT,∀ q ∈ plainT ++ numT,p.2.op = q.2.op → p.2.n = q.2.n → (p.2.ty = q.2.ty ∨ p.2.ty = 0 ∨ q.2.ty = 0) → p.1 = q.1 ∧ p.2.op = q.2.op:=by decide
 have key2 : ∀ p ∈ plainT ++ numT,∀ q ∈ plainT ++ numT,p.1 = q.1 → p = q:=by decide
 intro p hp q hq h1 h2
 simp only [hitsW,Bool.and_eq_true,Bool.or_eq_true,decide_eq_true_eq] at h1 h2
 refine key2 p hp q hq (key p hp q hq (h1.1.trans h2.1.symm) (h1.2.1.trans h2.2.1.symm) ?_).1
 rcases h1.2.2 with h | h
 ·exact .inr (.inl h)
 ·rcases h2.2.2 with h' | h'
  ·exact .inr (.inr h')
  ·exact .inl (h.trans h'.symm)
theorem look_hit {w : W} {p : UInt8 × W} (hp : p ∈ plainT ++ numT) (h : hitsW w p = true) : lookT w = p.1 := by
 unfold lookT
 cases hq : (plainT ++ numT).find? (hitsW w) with
 | none=>exact absurd h (by simpa using List.find?_eq_none.1 hq p hp)
 | some q=>rw [hits_one w q (List.mem_of_find?_eq_some hq) p hp (List.find?_some hq) h]; rfl
theorem look_none {w : W} (h : ∀ p ∈ plainT ++ numT,hitsW w p = false) : lookT w = 0 := by
 unfold lookT
 rw [List.find?_eq_none.2 (fun p hp=>by simp [h p hp])]
 rfl
section
variable {G : Env} {σ : AS} {R : Out → AS → Prop}
def IxI (x : Nat) (s : List UInt8) (σ : AS) (a : Nat → AV) (τ : AS) : Prop := ∃ i : Nat,i ≤ 16 ∧ a 0 = .slm x 0 1 16 ∧ a 1 = .str s ∧ a 7 = .int .i64 16 ∧ a 8 = .int .i64 (i : Int) ∧ τ = σ ∧ ∀ j,j < i → signNames[j]? ≠ some s
theorem index_calls {x : Nat} {s : List UInt8} (ho : σ.objs x = some (signNames.map AV.str)) (h : ∀ i : Nat,signIx s = some i → i < 16 → R (.ret (.int .i64 (i : Int))) σ) (h0 : signIx s = none → R (.ret (.int .i64 (-1))) σ) : ACalls Tryz.prog G 106 [.slm x 0 1 16,.str s] σ R := by
 refine calls106 rfl ?_
 have hl : signNames.length = 16:=rfl
 simp [pc106]
 refine aloop (IxI x s σ) (MU 8 17) ⟨0,by omega,by simp,by simp,by simp,by simp,rfl,by simp⟩ fun a τ hI=>?_
 obtain ⟨i,hi,a0,a1,a7,a8,rfl,hn⟩:=hI
 by_cases hlt : i < 16
 ·have hlt' : (i : Int) < 16:=by omega
  have hg:=List.getElem?_eq_getElem (show i < signNames.length by omega)
  have w1 : IntKind.wrap .i64 ((i : Int) + 1) = ((i + 1 : Nat) : Int):=by rw [wrap_i64] <;> omega
  generalize signNames[i] = y at *
  by_cases he : s = y
  ·subst he
   simp [pc106_l1,a0,a1,a7,a8,hlt',ho,hg]
   refine h i ?_ hlt
   unfold signIx
   rw [List.findIdx?_eq_some_iff_getElem]
   obtain ⟨hb,he⟩:=List.getElem?_eq_some_iff.1 hg
   refine ⟨hb,by simp [he],fun j hj=>?_⟩
   have:=hn j hj
   rw [List.getElem?_eq_getElem (show j < signNames.length by omega)] at this
   simpa using this
  ·simp [pc106_l1,a0,a1,a7,a8,hlt',ho,hg,he,w1]
   refine ⟨⟨i + 1,by omega,by simp [a0],by simp [a1],by simp [a7],by simp,rfl,fun j hj hs=>?_⟩,?_⟩
   ·rcases Nat.lt_or_ge j i with h1 | h1
    ·exact hn j h1 hs
    ·have : j = i:=by omega
     subst this
     rw [hg] at hs
     exact he (by cases hs; rfl)
   ·simp only [MU,a8]; simp; omega
 ·have hie : i = 16:=by omega
  subst hie
  simp [pc106_l1,pc106_r1,a0,a1,a7,a8]
  refine h0 ?_
  unfold signIx
  rw [List.findIdx?_eq_none_iff]
  intro y hy
  obtain ⟨j,hj,rfl⟩:=List.getElem_of_mem hy
  have:=hn j (by omega)
  rw [List.getElem?_eq_getElem hj] at this
  simpa using this
def MpI (σ : AS) (l : List (UInt8 × W)) (w : W) (k n : Nat) (v33 : AV) (a : Nat → AV) (τ : AS) : Prop := ∃ f seen,a 1 = .ptr k 0 ∧ a 3 = .int .i64 (keyN w) ∧ a 33 = v33 ∧ a 34 = .int .i64 2 ∧ a 35 = .int .i64 (n : Int) ∧ a 40 = .itr f (keysA l) (valsA l) seen ∧ σ.nf ≤ f ∧ f < τ.nf ∧ τ.F f = .alive ∧ Adds σ τ ∧ k < τ.no ∧ τ.objs k = some w.cs ∧ ∀ i ∈ seen,∀ p,l[i]? = some p → hitsW w p = false
def MLf (n : Nat) (a : Nat → AV) (_ : AS) : Nat := match a 40 with
 | .itr _ _ _ seen=>left seen n
 | _=>0
def MpO (σ : AS) (ls : List (List (UInt8 × W))) (w : W) (k : Nat) (v33 : AV) (a : Nat → AV) (τ : AS) : Prop := ∃ n : Nat,n ≤ 2 ∧ a 1 = .ptr k 0 ∧ a 3 = .int .i64 (keyN w) ∧ a 33 = v33 ∧ a 34 = .int .i64 2 ∧ a 35 = .int .i64 (n : Int) ∧ Adds σ τ ∧ k < τ.no ∧ τ.objs k = some w.cs ∧ ∀ l ∈ ls.take n,∀ p ∈ l,hitsW w p = false
@[simp] theorem anext_itr (f ks vs seen) (K : AV → AV → AS → Prop) : anext (.itr f ks vs seen) σ K = (σ.F f = .alive ∧ ((∀ i,i < ks.length → i ∈ seen) → K (.itr f ks vs seen) (.tuple [.bool false]) σ) ∧
   ∀ i k x,ks[i]? = some k → vs[i]? = some x → i ∉ seen → K (.itr σ.nf ks vs (seen ++ [i])) (.tuple [.bool true,k,x]) (σ.setF f .dead).newF):=rfl
@[simp] theorem cells_undef : AV.undef.cells = [.undef] := rfl
@[simp] theorem arange_mp (ks vs) (K : AV → AS → Prop) : arange Tryz.prog 125 (.mp ks vs) σ K = K (.itr σ.nf ks vs []) σ.newF := by
 have h : Tryz.prog.underlying 125 = some (.map 5 73):=by kernel_rfl
 simp [arange,h]
@[simp] theorem aentry_itr (f ks vs seen) (K : AV → Prop) : aentry (.itr f ks vs seen) σ K = (σ.F f = .alive ∧ bindO seen.getLast? fun i => bindO ks[i]? fun k => bindO vs[i]? fun x => K (.tuple [k,x])) := by
 simp only [aentry,bindO]
 refine propext ⟨fun ⟨h,i,k,x,h1,h2,h3,h4⟩=>⟨h,i,h1,k,h2,x,h3,h4⟩,fun ⟨h,i,h1,k,h2,x,h3,h4⟩=>⟨h,i,k,x,h1,h2,h3,h4⟩⟩
theorem keysA_at {l : List (UInt8 × W)} {i : Nat} {k x : AV} (hk : (keysA l)[i]? = some k) (hv : (valsA l)[i]? = some x) : ∃ p,l[i]? = some p ∧ k = .int .u8 (p.1.toNat : Int) ∧ x = p.2.av := by
 simp only [keysA,valsA,List.getElem?_map,Option.map_eq_some_iff] at hk hv
 obtain ⟨p,h1,rfl⟩:=hk
 obtain ⟨q,h2,rfl⟩:=hv
 rw [h1] at h2
 cases h2
 exact ⟨p,h1,rfl,rfl⟩
theorem code_body {l1 l2 : List (UInt8 × W)} {w : W} {k : Nat} (p1 : ∀ p,p ∈ l1 ↔ p ∈ plainT) (p2 : ∀ p,p ∈ l2 ↔ p ∈ numT) (h : ∀ σ',Adds σ σ' → R (.ret (.int .u8 ((lookT w).toNat : Int))) σ') {a : Nat → AV} {τ : AS}
  (hI : MpO σ [l1,l2] w k (.sl (.stat true) 1 [.mp (keysA l1) (valsA l1),.mp (keysA l2) (valsA l2)]) a τ) :
  avc Tryz.prog G 71 pc84_l2 (athen (fun a' σ'=>MpO σ [l1,l2] w k (.sl (.stat true) 1 [.mp (keysA l1) (valsA l1),.mp (keysA l2) (valsA l2)]) a' σ' ∧ MU 35 3 a' σ' < MU 35 3 a τ)
   (ablock 0 (athen (avc Tryz.prog G 71 pc84_r2 (afin Tryz.prog [.tmp 2] R)) (afin Tryz.prog [.tmp 2] R)))) a τ:=by
 obtain ⟨n,hn,a1,a3,a33,a34,a35,hA,hk,ho,hno⟩:=hI
 rcases Nat.lt_or_ge n 2 with hlt | hge
 ·have hlt' : (n : Int) < 2:=by omega
  have w1 : IntKind.wrap .i64 ((n : Int) + 1) = ((n + 1 : Nat) : Int):=by rw [wrap_i64] <;> omega
  obtain ⟨l,hl,hlx,hsub⟩ : ∃ l,[AV.mp (keysA l1) (valsA l1),.mp (keysA l2) (valsA l2)][n]? = some (.mp (keysA l) (valsA l)) ∧ ([l1,l2] : List _)[n]? = some l ∧ ∀ p ∈ l,p ∈ plainT ++ numT:=by
   rcases Nat.lt_or_ge n 1 with h1 | h1
   ·have : n = 0:=by omega
    subst this
    exact ⟨l1,rfl,rfl,fun p hp=>List.mem_append.2 (.inl ((p1 p).1 hp))⟩
   ·have : n = 1:=by omega
    subst this
    exact ⟨l2,rfl,rfl,fun p hp=>List.mem_append.2 (.inr ((p2 p).1 hp))⟩
  have htk:=take_snoc hlx
  simp [pc84_l2,a1,a3,a33,a34,a35,hlt',hl]
  have hnf:=hA.nf
  refine aloop (MpI σ l w k n (.sl (.stat true) 1 [.mp (keysA l1) (valsA l1),.mp (keysA l2) (valsA l2)])) (MLf l.length) ⟨τ.nf,[],by simp [a1],by simp [a3],by simp [a33],by simp [a34],by simp [a35],by simp,hnf,by simp,by simp,hA.newF,by simpa using hk,by simpa using ho,by simp⟩ fun b τ2 hI2=>?_
  obtain ⟨f,seen,b1,b3,b33,b34,b35,b40,f1,f2,f3,hA2,hk2,ho2,hs⟩:=hI2
  simp [pc84_l1,b40,f3]
  refine ⟨fun hall=>?_,fun i k' x' hk' hx' hni=>?_⟩
  ·simp [pc84_r1,b1,b3,b33,b34,b35,w1]
   refine ⟨⟨n + 1,by omega,by simp [b1],by simp [b3],by simp [b33],by simp [b34],by simp,hA2,hk2,ho2,fun l' hl' q hq=>?_⟩,?_⟩
   ·rw [htk] at hl'
    rcases List.mem_append.1 hl' with h1 | h1
    ·exact hno l' h1 q hq
    ·simp only [List.mem_singleton] at h1
     subst h1
     obtain ⟨i,hi,rfl⟩:=List.getElem_of_mem hq
     exact hs i (hall i (by simpa [keysA] using hi)) _ (List.getElem?_eq_getElem hi)
   ·simp only [MU,a35]; simp; omega
  ·obtain ⟨p,hp,rfl,rfl⟩:=keysA_at hk' hx'
   have hks : (keysA l)[i]? = some (.int .u8 (p.1.toNat : Int)):=hk'
   have hnf2:=hA2.nf
   have hmem:=hsub p (List.mem_of_getElem? hp)
   have kne : ¬ k = τ2.no:=by omega
   have kne' : ¬ τ2.no = k:=by omega
   have hil : i < l.length:=(List.getElem?_eq_some_iff.1 hp).1
   have ho2':=ho2
   simp only [W.cs] at ho2'
   have hlk:=left_lt hni l.length hil
   have go : hitsW w p = false → ∀ b' : Nat → AV,(∀ r,r ∈ [1,3,33,34,35] → b' r = b r) → b' 40 = .itr τ2.nf (keysA l) (valsA l) (seen ++ [i]) →
     MpI σ l w k n (.sl (.stat true) 1 [.mp (keysA l1) (valsA l1),.mp (keysA l2) (valsA l2)]) b' (((τ2.setF f .dead).newF.newO [.int .i64 0,.int .i64 0,.int .i64 0,.int .i64 0,.int .i64 0,.str []]).setO τ2.no p.2.cs) ∧ MLf l.length b' (((τ2.setF f .dead).newF.newO [.int .i64 0,.int .i64 0,.int .i64 0,.int .i64 0,.int .i64 0,.str []]).setO τ2.no p.2.cs) < MLf l.length b τ2:=fun hh b' hb h40=>by
    refine ⟨⟨τ2.nf,seen ++ [i],by rw [hb 1 (by simp),b1],by rw [hb 3 (by simp),b3],by rw [hb 33 (by simp),b33],by rw [hb 34 (by simp),b34],by rw [hb 35 (by simp),b35],h40,by omega,by simp,by simp,?_,by simp; omega,by simp [kne]; exact ho2,fun j hj q hq=>?_⟩,?_⟩
    ·exact (((hA2.setF f1).newF (σ':=τ2.setF f .dead)).newO).setO hA2.no
    ·rcases List.mem_append.1 hj with h1 | h1
     ·exact hs j h1 q hq
     ·simp only [List.mem_singleton] at h1
      subst h1
      rw [hp] at hq
      cases hq
      exact hh
    ·simp only [MLf,h40,b40]
     exact hlk
   have fin : hitsW w p = true → ∀ σ',Adds σ σ' → R (.ret (.int .u8 (p.1.toNat : Int))) σ':=fun hh σ' A'=>by
    have:=h σ' A'
    rwa [look_hit hmem hh] at this
   have hAf : Adds σ (((τ2.setF f .dead).newF.newO [.int .i64 0,.int .i64 0,.int .i64 0,.int .i64 0,.int .i64 0,.str []]).setO τ2.no p.2.cs):=(((hA2.setF f1).newF (σ':=τ2.setF f .dead)).newO).setO hA2.no
   simp only [W.cs] at go hAf
   by_cases c1 : w.op = p.2.op
   ·by_cases c2 : keyN w = p.2.n
    ·by_cases c3 : p.2.ty = 0
     ·simp [b1,b3,b33,b34,b35,hk',hx',W.av,W.cs,splice,ho2',kne,kne',c1,c2,c3]
      refine fin (by simp [hitsW,c1,c2,c3]) _ ?_
      simpa [c3] using hAf
     ·by_cases c4 : w.ty = p.2.ty
      ·simp [b1,b3,b33,b34,b35,hk',hx',W.av,W.cs,splice,ho2',kne,kne',c1,c2,c3,c4]
       exact fin (by simp [hitsW,c1,c2,c3,c4]) _ hAf
      ·have c4' : ¬ p.2.ty = w.ty:=fun e=>c4 e.symm
       simp [b1,b3,b33,b34,b35,hk',hx',W.av,W.cs,splice,ho2',kne,kne',c1,c2,c3,c4,c4']
       refine go (by simp [hitsW,c3,c4']) _ (fun r hr=>?_) (by simp)
       simp at hr; rcases hr with rfl | rfl | rfl | rfl | rfl <;> simp
    ·have c2' : ¬ p.2.n = keyN w:=fun e=>c2 e.symm
     simp [b1,b3,b33,b34,b35,hk',hx',W.av,W.cs,splice,ho2',kne,kne',c1,c2,c2']
     refine go (by simp [hitsW,c2']) _ (fun r hr=>?_) (by simp)
     simp at hr; rcases hr with rfl | rfl | rfl | rfl | rfl <;> simp
   ·have c1' : ¬ p.2.op = w.op:=fun e=>c1 e.symm
    simp [b1,b3,b33,b34,b35,hk',hx',W.av,W.cs,splice,ho2',kne,kne',c1,c1']
    refine go (by simp [hitsW,c1']) _ (fun r hr=>?_) (by simp)
    simp at hr; rcases hr with rfl | rfl | rfl | rfl | rfl <;> simp
 ·have : n = 2:=by omega
  subst this
  have hz : lookT w = 0:=look_none fun p hp=>by
   rcases List.mem_append.1 hp with hp | hp
   ·exact hno l1 (by simp) p ((p1 p).2 hp)
   ·exact hno l2 (by simp) p ((p2 p).2 hp)
  simp [pc84_l2,pc84_r2,a34,a35]
  have:=h _ hA
  rw [hz] at this
  simpa using this
theorem code_calls (V : VarsB G) {w : W} {c : UInt8} (hc : codeL w = some c) (h : ∀ σ',Adds σ σ' → R (.ret (.int .u8 (c.toNat : Int))) σ') : ACalls Tryz.prog G 84 [w.av] σ R := by
 have v0:=V.bytes
 obtain ⟨l1,hp1,v1⟩:=V.plain
 obtain ⟨l2,hp2,v2⟩:=V.nums
 have A0 : Adds σ (σ.newO w.cs):=(Adds.refl σ).newO
 have hlook : w.op ≠ 4 → lookT w = c:=fun h4=>by
  unfold codeL at hc
  rw [if_neg h4] at hc
  simpa using hc
 by_cases h4 : w.op = 4
 ·unfold codeL at hc
  rw [if_pos h4] at hc
  cases hx : signIx w.name with
  | none=>rw [hx] at hc; cases hc
  | some i =>
   rw [hx] at hc
   simp only at hc
   have hi : i < 16:=by
    unfold signIx at hx
    rw [List.findIdx?_eq_some_iff_getElem] at hx
    exact hx.1
   have fin : ∀ (bs : List UInt8),bs.length = 16 → bs[i]? = some c → (w.ty = 1 ∧ bs = ones ∨ w.ty = 2 ∧ bs = twos) → ACalls Tryz.prog G 84 [w.av] σ R:=fun bs hbl hbi hty=>by
    refine calls84 rfl ?_
    have w1 : IntKind.wrap .i64 0 = 0:=rfl
    have w2 : IntKind.wrap .i64 1 = 1:=rfl
    have e1 : (1 : Int).toNat = 1:=rfl
    rcases hty with ⟨hty,rfl⟩ | ⟨hty,rfl⟩ <;>
    ·simp [pc84,W.av,W.cs,h4,v0,hty,w1,w2]
     refine fields_calls V fun x σ1 A1 hx0 hx1 hxo=>?_
     have o1:=(A1.obj σ.no (by simp)).trans (show _ = some w.cs by simp [W.cs,h4,hty])
     simp only [W.cs] at o1
     simp [o1,hty]
     refine index_calls hxo (fun i' hi' hl'=>?_) (fun hn=>by rw [hx] at hn; cases hn)
     have : i' = i:=by rw [hx] at hi'; cases hi'; rfl
     subst this
     simp [o1,hty,hbi]
     exact h _ ((by simpa [W.cs,h4,hty] using A0 : Adds σ _).trans A1)
   by_cases t1 : w.ty = 1
   ·rw [if_pos t1] at hc
    exact fin _ rfl hc (.inl ⟨t1,rfl⟩)
   ·rw [if_neg t1] at hc
    by_cases t2 : w.ty = 2
    ·rw [if_pos t2] at hc
     exact fin _ rfl hc (.inr ⟨t2,rfl⟩)
    ·rw [if_neg t2] at hc
     cases hc
 ·have hlook:=hlook h4
  refine calls84 rfl ?_
  have h' : ∀ σ',Adds σ σ' → R (.ret (.int .u8 ((lookT w).toNat : Int))) σ':=fun σ' A'=>by rw [hlook]; exact h σ' A'
  have q1 : ∀ p,p ∈ l1 ↔ p ∈ plainT:=fun p=>hp1.mem_iff
  have q2 : ∀ p,p ∈ l2 ↔ p ∈ numT:=fun p=>hp2.mem_iff
  have key : ∀ a' : Nat → AV,a' 1 = .ptr σ.no 0 → a' 3 = .int .i64 (keyN w) → a' 33 = .sl (.stat true) 1 [.mp (keysA l1) (valsA l1),.mp (keysA l2) (valsA l2)] → a' 34 = .int .i64 2 → a' 35 = .int .i64 0 →
    ALoop Tryz.prog G 71 pc84_l2 (ablock 0 (athen (avc Tryz.prog G 71 pc84_r2 (afin Tryz.prog [.tmp 2] R)) (afin Tryz.prog [.tmp 2] R))) a' (σ.newO w.cs):=fun a' e1 e3 e33 e34 e35 =>
   aloop (MpO σ [l1,l2] w σ.no (.sl (.stat true) 1 [.mp (keysA l1) (valsA l1),.mp (keysA l2) (valsA l2)])) (MU 35 3) ⟨0,by omega,e1,e3,e33,e34,by simpa using e35,A0,by simp,by simp,by simp⟩ fun b τ hI=>code_body q1 q2 h' hI
  simp only [W.cs] at key
  by_cases h8 : w.op = 8
  ·simp [pc84,W.av,W.cs,h4,h8,v1,v2]
   refine ?_
   simp only [← h8]
   exact key _ (by simp) (by simp [keyN,h8]) (by simp) (by simp) (by simp)
  ·by_cases h9 : w.op = 9
   ·simp [pc84,W.av,W.cs,h4,h8,h9,v1,v2]
    simp only [← h9]
    exact key _ (by simp) (by simp [keyN,h9]) (by simp) (by simp) (by simp)
   ·simp [pc84,W.av,W.cs,h4,h8,h9,v1,v2]
    exact key _ (by simp) (by simp [keyN,h8,h9]) (by simp) (by simp) (by simp)
end
end Go.Proofs.YthejpoplbllcbaaGreatDoor
set_option linter.unusedSimpArgs false
set_option linter.unusedVariables false
namespace Go.Proofs.YthejpoplbllcbaaGreatDoor
open Go Go.Abs
section
variable {G : Env} {σ : AS} {R : Out → AS → Prop}
theorem NewB.keep {σ τ τ' v x} (h : NewB σ τ v x) (A : Adds τ τ') : NewB σ τ' v x := ⟨h.1.keep A,h.2.trans A⟩
theorem grow_bytes {τ : AS} {v : AV} {ys : List AV} {x y : List UInt8} {K : AV → AS → Prop} (h1 : NewB σ τ v x) (e : ys = B y) (hl : x.length + y.length ≤ 2 ^ 42) (h : ∀ v' σ',NewB σ σ' v' (x ++ y) → K v' σ') : grown 1 1 v ys τ K := by
 subst e
 obtain ⟨ho,hA⟩:=h1
 have hgn:=hA.nf
 rcases ho with ⟨h0,rfl⟩ | ⟨g,rfl,g1,g2,g3⟩
 ·have hx : x = []:=by simpa [B] using h0
  subst hx
  cases y with
  | nil=>simp [B]; exact h _ _ ⟨.inl ⟨rfl,rfl⟩,hA⟩
  | cons c y =>
   have e1 : B (c :: y) = AV.int .u8 (c.toNat : Int) :: B y:=rfl
   rw [e1]
   simp
   refine ⟨by simp at hl; omega,?_⟩
   exact h _ _ ⟨.inr ⟨τ.nf,by simp [B],hgn,by simp,by simp⟩,hA.newF⟩
 ·simp [g3]
  exact ⟨by omega,h _ _ ⟨.inr ⟨τ.nf,by simp,hgn,by simp,by simp⟩,(hA.setF g1).newF (σ':=τ.setF g .dead)⟩⟩
theorem grow_src {τ : AS} {v v2 : AV} {x y : List UInt8} {K : AV → AS → Prop} (h1 : NewB σ τ v x) (h2 : BytO τ v2 y) (hl : x.length + y.length ≤ 2 ^ 42) (h : ∀ v' σ',NewB σ σ' v' (x ++ y) → K v' σ') :
  asource Tryz.prog 22 (.int .u8 0) 1 v2 τ.F fun ys=>(∀ y,y ∈ ys → y.cells.length = 1 ∧ ∀ c,c ∈ y.cells → c.one = true) ∧ grown 1 1 v ys τ K:=by
 rcases h2 with ⟨rfl,rfl⟩ | ⟨φ,rfl,hr⟩
 ·simp
  exact grow_bytes h1 rfl hl h
 ·have hr':=hr.read
  simp [hr']
  exact ⟨B_one y,grow_bytes h1 rfl hl h⟩
def RowT (T : Nat → Nat) (τ : AS) (v : AV) (bs : List UInt8) : Prop := (bs = [] ∧ v = .nilsl) ∨ ∃ φ,v = .sl φ 1 (B bs) ∧ Al.Rd τ φ ∧ ∀ r b,φ = .fam r b → T r = 0
def GrowT (T : Nat → Nat) (i : Nat) (σ τ : AS) (v : AV) (l : List (List UInt8)) : Prop := (l = [] ∧ v = .nilsl) ∨ ∃ φ vs,v = .sl φ 1 vs ∧ (φ = .stat true ∨ ∃ g,φ = .fam g false ∧ σ.nf ≤ g ∧ g < τ.nf ∧ τ.F g = .alive ∧ T g = i) ∧ All2 (RowT T τ) vs l
def FreshT (T : Nat → Nat) (τ : AS) : Prop := ∀ f,τ.nf ≤ f → T f = 0
theorem RowT.keep {T τ τ' v bs} (h : RowT T τ v bs) (A : Adds τ τ') : RowT T τ' v bs := by
 rcases h with h | ⟨φ,h,r,k⟩
 ·exact .inl h
 ·exact .inr ⟨φ,h,r.keep A,k⟩
theorem GrowT.keep {T i σ τ τ' v l} (h : GrowT T i σ τ v l) (A : Adds τ τ') : GrowT T i σ τ' v l := by
 rcases h with h | ⟨φ,vs,h,r,k⟩
 ·exact .inl h
 ·refine .inr ⟨φ,vs,h,?_,Al.all2_mono k fun _ _ q=>q.keep A⟩
  rcases r with r | ⟨g,h1,h2,h3,h4,h5⟩
  ·exact .inl r
  ·exact .inr ⟨g,h1,h2,by have:=A.nf; omega,(A.fam g h3).trans h4,h5⟩
theorem RowT.byt {T τ v bs} (h : RowT T τ v bs) : BytO τ v bs := by
 rcases h with h | ⟨φ,h,r,_⟩
 ·exact .inl h
 ·exact .inr ⟨φ,h,r⟩
theorem GrowT.bys {T i σ τ v l} (h : GrowT T i σ τ v l) : BysO τ v l := by
 rcases h with h | ⟨φ,vs,h,r,k⟩
 ·exact .inl h
 ·refine .inr ⟨φ,vs,h,?_,Al.all2_mono k fun _ _ q=>q.byt⟩
  rcases r with rfl | ⟨g,rfl,h2,h3,h4,h5⟩
  ·exact trivial
  ·exact ⟨h3,h4⟩
theorem RowT.step {T τ1 v bs g i j} (h : RowT T τ1 v bs) (hg : T g = i) (hi : 1 ≤ i) : RowT (upd T τ1.nf j) (τ1.setF g .dead).newF v bs := by
 rcases h with h | ⟨φ,h,r,k⟩
 ·exact .inl h
 ·refine .inr ⟨φ,h,?_,fun r' b e=>?_⟩
  ·cases φ with
   | stat b=>exact trivial
   | fam f b =>
    have h0:=k f b rfl
    obtain ⟨h1,h2⟩:=r
    have hfg : f ≠ g:=fun e=>by rw [e] at h0; omega
    refine ⟨by simp; omega,?_⟩
    have : ¬ f = τ1.nf:=by omega
    simp [upd_at,this,hfg,h2]
  ·subst e
   have:=r.1
   have : ¬ r' = τ1.nf:=by omega
   simp [upd_at,this]
   exact k r' b rfl
theorem RowT.new {T τ1 v bs j} (h : RowT T τ1 v bs) : RowT (upd T τ1.nf j) τ1.newF v bs := by
 rcases h with h | ⟨φ,h,r,k⟩
 ·exact .inl h
 ·refine .inr ⟨φ,h,r.keep (Adds.refl _).newF,fun r' b e=>?_⟩
  subst e
  have:=r.1
  have : ¬ r' = τ1.nf:=by omega
  simp [upd_at,this]
  exact k r' b rfl
theorem GrowT.step {T σ τ1 v l g i j k} (h : GrowT T j σ τ1 v l) (hg : T g = i) (hi : 1 ≤ i) (hij : j ≠ i) : GrowT (upd T τ1.nf k) j σ (τ1.setF g .dead).newF v l := by
 rcases h with h | ⟨φ,vs,h,r,q⟩
 ·exact .inl h
 ·refine .inr ⟨φ,vs,h,?_,Al.all2_mono q fun _ _ q=>q.step hg hi⟩
  rcases r with r | ⟨f,h1,h2,h3,h4,h5⟩
  ·exact .inl r
  ·have hne : ¬ f = τ1.nf:=by omega
   have hfg : f ≠ g:=fun e=>by rw [e] at h5; omega
   exact .inr ⟨f,h1,h2,by simp; omega,by simp [upd_at,hne,hfg,h4],by simp [upd_at,hne,h5]⟩
theorem GrowT.new {T σ τ1 v l j k} (h : GrowT T j σ τ1 v l) : GrowT (upd T τ1.nf k) j σ τ1.newF v l := by
 rcases h with h | ⟨φ,vs,h,r,q⟩
 ·exact .inl h
 ·refine .inr ⟨φ,vs,h,?_,Al.all2_mono q fun _ _ q=>q.new⟩
  rcases r with r | ⟨f,h1,h2,h3,h4,h5⟩
  ·exact .inl r
  ·have hne : ¬ f = τ1.nf:=by omega
   exact .inr ⟨f,h1,h2,by simp; omega,by simp [upd_at,hne,h4],by simp [upd_at,hne,h5]⟩
theorem NewB.row {T τ τ1 v bs} (h : NewB τ τ1 v bs) (hT : FreshT T τ) : RowT T τ1 v bs := by
 rcases h.1 with ⟨h1,h2⟩ | ⟨g,h1,h2,h3,h4⟩
 ·exact .inl ⟨by simpa [B] using h1,h2⟩
 ·exact .inr ⟨_,h1,⟨h3,h4⟩,fun r b e=>by cases e; exact hT g h2⟩
theorem grow_row {T : Nat → Nat} {i : Nat} {τ : AS} {v row : AV} {l : List (List UInt8)} {bs : List UInt8} {K : AV → AS → Prop} (hi : 1 ≤ i) (hG : GrowT T i σ τ v l) (hN : RowT T τ row bs) (hT : FreshT T τ) (A : Adds σ τ) (hl : l.length < 2 ^ 40)
  (h : ∀ v' τ' T',GrowT T' i σ τ' v' (l ++ [bs]) → FreshT T' τ' → Adds σ τ' → (∀ j v2 l2,j ≠ i → GrowT T j σ τ v2 l2 → GrowT T' j σ τ' v2 l2) → K v' τ') : grown 24 1 v [row] τ K:=by
 have hgn:=A.nf
 have fr : FreshT (upd T τ.nf i) τ.newF:=fun f hf=>by
  have hf' : τ.nf + 1 ≤ f:=hf
  have : ¬ f = τ.nf:=by omega
  simp [upd_at,this]
  exact hT f (by omega)
 rcases hG with ⟨rfl,rfl⟩ | ⟨φ,vs,rfl,hφ,hv⟩
 ·simp
  refine h _ _ (upd T τ.nf i) (.inr ⟨_,[row],rfl,.inr ⟨τ.nf,rfl,hgn,by simp,by simp,by simp [upd_at]⟩,.cons hN.new .nil⟩) fr A.newF fun j v2 l2 hj h2=>h2.new
 ·have hvl:=hv.length
  rcases hφ with rfl | ⟨g,rfl,g1,g2,g3,g4⟩
  ·simp [grown]
   refine ⟨by omega,?_⟩
   exact h _ _ (upd T τ.nf i) (.inr ⟨_,_,rfl,.inr ⟨τ.nf,rfl,hgn,by simp,by simp,by simp [upd_at]⟩,(Al.all2_mono hv fun _ _ q=>q.new).append (.cons hN.new .nil)⟩) fr A.newF fun j v2 l2 hj h2=>h2.new
  ·simp [g3]
   refine ⟨by omega,?_⟩
   refine h _ _ (upd T τ.nf i) (.inr ⟨_,_,rfl,.inr ⟨τ.nf,rfl,hgn,by simp,by simp,by simp [upd_at]⟩,(Al.all2_mono hv fun _ _ q=>q.step g4 hi).append (.cons (hN.step g4 hi) .nil)⟩) (fun f hf=>fr f hf) ((A.setF g1).newF (σ':=τ.setF g .dead)) fun j v2 l2 hj h2=>h2.step g4 hi hj
end
end Go.Proofs.YthejpoplbllcbaaGreatDoor
set_option linter.unusedSimpArgs false
set_option linter.unusedVariables false
namespace Go.Proofs.YthejpoplbllcbaaGreatDoor
open Go Go.Abs
def runN (t : Int) : List Int → Nat
 | []=>0
 | x :: r=>if x = t then runN t r + 1 else 0
def localsRows : Nat → List Int → List (List UInt8)
 | 0,_=>[]
 | _ + 1,[]=>[]
 | k + 1,t :: r=>(uI ((runN t r + 1 : Nat) : Int) ++ [byteI (128 - t)]) :: localsRows k (r.drop (runN t r))
def localsL (l : List Int) : List UInt8 := rowL (localsRows l.length l)
theorem runN_le (t : Int) : ∀ l,runN t l ≤ l.length
 | []=>Nat.le_refl _
 | x :: r=>by
  have:=runN_le t r
  simp only [runN,List.length_cons]
  split <;> omega
theorem runN_at {t : Int} : ∀ {l : List Int} {i : Nat},i < runN t l → l[i]? = some t
 | [],i,h=>by simp [runN] at h
 | x :: r,i,h=>by
  simp only [runN] at h
  split at h
  ·rename_i e
   cases i with
   | zero=>simp [e]
   | succ i=>simp; exact runN_at (by omega)
  ·omega
theorem runN_end {t : Int} : ∀ {l : List Int},runN t l < l.length → l[runN t l]? ≠ some t
 | [],h=>by simp at h
 | x :: r,h=>by
  simp only [runN] at h ⊢
  split
  ·rename_i e
   simp only [e,if_true,List.length_cons] at h
   simp
   exact runN_end (by omega)
  ·rename_i e
   simp [e]
theorem localsRows_drop : ∀ (k j : Nat) (l : List Int),l.length ≤ k → l.length ≤ j → localsRows k l = localsRows j l
 | 0,j,[],_,_=>by cases j <;> rfl
 | k + 1,j,[],_,_=>by cases j <;> rfl
 | 0,_,t :: r,h,_=>by simp at h
 | k + 1,0,t :: r,_,h=>by simp at h
 | k + 1,j + 1,t :: r,h,h'=>by
  simp only [localsRows]
  simp at h h'
  rw [localsRows_drop k j _ (by simp; omega) (by simp; omega)]
theorem localsRows_len : ∀ (k : Nat) (l : List Int),(localsRows k l).length ≤ l.length ∧ sumB (localsRows k l) ≤ 11 * l.length
 | 0,l=>by simp [localsRows,sumB]
 | k + 1,[]=>by simp [localsRows,sumB]
 | k + 1,t :: r=>by
  have ih:=localsRows_len k (r.drop (runN t r))
  have hu:=uI_len ((runN t r + 1 : Nat) : Int)
  simp only [localsRows,List.length_cons,sumB,List.map_cons,List.sum_cons,List.length_append,List.length_nil] at *
  simp only [List.length_drop] at ih
  omega
theorem IntsO.drop {σ : AS} {v : AV} {l : List Int} {n : Nat} (h : Al.IntsO σ v l) (hl : l ≠ []) (hn : n ≤ l.length) : ∃ φ,v = .sl φ 1 (l.map (.int .i64)) ∧ Al.Rd σ φ := by
 rcases h with ⟨rfl,_⟩ | h
 ·exact absurd rfl hl
 ·exact h
section
variable {G : Env} {σ : AS} {R : Out → AS → Prop}
def LoI (σ : AS) (l0 : List Int) (a : Nat → AV) (τ : AS) : Prop := ∃ (l : List Int) (done : List (List UInt8)) (T : Nat → Nat),done ++ localsRows l.length l = localsRows l0.length l0 ∧ l.length ≤ l0.length ∧ done.length + l.length ≤ l0.length ∧ Al.IntsO σ (a 0) l ∧ GrowT T 1 σ τ (a 3) done ∧ FreshT T τ ∧ Adds σ τ
def MLo (a : Nat → AV) (_ : AS) : Nat := match a 0 with
 | .sl _ _ xs=>xs.length
 | _=>0
def LoJ (v0 v3 : AV) (τ0 : AS) (t : Int) (r : List Int) (a : Nat → AV) (τ : AS) : Prop := ∃ i : Nat,i ≤ runN t r ∧ a 0 = v0 ∧ a 3 = v3 ∧ a 4 = .int .i64 ((i + 1 : Nat) : Int) ∧ τ = τ0
theorem locals_calls {v : AV} {l : List Int} (hv : Al.IntsO σ v l) (hl : l.length ≤ 2 ^ 34) (h : ∀ v' σ',NewB σ σ' v' (localsL l) → R (.ret v') σ') : ACalls Tryz.prog G 43 [v] σ R := by
 refine calls43 rfl ?_
 have v1:=hv.one
 simp [pc43]
 refine aloop (LoI σ l) MLo ⟨l,[],fun _=>0,by simp,by omega,by simp,by simpa using hv,.inl ⟨rfl,by simp⟩,fun _ _=>rfl,.refl _⟩ fun a τ hI=>?_
 obtain ⟨l',done,T,he,hl',hdl,hi0,hG,hT,hA⟩:=hI
 have hi:=hi0.keep hA
 have i1:=hi.one
 have i2:=hi.len
 cases l' with
 | nil =>
  simp at i2
  simp [pc43_l2,pc43_r2,i1,i2]
  have hd : done = localsRows l.length l:=by simpa [localsRows] using he
  subst hd
  obtain ⟨r1,r2⟩:=localsRows_len l.length l
  have g1:=hG.bys.one
  simp [g1]
  refine row_calls hG.bys (by omega) (by omega) fun v' σ' h'=>?_
  simp
  exact h _ _ ⟨h'.1.imp (fun q=>q) (fun ⟨g,q1,q2,q3⟩=>⟨g,q1,by have:=hA.nf; omega,q3⟩),hA.trans h'.2⟩
 | cons t r =>
  obtain ⟨φ,hvs,hrd0⟩:=IntsO.drop (n:=0) hi0 (by simp) (by simp)
  have hrd:=hrd0.keep hA
  have hr':=hrd.read
  have g1:=hG.bys.one
  simp [pc43_l2,hvs]
  refine aloop (LoJ (a 0) (a 3) τ t r) (MU 4 (r.length + 2)) ⟨0,by omega,by simp,by simp,by simp,rfl⟩ fun b τ2 hJ=>?_
  obtain ⟨i,hi1,b0,b3,b4,rfl⟩:=hJ
  have hrl:=runN_le t r
  rw [hvs] at b0
  have w1 : IntKind.wrap .i64 ((i : Int) + 1 + 1) = ((i + 1 + 1 : Nat) : Int):=by rw [wrap_i64] <;> simp at hl' <;> omega
  have hz : IntKind.wrap .i64 0 = 0:=rfl
  simp only [Int.natCast_add,Int.natCast_one] at b4
  have hout : ∀ c : Nat → AV,c 0 = .sl φ 1 ((t :: r).map (.int .i64)) → c 3 = a 3 → c 4 = .int .i64 ((runN t r : Int) + 1) →
    avc Tryz.prog G 41 pc43_r1 (ablock 1 (athen (fun a' σ'=>LoI σ l a' σ' ∧ MLo a' σ' < MLo a τ2) (ablock 0 (athen (avc Tryz.prog G 41 pc43_r2 (afin Tryz.prog [.tmp 2] R)) (afin Tryz.prog [.tmp 2] R))))) c τ2:=fun c c0 c3 c4=>by
   have hwt : IntKind.wrap .u8 (IntKind.wrap .i64 (128 - t)) = ((byteI (128 - t)).toNat : Int):=by
    rw [wrap_u8,byteI_nat,byteI_nat]
    simp [IntKind.wrap,IntKind.signed,IntKind.bits]
    omega
   simp [pc43_r1,c0,c3,c4,hr',hwt,g1]
   have hl3 : (r.length : Int) + 1 ≤ 2 ^ 34:=by simp at hl'; omega
   refine ⟨u_calls (by omega) fun u σ1 hu=>?_,u_calls (by omega) fun u σ1 hu=>?_⟩ <;>
   ·have hr1:=(hrd.keep hu.2).read
    have u1:=hu.byt.one
    have hul:=uI_len ((runN t r : Int) + 1)
    simp [hr1,u1,hwt]
    refine grow_bytes (y:=[byteI (128 - t)]) hu rfl (by simp; omega) fun v' τ3 h3=>?_
    have q1:=h3.byt.one
    have g3:=(hG.keep h3.2).bys.one
    have hfr3 : FreshT T τ3:=fun f hf=>hT f (by have:=h3.2.nf; omega)
    simp [q1,g3]
    refine grow_row (by omega) (hG.keep h3.2) (h3.row hT) hfr3 (hA.trans h3.2) (by simp at hdl; omega) fun v4 τ4 T4 hG4 hT4 hA4 _=>?_
    have hcut : cut φ φ.full = φ:=by cases φ <;> rfl
    have htk : List.take r.length (List.map (AV.int .i64) r) = r.map (.int .i64):=List.take_of_length_le (by simp)
    simp [c0,c4,hcut,htk]
    refine ⟨by omega,hrl,⟨r.drop (runN t r),done ++ [uI ((runN t r + 1 : Nat) : Int) ++ [byteI (128 - t)]],T4,?_,?_,?_,?_,?_,hT4,hA4⟩,?_⟩
    ·rw [← he]
     simp only [localsRows,List.length_cons,List.append_assoc,List.singleton_append]
     rw [localsRows_drop _ r.length _ (Nat.le_refl _) (by simp)]
    ·simp at hl' ⊢; omega
    ·simp at hdl ⊢; omega
    ·exact .inr ⟨φ,by simp,hrd0⟩
    ·simpa using hG4
    ·simp only [MLo,hvs]; simp; omega
  by_cases hir : i < runN t r
  ·have hx:=runN_at hir
   have hlt : (i : Int) + 1 < (r.length : Int) + 1:=by omega
   have hlt2 : (i : Int) < (r.length : Int):=by omega
   simp [pc43_l1,b0,b3,b4,hr',hx,w1,hlt,hlt2,hz]
   refine ⟨by omega,⟨i + 1,by omega,by simp [b0,hvs],by simp [b3],by simp,rfl⟩,?_⟩
   simp only [MU,b4]; simp; omega
  ·have hie : i = runN t r:=by omega
   by_cases hend : i = r.length
   ·have hlt : ¬ (i : Int) + 1 < (r.length : Int) + 1:=by omega
    have hlt2 : ¬ (i : Int) < (r.length : Int):=by omega
    simp [pc43_l1,b0,b3,b4,hr',w1,hlt,hlt2,hz]
    exact hout _ (by simp [b0]) (by simp [b3]) (by simp [b4,hie])
   ·have hlt : (i : Int) + 1 < (r.length : Int) + 1:=by omega
    have hlt2 : (i : Int) < (r.length : Int):=by omega
    have hx:=runN_end (t:=t) (l:=r) (by omega)
    have hg:=List.getElem?_eq_getElem (show i < r.length by omega)
    rw [← hie,hg] at hx
    have hne : ¬ r[i] = t:=fun e=>hx (by rw [e])
    simp [pc43_l1,b0,b3,b4,hr',hg,hne,w1,hlt,hlt2,hz]
    exact ⟨by omega,hout _ (by simp [b0]) (by simp [b3]) (by simp [b4,hie])⟩
end
end Go.Proofs.YthejpoplbllcbaaGreatDoor
set_option linter.unusedSimpArgs false
set_option linter.unusedVariables false
namespace Go.Proofs.YthejpoplbllcbaaGreatDoor
open Go Go.Abs
def tailW (w : W) : List UInt8 :=
 if w.op = 1 then sI w.n
 else if w.op = 2 ∨ w.op = 3 ∨ w.op = 10 ∨ w.op = 14 ∨ w.op = 15 then uI w.n
 else if w.op = 8 ∨ w.op = 9 then [0,0] else []
def codeS (w : W) : Option UInt8 := if w.op = 4 then codeL w else ((plainT ++ numT).find? (hitsW w)).map (·.1)
theorem codeS_code {w : W} {c : UInt8} (h : codeS w = some c) : codeL w = some c := by
 unfold codeS at h
 split at h
 ·exact h
 ·rename_i h4
  rw [codeL,if_neg h4,lookT,h]
  rfl
def nestW (w : W) : Bool := decide (w.op = 11) || decide (w.op = 12) || decide (w.op = 13)
def encW (rec : Int → Option (List UInt8)) (w : W) : Option (List UInt8) :=
 if nestW w = true then
  (rec w.body).bind fun b =>
   if w.op = 13 ∧ 0 ≤ w.other then (rec w.other).map fun o=>byteI (w.op - 9) :: 64 :: (b ++ 5 :: (o ++ [11]))
   else some (byteI (w.op - 9) :: 64 :: (b ++ [11]))
 else (codeS w).map fun c=>c :: tailW w
def encWs (rec : Int → Option (List UInt8)) : List W → Option (List UInt8)
 | []=>some []
 | w :: r=>(encW rec w).bind fun a=>(encWs rec r).map (a ++ ·)
def encL (ls : To) : Nat → Int → Option (List UInt8)
 | 0,_=>none
 | k + 1,at_=>if at_ < 0 then none else match ls[at_.toNat]? with
  | none=>none
  | some ws=>encWs (encL ls k) ws
def codeF (f : F) : Option (List UInt8) := (encL f.lists f.lists.length ((f.lists.length : Int) - 1)).map fun b => sizedL (localsL f.locals ++ b ++ [11])
def codesF : List F → Option (List (List UInt8))
 | []=>some []
 | f :: r=>(codeF f).bind fun a=>(codesF r).map (a :: ·)
def importL (s : List UInt8) (i : UInt8) : List UInt8 := sizedL [101,110,118] ++ sizedL s ++ [0,i]
def importsL : List (List UInt8) := [importL [105,110] 0,importL [111,117,116] 1,importL [116,114,97,112] 2]
def headsL (fs : List F) : List (List UInt8) := [headL [] 2,headL [2] 0,headL [1] 0] ++ fs.map fun f => headL f.params f.type
def numsF : Int → List F → List (List UInt8)
 | _,[]=>[]
 | i,_ :: r=>uI i :: numsF (i + 1) r
def namesF : Int → List F → List (List UInt8)
 | _,[]=>[]
 | i,f :: r=>(uI i ++ sizedL f.name) :: namesF (i + 1) r
def magicL : List UInt8 := [0,97,115,109,1,0,0,0]
def mainL (m : M) : Int := IntKind.wrap .i64 (m.main + 3)
def encM (m : M) : Option (List UInt8) := (codesF m.funcs).map fun codes =>
 magicL ++ (sectionL 1 (rowL (headsL m.funcs)) ++ (sectionL 2 (rowL importsL) ++ (sectionL 3 (rowL (numsF 3 m.funcs)) ++ (sectionL 5 [1,0,1] ++
  (sectionL 6 ([1,127,0,65] ++ sI m.memory ++ [11]) ++ (sectionL 7 ([1] ++ sizedL [109,97,105,110] ++ [0] ++ uI (mainL m)) ++ (sectionL 10 (rowL codes) ++
   sectionL 0 (sizedL [110,97,109,101] ++ [1] ++ sizedL (rowL (namesF 3 m.funcs))))))))))
structure Rs where
 b : List UInt8
 ls : To
 n : Nat
def takeP (n : Int) (s : Rs) : Option (List UInt8 × Rs) := if 0 ≤ n ∧ n ≤ s.b.length then some (s.b.take n.toNat,{ s with b := s.b.drop n.toNat }) else none
def byteP (s : Rs) : Option (UInt8 × Rs) := match s.b with
 | []=>none
 | c :: r=>some (c,{ s with b:=r })
def i64U (u : Nat) : Int := IntKind.wrap .i64 (u : Int)
def orS (u : Nat) (x : Nat) (k : Nat) : Nat := (u ||| (x <<< k)) % 2 ^ 64
def numG (signed : Bool) : Nat → Nat → Nat → List UInt8 → Option (Int × List UInt8)
 | 0,_,_,_=>none
 | _ + 1,_,_,[]=>none
 | k + 1,sh,u,c :: r =>
  let v:=orS u (c.toNat % 128) sh
  if c.toNat < 128 then some (i64U (if signed = true ∧ 64 ≤ c.toNat ∧ sh < 57 then orS v (2 ^ 64 - 1) (sh + 7) else v),r)
  else numG signed k (sh + 7) v r
def formN (sg : Bool) (n : Int) : List UInt8 := if sg = true then sI n else uI n
def numP (st sg : Bool) (s : Rs) : Option (Int × Rs) := (numG sg 10 0 0 s.b).bind fun p =>
 if st = true ∧ (s.b ≠ formN sg p.1 ++ p.2 ∨ (sg = false ∧ p.1 < 0)) then none else some (p.1,{ s with b:=p.2 })
def repP {α : Type} (f : Rs → Option (α × Rs)) : Nat → Rs → Option (List α × Rs)
 | 0,s=>some ([],s)
 | n + 1,s=>(f s).bind fun p=>(repP f n p.2).map fun q=>(p.1 :: q.1,q.2)
def typeP (st : Bool) (s : Rs) : Option (Int × Rs) := (byteP s).bind fun p => if st = true ∧ p.1 ≠ 126 ∧ p.1 ≠ 127 then none else some (128 - (p.1.toNat : Int),p.2)
def typesP (st : Bool) (s : Rs) : Option (List Int × Rs) := (numP st false s).bind fun p => repP (typeP st) p.1.toNat p.2
def sectionP (n : UInt8) (s : Rs) : Option Rs := (byteP s).bind fun p => if p.1 = n then (numP false false p.2).map (·.2) else none
def findT (l : List (UInt8 × W)) (c : UInt8) : Option W := (l.find? (fun p => p.1 == c)).map (·.2)
def signW (ty : Int) (i : Nat) : W := { op := 4,ty := ty,n := 0,body := 0,other := 0,name := signNames.getD i [] }
def signP (c : UInt8) : Option W := match ones.findIdx? (· == c) with
 | some i=>some (signW 1 i)
 | none=>match twos.findIdx? (· == c) with
  | some i=>some (signW 2 i)
  | none=>none
def nestP (op b o : Int) : W := { op := op,ty := 0,n := 0,body := b,other := o,name := [] }
abbrev RecP := Nat → Rs → Option ((Int × UInt8) × Rs)
def withinP (rec : RecP) (d : Nat) (c : UInt8) (s : Rs) : Option (W × Rs) := (byteP s).bind fun p => (rec (d + 1) p.2).bind fun q =>
 if c.toNat = 4 then
  if q.1.2 = 5 then (rec (d + 1) q.2).map fun r=>(nestP 13 q.1.1 r.1.1,r.2) else some (nestP 13 q.1.1 (-1),q.2)
 else some (nestP ((c.toNat : Int) + 9) q.1.1 0,q.2)
def leafP (st : Bool) (c : UInt8) (s : Rs) : Option (W × Rs) := match findT numT c with
 | some w=>(numP st (decide (w.op = 1)) s).map fun p=>({ w with n:=p.1 },p.2)
 | none=>match findT plainT c with
  | some w=>if w.op = 8 ∨ w.op = 9 then (takeP 2 s).map fun p=>(w,p.2) else some (w,s)
  | none=>(signP c).map fun w=>(w,s)
def instrP (st : Bool) (rec : RecP) (d : Nat) (c : UInt8) (s : Rs) : Option (W × Rs) :=
 if 2 ≤ c.toNat ∧ c.toNat ≤ 4 then if d < 400 then withinP rec d c s else none else leafP st c s
def listP (st : Bool) : Nat → Nat → List W → Rs → Option ((Int × UInt8) × Rs)
 | 0,_,_,_=>none
 | k + 1,d,l,s=>(byteP s).bind fun p =>
  if p.1 = 11 ∨ p.1 = 5 then some (((p.2.ls.length : Int),p.1),{ p.2 with ls:=p.2.ls ++ [l] })
  else (instrP st (fun d s=>listP st k d [] s) d p.1 p.2).bind fun q=>listP st k d (l ++ [q.1]) q.2
def groupP (st : Bool) (s : Rs) : Option (List Int × Rs) := (numP st false s).bind fun p =>
 if 0 ≤ p.1 ∧ p.1 ≤ 65536 - (p.2.n : Int) then (typeP st { p.2 with n:=p.2.n + p.1.toNat }).map fun q=>(List.replicate p.1.toNat q.1,q.2) else none
def functionP (st : Bool) (f : F) (s : Rs) : Option (F × Rs) := (numP st false s).bind fun p => (numP st false p.2).bind fun q => (repP (groupP st) q.1.toNat q.2).bind fun l =>
 (listP st (l.2.b.length + 1) 0 [] { l.2 with ls:=[] }).map fun r=>({ f with locals:=f.locals ++ l.1.flatten,lists:=r.2.ls },r.2)
def headP (st : Bool) (s : Rs) : Option (F × Rs) := (byteP s).bind fun p => (typesP st p.2).bind fun q => (typesP st q.2).map fun r =>
 ({ name:=[],params:=q.1,locals:=[],type:=r.1.headD 0,lists:=[] },r.2)
def headsP (s : Rs) : Option (List F × Rs) := (sectionP 1 s).bind fun s => (numP false false s).bind fun p => (repP (headP false) p.1.toNat p.2).bind fun q =>
 if 3 ≤ q.1.length then some (q.1.drop 3,q.2) else none
def skipP (n : Int) (s : Rs) : Option Rs := (takeP n s).map (·.2)
def functionsP (st : Bool) : List F → Rs → Option (List F × Rs)
 | [],s=>some ([],s)
 | f :: r,s=>(functionP st f s).bind fun p=>(functionsP st r p.2).map fun q=>(p.1 :: q.1,q.2)
def namesP (st : Bool) : List F → Rs → Option (List F × Rs)
 | [],s=>some ([],s)
 | f :: r,s=>(numP st false s).bind fun p=>(numP st false p.2).bind fun q=>(takeP q.1 q.2).bind fun t=>(namesP st r t.2).map fun u=>({ f with name:=t.1 } :: u.1,u.2)
def frontP (s : Rs) : Option ((List F × Int × Int) × Rs) := (skipP 8 s).bind fun s => (headsP s).bind fun h => (sectionP 2 h.2).bind fun s => (skipP 1 s).bind fun s => (skipP 9 s).bind fun s => (skipP 10 s).bind fun s => (skipP 11 s).bind fun s =>
 (sectionP 3 s).bind fun s=>(numP false false s).bind fun p=>(repP (numP false false) p.1.toNat p.2).bind fun r=>(sectionP 5 r.2).bind fun s=>(skipP 3 s).bind fun s=>(sectionP 6 s).bind fun s=>(skipP 4 s).bind fun s =>
 (numP false true s).bind fun mem=>(skipP 1 mem.2).bind fun s=>(sectionP 7 s).bind fun s=>(skipP 7 s).bind fun s=>(numP false false s).map fun mn=>((h.1,mem.1,mn.1),mn.2)
def backP (h : List F) (s : Rs) : Option (List F × Rs) := (sectionP 10 s).bind fun s => (numP false false s).bind fun c =>
 if c.1 = h.length then (functionsP false h c.2).bind fun fs=>(sectionP 0 fs.2).bind fun s=>(skipP 6 s).bind fun s=>(numP false false s).bind fun x=>(numP false false x.2).bind fun y =>
  if y.1 = h.length then namesP false fs.1 y.2 else none
 else none
def moduleP (s : Rs) : Option (M × Rs) := (frontP s).bind fun p => (backP p.1.1 p.2).map fun q => ({ funcs := q.1,memory := p.1.2.1,main := IntKind.wrap .i64 (p.1.2.2 - 3) },q.2)
def oddT (t : Int) : Bool := decide (t ≠ 1) && decide (t ≠ 2)
def typedF (f : F) : Bool := !(f.params.any oddT || (f.locals.any oddT || (decide (f.type ≠ 0) && oddT f.type)))
def belowW (w : W) : Bool := decide (w.n < 0) && decide (w.op ≠ 1)
def rangedM (m : M) : Bool := decide (-3 ≤ m.main) && !(m.funcs.any fun f => f.lists.any fun l => l.any belowW)
def decodeP (b : List UInt8) : Option M := (moduleP ⟨b,[],0⟩).bind fun p => if p.2.b = [] ∧ p.1.funcs.all typedF = true ∧ rangedM p.1 = true ∧ encM p.1 = some b then some p.1 else none
end Go.Proofs.YthejpoplbllcbaaGreatDoor
set_option linter.unusedSimpArgs false
set_option linter.unusedVariables false
namespace Go.Proofs.YthejpoplbllcbaaGreatDoor
open Go Go.Abs
theorem wrap_congr {a b : Int} (h : a % 2 ^ 64 = b % 2 ^ 64) : IntKind.wrap .i64 a = IntKind.wrap .i64 b := by
 have h' : a % (2 ^ IntKind.i64.bits : Int) = b % (2 ^ IntKind.i64.bits : Int):=h
 unfold IntKind.wrap
 rw [h']
theorem orS_eq {u x k : Nat} (h : u < 2 ^ k) : orS u x k = (u + x * 2 ^ k) % 2 ^ 64 := by
 unfold orS
 rw [Nat.or_comm,← Nat.shiftLeft_add_eq_or_of_lt h,Nat.shiftLeft_eq,Nat.add_comm]
theorem byte_nat {m : Nat} (h : m ≤ 127) : (byteI (m : Int)).toNat = m := by
 have:=byteI_nat (m : Int)
 omega
set_option maxRecDepth 20000 in
theorem or128 (b : UInt8) : (b ||| 128).toNat = 128 + b.toNat % 128 := by
 have : ∀ k : Fin 256,(UInt8.ofNat k.1 ||| 128).toNat = 128 + k.1 % 128:=by decide
 have:=this ⟨b.toNat,b.toNat_lt⟩
 simpa using this
set_option maxRecDepth 20000 in
theorem and127 (b : UInt8) : (b &&& 127).toNat = b.toNat % 128 := by
 have : ∀ k : Fin 256,(UInt8.ofNat k.1 &&& 127).toNat = k.1 % 128:=by decide
 have:=this ⟨b.toNat,b.toNat_lt⟩
 simpa using this
theorem pow7 (k : Nat) : 2 ^ (k + 7) = 2 ^ k * 128 := by rw [Nat.pow_add]
theorem numG_u : ∀ (k sh u m : Nat) (rest : List UInt8),m < 128 ^ k → u < 2 ^ sh → 1 ≤ k → numG false k sh u (uF k (m : Int) ++ rest) = some (IntKind.wrap .i64 ((u + m * 2 ^ sh : Nat) : Int),rest)
 | 0,_,_,_,_,_,_,h=>by omega
 | k + 1,sh,u,m,rest,hm,hu,_=>by
  rw [uF]
  by_cases h : m ≤ 127
  ·have h' : (m : Int) ≤ 127:=by omega
   rw [if_pos h']
   have hb:=byte_nat h
   have hl : m < 128:=by omega
   have hm' : m % 128 = m:=Nat.mod_eq_of_lt hl
   simp only [List.cons_append,List.nil_append,numG,hb,hl,if_true,hm',i64U,Bool.false_eq_true,false_and,if_false]
   rw [orS_eq hu]
   congr 2
   exact wrap_congr (by omega)
  ·have h' : ¬ (m : Int) ≤ 127:=by omega
   rw [if_neg h']
   have hb : (byteI (m : Int) ||| 128).toNat = 128 + m % 128:=by
    rw [or128]
    have:=byteI_nat (m : Int)
    omega
   have hl : ¬ 128 + m % 128 < 128:=by omega
   have hm' : (128 + m % 128) % 128 = m % 128:=by omega
   have hd : (m : Int) / 128 = ((m / 128 : Nat) : Int):=by omega
   have hk : 1 ≤ k:=by
    rcases Nat.eq_zero_or_pos k with rfl | h
    ·simp at hm; omega
    ·exact h
   have hlt : m / 128 < 128 ^ k:=by
    rw [Nat.pow_succ] at hm
    exact Nat.div_lt_of_lt_mul (by rw [Nat.mul_comm]; exact hm)
   simp only [List.cons_append,numG,hb,hl,if_false,hm',hd]
   have hv : orS u (m % 128) sh < 2 ^ (sh + 7):=by
    rw [orS_eq hu]
    have hp:=pow7 sh
    refine Nat.lt_of_le_of_lt (Nat.mod_le _ _) ?_
    have : m % 128 * 2 ^ sh ≤ 127 * 2 ^ sh:=Nat.mul_le_mul_right _ (by omega)
    omega
   rw [numG_u k (sh + 7) _ (m / 128) rest hlt hv hk]
   congr 2
   refine wrap_congr ?_
   rw [orS_eq hu,pow7 sh]
   have e : m * 2 ^ sh = m % 128 * 2 ^ sh + m / 128 * (2 ^ sh * 128):=by
    conv=>lhs; rw [← Nat.mod_add_div m 128]
    rw [Nat.add_mul,Nat.mul_comm 128,Nat.mul_assoc,Nat.mul_comm 128]
   rw [e]
   clear hv hl hb hm' hd hm h h' hlt e
   generalize m % 128 * 2 ^ sh = x
   generalize m / 128 * (2 ^ sh * 128) = y
   omega
theorem numG_s : ∀ (k sh u : Nat) (n : Int) (rest : List UInt8),-(64 * 128 ^ k) ≤ n → n < 64 * 128 ^ k → u < 2 ^ sh → numG true (k + 1) sh u (sF (k + 1) n ++ rest) = some (IntKind.wrap .i64 ((u : Int) + n * 2 ^ sh),rest)
 | k,sh,u,n,rest,h1,h2,hu=>by
  rw [sF]
  by_cases h : -64 ≤ n ∧ n ≤ 63
  ·rw [if_pos h]
   have hb : ((byteI n &&& 127).toNat : Int) = n % 128:=by
    rw [and127]
    have:=byteI_nat n
    omega
   have hl : (byteI n &&& 127).toNat < 128:=by omega
   generalize hc : (byteI n &&& 127).toNat = c at *
   have hm' : c % 128 = c:=Nat.mod_eq_of_lt hl
   simp only [List.cons_append,List.nil_append,numG,hc,hl,if_true,hm',i64U,true_and]
   have hp : (0 : Int) < 2 ^ sh:=by exact_mod_cast Nat.two_pow_pos sh
   have he : ((2 ^ sh : Nat) : Int) = 2 ^ sh:=by simp
   by_cases hx : 64 ≤ c
   ·have hn : n = (c : Int) - 128:=by omega
    by_cases hs : sh < 57
    ·rw [if_pos ⟨hx,hs⟩]
     have hv : orS u c sh < 2 ^ (sh + 7):=by
      rw [orS_eq hu]
      have hp:=pow7 sh
      refine Nat.lt_of_le_of_lt (Nat.mod_le _ _) ?_
      have : c * 2 ^ sh ≤ 127 * 2 ^ sh:=Nat.mul_le_mul_right _ (by omega)
      omega
     congr 2
     refine wrap_congr ?_
     rw [orS_eq hv,orS_eq hu,pow7 sh,hn]
     have e : ((c : Int) - 128) * 2 ^ sh = ((c * 2 ^ sh : Nat) : Int) - ((2 ^ sh * 128 : Nat) : Int):=by
      have hP : (2 : Int) ^ sh = ((2 ^ sh : Nat) : Int):=by rw [Int.natCast_pow]; rfl
      rw [hP,Int.sub_mul,Int.natCast_mul c,Int.natCast_mul (2 ^ sh) 128,Int.mul_comm 128]
      rfl
     rw [e]
     generalize c * 2 ^ sh = x
     have e2 : (2 ^ 64 - 1) * (2 ^ sh * 128) + (2 ^ sh * 128) = 2 ^ 64 * (2 ^ sh * 128):=by omega
     generalize 2 ^ sh * 128 = y at *
     omega
    ·rw [if_neg (fun h=>hs h.2)]
     congr 2
     refine wrap_congr ?_
     rw [orS_eq hu,hn]
     obtain ⟨j,rfl⟩ : ∃ j,sh = 57 + j:=⟨sh - 57,by omega⟩
     have e0 : 128 * 2 ^ (57 + j) = 2 ^ 64 * 2 ^ j:=by
      rw [Nat.pow_add,← Nat.mul_assoc]
     have e : ((c : Int) - 128) * 2 ^ (57 + j) = ((c * 2 ^ (57 + j) : Nat) : Int) - ((2 ^ 64 * 2 ^ j : Nat) : Int):=by
      have hP : (2 : Int) ^ (57 + j) = ((2 ^ (57 + j) : Nat) : Int):=by rw [Int.natCast_pow]; rfl
      rw [hP,← e0,Int.sub_mul,Int.natCast_mul c,Int.natCast_mul 128]
      rfl
     rw [e]
     generalize c * 2 ^ (57 + j) = x
     generalize 2 ^ j = y at *
     omega
   ·rw [if_neg (fun h=>hx h.1)]
    have hn : n = (c : Int):=by omega
    congr 2
    refine wrap_congr ?_
    rw [orS_eq hu,hn]
    have hP : (2 : Int) ^ sh = ((2 ^ sh : Nat) : Int):=by rw [Int.natCast_pow]; rfl
    rw [hP,← Int.natCast_mul]
    generalize c * 2 ^ sh = x
    omega
  ·rw [if_neg h]
   obtain ⟨k,rfl⟩ : ∃ j,k = j + 1:=by
    cases k with
    | zero=>simp at h1 h2; omega
    | succ k=>exact ⟨k,rfl⟩
   have hb : ((byteI n ||| 128).toNat : Int) = 128 + n % 128:=by
    rw [or128]
    have:=byteI_nat n
    omega
   generalize hc : (byteI n ||| 128).toNat = c at *
   have hl : ¬ c < 128:=by omega
   have hlt : n / 128 < 64 * 128 ^ k:=by
    rw [Int.pow_succ] at h2
    omega
   have hle : -(64 * 128 ^ k) ≤ n / 128:=by
    rw [Int.pow_succ] at h1
    omega
   rw [List.cons_append,numG]
   simp only [hc,hl,if_false]
   have hv : orS u (c % 128) sh < 2 ^ (sh + 7):=by
    rw [orS_eq hu]
    have hp:=pow7 sh
    refine Nat.lt_of_le_of_lt (Nat.mod_le _ _) ?_
    have : c % 128 * 2 ^ sh ≤ 127 * 2 ^ sh:=Nat.mul_le_mul_right _ (by omega)
    omega
   rw [numG_s k (sh + 7) _ (n / 128) rest hle hlt hv]
   congr 2
   refine wrap_congr ?_
   rw [orS_eq hu]
   have hcm : ((c % 128 : Nat) : Int) = n % 128:=by omega
   have e : n * 2 ^ sh = ((c % 128 * 2 ^ sh : Nat) : Int) + n / 128 * 2 ^ (sh + 7):=by
    rw [Int.natCast_mul,hcm,Int.natCast_pow,Int.pow_add]
    conv=>lhs; rw [← Int.emod_add_mul_ediv n 128]
    rw [Int.add_mul,Int.mul_comm 128,Int.mul_assoc,Int.mul_comm 128]
    rfl
   rw [e]
   generalize c % 128 * 2 ^ sh = x
   generalize n / 128 * 2 ^ (sh + 7) = y
   omega
theorem wrap_nat {m : Nat} (h : m < 2 ^ 63) : IntKind.wrap .i64 (m : Int) = m := by rw [wrap_i64] <;> omega
theorem numP_u (st : Bool) {n : Int} (h0 : 0 ≤ n) (h : n < 2 ^ 63) {s : Rs} {rest : List UInt8} (hb : s.b = uI n ++ rest) : numP st false s = some (n,{ s with b := rest }) := by
 obtain ⟨m,rfl⟩ : ∃ m : Nat,n = m:=⟨n.toNat,by omega⟩
 have h128 : (128 : Nat) ^ 10 = 2 ^ 70:=by decide
 have:=numG_u 10 0 0 m rest (by rw [h128]; omega) (by omega) (by omega)
 have w : IntKind.wrap .i64 (m : Int) = m:=wrap_nat (by omega)
 simp only [Nat.zero_add,Nat.pow_zero,Nat.mul_one,w] at this
 unfold numP
 rw [hb]
 unfold uI
 rw [this]
 have hm : ¬ (m : Int) < 0:=by omega
 simp [formN,uI,hm]
theorem numP_s (st : Bool) {n : Int} (h0 : -(2 ^ 63) ≤ n) (h : n < 2 ^ 63) {s : Rs} {rest : List UInt8} (hb : s.b = sI n ++ rest) : numP st true s = some (n,{ s with b := rest }) := by
 have h128 : (128 : Int) ^ 9 = 2 ^ 63:=by decide
 have:=numG_s 9 0 0 n rest (by rw [h128]; omega) (by rw [h128]; omega) (by omega)
 have w : IntKind.wrap .i64 n = n:=by rw [wrap_i64] <;> omega
 simp only [Int.natCast_zero,Int.zero_add,Int.pow_zero,Int.mul_one,w] at this
 unfold numP
 rw [hb]
 unfold sI
 rw [this]
 simp [formN,sI]
end Go.Proofs.YthejpoplbllcbaaGreatDoor
set_option linter.unusedSimpArgs false
set_option linter.unusedVariables false
namespace Go.Proofs.YthejpoplbllcbaaGreatDoor
open Go Go.Abs
theorem byteP_some {s : Rs} {c : UInt8} {s' : Rs} (h : byteP s = some (c,s')) : s.b = c :: s'.b ∧ s'.ls = s.ls ∧ s'.n = s.n := by
 unfold byteP at h
 split at h
 ·cases h
 ·rename_i c' r hb
  cases h
  exact ⟨hb,rfl,rfl⟩
theorem byteP_cons {s : Rs} {c : UInt8} {r : List UInt8} (h : s.b = c :: r) : byteP s = some (c,{ s with b := r }) := by
 unfold byteP
 rw [h]
theorem takeP_some {n : Int} {s : Rs} {p : List UInt8} {s' : Rs} (h : takeP n s = some (p,s')) : s.b = p ++ s'.b ∧ s'.ls = s.ls ∧ s'.n = s.n := by
 unfold takeP at h
 split at h
 ·cases h
  exact ⟨by simp,rfl,rfl⟩
 ·cases h
theorem takeP_app {n : Int} {s : Rs} {p r : List UInt8} (h : s.b = p ++ r) (hn : n = p.length) : takeP n s = some (p,{ s with b := r }) := by
 subst hn
 unfold takeP
 rw [h]
 rw [if_pos ⟨by omega,by simp; omega⟩]
 simp
theorem wrap_range (n : Int) : -(2 ^ 63) ≤ IntKind.wrap .i64 n ∧ IntKind.wrap .i64 n < 2 ^ 63 := by
 have h : IntKind.wrap .i64 n = (if n % 2 ^ 64 ≥ 2 ^ 63 then n % 2 ^ 64 - 2 ^ 64 else n % 2 ^ 64):=by
  simp [IntKind.wrap,IntKind.signed,IntKind.bits]
 rw [h]
 split <;> omega
theorem numG_some : ∀ {sg : Bool} {k sh u : Nat} {b : List UInt8} {n : Int} {r : List UInt8},numG sg k sh u b = some (n,r) → (∃ x,x ≠ [] ∧ b = x ++ r) ∧ -(2 ^ 63) ≤ n ∧ n < 2 ^ 63
 | sg,0,_,_,_,_,_,h=>by simp [numG] at h
 | sg,k + 1,_,_,[],_,_,h=>by rw [numG] at h; cases h
 | sg,k + 1,sh,u,c :: b,n,r,h=>by
  rw [numG] at h
  split at h
  ·simp only [Option.some.injEq,Prod.mk.injEq] at h
   obtain ⟨h1,rfl⟩:=h
   refine ⟨⟨[c],by simp,by simp⟩,?_⟩
   rw [← h1]
   generalize (if sg = true ∧ 64 ≤ c.toNat ∧ sh < 57 then orS (orS u (c.toNat % 128) sh) (2 ^ 64 - 1) (sh + 7) else orS u (c.toNat % 128) sh) = v
   exact wrap_range _
  ·obtain ⟨⟨x,h1,h2⟩,h3⟩:=numG_some h
   exact ⟨⟨c :: x,by simp,by rw [h2]; rfl⟩,h3⟩
theorem numP_some {st sg : Bool} {s s' : Rs} {n : Int} (h : numP st sg s = some (n,s')) : (∃ x,x ≠ [] ∧ s.b = x ++ s'.b) ∧ s'.ls = s.ls ∧ s'.n = s.n ∧ -(2 ^ 63) ≤ n ∧ n < 2 ^ 63 ∧ (st = true → sg = false → 0 ≤ n) := by
 unfold numP at h
 cases hg : numG sg 10 0 0 s.b with
 | none=>rw [hg] at h; cases h
 | some p =>
  rw [hg] at h
  simp only [Option.bind_some] at h
  obtain ⟨m,r⟩:=p
  split at h
  ·cases h
  ·rename_i hno
   cases h
   obtain ⟨h1,h2,h3⟩:=numG_some hg
   refine ⟨h1,rfl,rfl,h2,h3,fun h4 h5=>?_⟩
   by_cases h0 : 0 ≤ m
   ·exact h0
   ·exact absurd ⟨h4,.inr ⟨h5,by simp only; omega⟩⟩ hno
theorem findT_mem {l : List (UInt8 × W)} {c : UInt8} {w : W} (h : findT l c = some w) : (c,w) ∈ l := by
 unfold findT at h
 rw [Option.map_eq_some_iff] at h
 obtain ⟨p,h1,rfl⟩:=h
 have h2:=List.find?_some h1
 have h3:=List.mem_of_find?_eq_some h1
 simp only [beq_iff_eq] at h2
 rw [← h2]; exact h3
set_option maxRecDepth 20000 in
theorem numT_fact : ∀ p ∈ numT,findT numT p.1 = some p.2 ∧ p.1 ≠ 11 ∧ p.1 ≠ 5 ∧ ¬ (2 ≤ p.1.toNat ∧ p.1.toNat ≤ 4) ∧ p.2.op ≠ 4 ∧ p.2.op ≠ 8 ∧ p.2.op ≠ 9 ∧ nestW p.2 = false ∧ codeS p.2 = some p.1 ∧ p.2.n = 0 ∧ (p.2.op = 1 ∨ (p.2.op = 2 ∨ p.2.op = 3 ∨ p.2.op = 10 ∨ p.2.op = 14 ∨ p.2.op = 15)) := by decide
set_option maxRecDepth 20000 in
theorem plainT_fact : ∀ p ∈ plainT,findT numT p.1 = none ∧ findT plainT p.1 = some p.2 ∧ p.1 ≠ 11 ∧ p.1 ≠ 5 ∧ ¬ (2 ≤ p.1.toNat ∧ p.1.toNat ≤ 4) ∧ nestW p.2 = false ∧ codeS p.2 = some p.1 ∧ tailW p.2 = (if p.2.op = 8 ∨ p.2.op = 9 then [0,0] else []) := by decide
def signT : List (UInt8 × W) := (List.range 16).map (fun i => (ones.getD i 0,signW 1 i)) ++ (List.range 16).map (fun i => (twos.getD i 0,signW 2 i))
set_option maxRecDepth 20000 in
theorem signP_mem : ∀ c : Fin 256,∀ w,signP (UInt8.ofNat c.1) = some w → (UInt8.ofNat c.1,w) ∈ signT := by
 have : ∀ c : Fin 256,(match signP (UInt8.ofNat c.1) with | some w=>decide ((UInt8.ofNat c.1,w) ∈ signT) | none=>true) = true:=by decide
 intro c w h
 have:=this c
 rw [h] at this
 simpa using this
set_option maxRecDepth 20000 in
theorem signT_fact : ∀ p ∈ signT,findT numT p.1 = none ∧ findT plainT p.1 = none ∧ signP p.1 = some p.2 ∧ p.1 ≠ 11 ∧ p.1 ≠ 5 ∧ ¬ (2 ≤ p.1.toNat ∧ p.1.toNat ≤ 4) ∧ nestW p.2 = false ∧ codeS p.2 = some p.1 ∧ tailW p.2 = [] := by decide
theorem codeS_num {p : UInt8 × W} (h : p ∈ numT) (n : Int) : codeS { p.2 with n := n } = some p.1 := by
 obtain ⟨_,_,_,_,h4,h8,h9,_,hl,hn,_⟩:=numT_fact p h
 have e : hitsW { p.2 with n:=n } = hitsW p.2:=by
  funext q
  have : keyN { p.2 with n:=n } = keyN p.2:=by simp [keyN,h8,h9]
  simp only [hitsW,this]
 unfold codeS at hl ⊢
 rw [if_neg h4] at hl
 rw [if_neg h4,e,hl]
theorem leafP_some {st : Bool} {c : UInt8} {s s' : Rs} {w : W} (h : leafP st c s = some (w,s')) : (∃ x,s.b = x ++ s'.b) ∧ s'.ls = s.ls ∧ s'.n = s.n ∧ nestW w = false ∧ codeS w = some c ∧ c ≠ 11 ∧ c ≠ 5 ∧ ¬ (2 ≤ c.toNat ∧ c.toNat ≤ 4) ∧
  (st = true → belowW w = false) ∧
  ∀ (st' : Bool) (t : Rs) (r : List UInt8),belowW w = false → t.b = tailW w ++ r → leafP st' c t = some (w,{ t with b:=r }):=by
 unfold leafP at h
 cases hf : findT numT c with
 | some w0 =>
  rw [hf] at h
  simp only [Option.map_eq_some_iff] at h
  obtain ⟨⟨n,s1⟩,hn,he⟩:=h
  cases he
  have hm:=findT_mem hf
  obtain ⟨_,h11,h5,h24,h4,h8,h9,hnest,_,_,hops⟩:=numT_fact _ hm
  simp only at h11 h5 h24 h4 h8 h9 hnest hops
  obtain ⟨⟨x,_,hx⟩,e1,e2,n1,n2,n3⟩:=numP_some hn
  refine ⟨⟨x,hx⟩,e1,e2,hnest,codeS_num hm n,h11,h5,h24,fun hst=>?_,fun st' t r hb ht=>?_⟩
  ·unfold belowW
   simp only [Bool.and_eq_false_iff,decide_eq_false_iff_not]
   by_cases h1 : w0.op = 1
   ·exact .inr (by simpa using h1)
   ·have:=n3 hst (by simpa using h1)
    exact .inl (by omega)
  ·unfold leafP
   rw [hf]
   simp only
   unfold belowW at hb
   simp only [Bool.and_eq_false_iff,decide_eq_false_iff_not] at hb
   by_cases h1 : w0.op = 1
   ·have : tailW { w0 with n:=n } = sI n:=by simp [tailW,h1]
    rw [this] at ht
    simp only [h1,decide_true]
    rw [numP_s st' n1 n2 ht]
    rfl
   ·have hops : w0.op = 2 ∨ w0.op = 3 ∨ w0.op = 10 ∨ w0.op = 14 ∨ w0.op = 15:=by rcases hops with h | h; exact absurd h h1; exact h
    have : tailW { w0 with n:=n } = uI n:=by simp only [tailW,h1,if_false,hops,if_true]
    rw [this] at ht
    have h0 : 0 ≤ n:=by
     rcases hb with h | h
     ·omega
     ·exact absurd h (by simpa using h1)
    simp only [h1,decide_false]
    rw [numP_u st' h0 n2 ht]
    rfl
 | none =>
  rw [hf] at h
  simp only at h
  cases hp : findT plainT c with
  | some w0 =>
   rw [hp] at h
   simp only at h
   have hm:=findT_mem hp
   obtain ⟨_,_,h11,h5,h24,hnest,hcode,htail⟩:=plainT_fact _ hm
   simp only at h11 h5 h24 hnest hcode htail
   have hz : ∀ p ∈ plainT,belowW p.2 = false:=by decide
   have hz:=hz _ hm
   by_cases h89 : w0.op = 8 ∨ w0.op = 9
   ·rw [if_pos h89,Option.map_eq_some_iff] at h
    obtain ⟨⟨p,s1⟩,hn,he⟩:=h
    cases he
    obtain ⟨e0,e1,e2⟩:=takeP_some hn
    refine ⟨⟨p,e0⟩,e1,e2,hnest,hcode,h11,h5,h24,fun _=>hz,fun st' t r hb ht=>?_⟩
    rw [htail,if_pos h89] at ht
    unfold leafP
    rw [hf,hp]
    simp only [h89,if_true]
    rw [takeP_app (n:=2) ht rfl]
    rfl
   ·rw [if_neg h89] at h
    cases h
    refine ⟨⟨[],by simp⟩,rfl,rfl,hnest,hcode,h11,h5,h24,fun _=>hz,fun st' t r hb ht=>?_⟩
    rw [htail,if_neg h89] at ht
    unfold leafP
    rw [hf,hp]
    simp only [h89,if_false]
    simp only [List.nil_append] at ht
    rw [← ht]
  | none =>
   rw [hp] at h
   simp only [Option.map_eq_some_iff] at h
   obtain ⟨w0,hn,he⟩:=h
   cases he
   have hm : (c,w) ∈ signT:=by
    have:=signP_mem ⟨c.toNat,c.toNat_lt⟩ w (by simpa using hn)
    simpa using this
   obtain ⟨_,_,_,h11,h5,h24,hnest,hcode,htail⟩:=signT_fact _ hm
   simp only at h11 h5 h24 hnest hcode htail
   have hz : ∀ p ∈ signT,belowW p.2 = false:=by decide
   have hz:=hz _ hm
   refine ⟨⟨[],by simp⟩,rfl,rfl,hnest,hcode,h11,h5,h24,fun _=>hz,fun st' t r hb ht=>?_⟩
   rw [htail] at ht
   unfold leafP
   rw [hf,hp]
   simp only [hn]
   simp only [List.nil_append] at ht
   rw [← ht]
   rfl
theorem sub_len {x y z : List UInt8} (h : x = y ++ z) : z.length ≤ x.length := by rw [h]; simp
theorem listP_ls : ∀ (st : Bool) (k d : Nat) (l : List W) (s : Rs) (n : Int) (e : UInt8) (s' : Rs),listP st k d l s = some ((n,e),s') →
  s.ls <+: s'.ls ∧ (s'.ls.length : Int) = n + 1 ∧ (s.ls.length : Int) ≤ n ∧ (∃ ws,s'.ls[n.toNat]? = some (l ++ ws)) ∧ (e = 11 ∨ e = 5) ∧ (∃ x,x ≠ [] ∧ s.b = x ++ s'.b) ∧ s'.n = s.n
 | st,0,_,_,_,_,_,_,h=>by simp [listP] at h
 | st,k + 1,d,l,s,n,e,s',h=>by
  rw [listP] at h
  cases hb : byteP s with
  | none=>rw [hb] at h; cases h
  | some p =>
   obtain ⟨c,s1⟩:=p
   rw [hb] at h
   simp only [Option.bind_some] at h
   obtain ⟨b1,b2,b3⟩:=byteP_some hb
   split at h
   ·rename_i hc
    cases h
    refine ⟨?_,?_,?_,⟨[],?_⟩,hc,⟨[_],by simp,b1⟩,b3⟩
    ·rw [b2]; exact List.prefix_append _ _
    ·simp
    ·rw [b2]; exact Int.le_refl _
    ·simp
   ·rename_i hc
    cases hi : instrP st (fun d s=>listP st k d [] s) d c s1 with
    | none=>rw [hi] at h; cases h
    | some q =>
     obtain ⟨w,s2⟩:=q
     rw [hi] at h
     simp only [Option.bind_some] at h
     obtain ⟨i1,i2,i3,⟨ws,i4⟩,i5,⟨x,hx0,i6⟩,i7⟩:=listP_ls st k d _ s2 n e s' h
     have hq : s1.ls <+: s2.ls ∧ (∃ x,s1.b = x ++ s2.b) ∧ s2.n = s1.n:=by
      unfold instrP at hi
      split at hi
      ·split at hi
       ·unfold withinP at hi
        cases hb1 : byteP s1 with
        | none=>rw [hb1] at hi; cases hi
        | some p1 =>
         obtain ⟨c1,s3⟩:=p1
         rw [hb1] at hi
         simp only [Option.bind_some] at hi
         obtain ⟨f1,f2,f3⟩:=byteP_some hb1
         cases hl1 : listP st k (d + 1) [] s3 with
         | none=>rw [hl1] at hi; cases hi
         | some q1 =>
          obtain ⟨⟨n1,e1⟩,s4⟩:=q1
          rw [hl1] at hi
          simp only [Option.bind_some] at hi
          obtain ⟨j1,j2,j3,j4,j5,⟨x1,_,j6⟩,j7⟩:=listP_ls st k (d + 1) [] s3 n1 e1 s4 hl1
          have base : s1.ls <+: s4.ls ∧ (∃ x,s1.b = x ++ s4.b) ∧ s4.n = s1.n:=⟨by rw [← f2]; exact j1,⟨c1 :: x1,by rw [f1,j6]; rfl⟩,by rw [j7,f3]⟩
          split at hi
          ·split at hi
           ·rw [Option.map_eq_some_iff] at hi
            obtain ⟨⟨⟨n2,e2⟩,s5⟩,hl2,he2⟩:=hi
            cases he2
            obtain ⟨g1,g2,g3,g4,g5,⟨x2,_,g6⟩,g7⟩:=listP_ls st k (d + 1) [] s4 n2 e2 _ hl2
            obtain ⟨o1,⟨x3,o2⟩,o3⟩:=base
            exact ⟨o1.trans g1,⟨x3 ++ x2,by rw [o2,g6,List.append_assoc]⟩,by rw [g7,o3]⟩
           ·cases hi; exact base
          ·cases hi; exact base
       ·cases hi
      ·obtain ⟨a1,a2,a3,_⟩:=leafP_some hi
       exact ⟨by rw [a2]; exact List.prefix_refl _,a1,a3⟩
     obtain ⟨q1,⟨x1,q2⟩,q3⟩:=hq
     have ql:=q1.length_le
     rw [b2] at q1 ql
     refine ⟨q1.trans i1,i2,by omega,⟨w :: ws,by rw [i4]; simp⟩,i5,⟨c :: (x1 ++ x),by simp,by rw [b1,q2,i6]; simp⟩,by rw [i7,q3,b3]⟩
end Go.Proofs.YthejpoplbllcbaaGreatDoor
set_option linter.unusedSimpArgs false
set_option linter.unusedVariables false
namespace Go.Proofs.YthejpoplbllcbaaGreatDoor
open Go Go.Abs
theorem prefix_at {α : Type} {x y : List α} (h : x <+: y) {i : Nat} {v : α} (hx : x[i]? = some v) : y[i]? = some v := by
 obtain ⟨z,rfl⟩:=h
 have hi:=(List.getElem?_eq_some_iff.1 hx).1
 rw [List.getElem?_append_left hi]; exact hx
theorem encWs_cons {rec : Int → Option (List UInt8)} {w : W} {r : List W} {y : List UInt8} (h : encWs rec (w :: r) = some y) : ∃ a b,encW rec w = some a ∧ encWs rec r = some b ∧ y = a ++ b := by
 rw [encWs] at h
 cases ha : encW rec w with
 | none=>rw [ha] at h; cases h
 | some a =>
  rw [ha] at h
  simp only [Option.bind_some,Option.map_eq_some_iff] at h
  obtain ⟨b,hb,rfl⟩:=h
  exact ⟨a,b,rfl,hb,rfl⟩
theorem byte_nest {c : UInt8} (h : 2 ≤ c.toNat ∧ c.toNat ≤ 4) : byteI (((c.toNat : Int) + 9) - 9) = c := by
 have : ((c.toNat : Int) + 9) - 9 = (c.toNat : Int):=by omega
 rw [this]
 apply UInt8.toNat_inj.1
 exact byte_nat (by omega)
def Again (st st' : Bool) (fin : To) (k : Nat) : Prop := ∀ (d : Nat) (l : List W) (s : Rs) (n : Int) (e : UInt8) (s' : Rs),listP st k d l s = some ((n,e),s') → s'.ls <+: fin →
 ∀ (j : Nat) (ws : List W) (y : List UInt8),fin[n.toNat]? = some (l ++ ws) → encWs (encL fin j) ws = some y → ∀ (k' : Nat) (t : Rs) (e' : UInt8) (r : List UInt8),(e' = 11 ∨ e' = 5) → t.ls = s.ls → t.b = y ++ e' :: r → t.b.length < k' →
  listP st' k' d l t = some ((n,e'),{ t with b:=r,ls:=s'.ls })
theorem within_again {st st' : Bool} {fin : To} {k : Nat} (IH : Again st st' fin k) {d : Nat} {c : UInt8} (hc : 2 ≤ c.toNat ∧ c.toNat ≤ 4) {s s' : Rs} {w : W} (h : withinP (fun d s => listP st k d [] s) d c s = some (w,s')) (hp : s'.ls <+: fin)
  {j : Nat} {a : List UInt8} (ha : encW (encL fin j) w = some a) : ∃ a',a = c :: a' ∧ ∀ (k' : Nat) (t : Rs) (z : List UInt8),t.ls = s.ls → t.b = a' ++ z → t.b.length < k' + 1 → withinP (fun d s=>listP st' k' d [] s) d c t = some (w,{ t with b:=z,ls:=s'.ls }):=by
 unfold withinP at h
 cases hb1 : byteP s with
 | none=>rw [hb1] at h; cases h
 | some p1 =>
  obtain ⟨c1,s3⟩:=p1
  rw [hb1] at h
  simp only [Option.bind_some] at h
  obtain ⟨f1,f2,f3⟩:=byteP_some hb1
  cases hl1 : listP st k (d + 1) [] s3 with
  | none=>rw [hl1] at h; cases h
  | some q1 =>
   obtain ⟨⟨n1,e1⟩,s4⟩:=q1
   rw [hl1] at h
   simp only [Option.bind_some] at h
   obtain ⟨j1,j2,j3,⟨ws1,j4⟩,j5,_,_⟩:=listP_ls st k (d + 1) [] s3 n1 e1 s4 hl1
   have hbn:=byte_nest hc
   -- the body's bytes
   have body : ∀ x,encL fin j n1 = some x → s4.ls <+: fin → ∀ (k' : Nat) (t : Rs) (e' : UInt8) (r : List UInt8),(e' = 11 ∨ e' = 5) → t.ls = s3.ls → t.b = x ++ e' :: r → t.b.length < k' → listP st' k' (d + 1) [] t = some ((n1,e'),{ t with b:=r,ls:=s4.ls }):=by
    intro x hx hp4 k' t e' r he' ht hb hk
    cases j with
    | zero=>simp [encL] at hx
    | succ j =>
     have hat:=prefix_at hp4 j4
     simp only [List.nil_append] at hat
     rw [encL] at hx
     split at hx
     ·cases hx
     ·rw [hat] at hx
      exact IH (d + 1) [] s3 n1 e1 s4 hl1 hp4 j ws1 x (by simpa using hat) hx k' t e' r he' ht hb hk
   by_cases h4 : c.toNat = 4
   ·simp only [h4,if_true] at h
    have h13 : byteI (13 - 9) = c:=by
     have : ((c.toNat : Int) + 9) = 13:=by omega
     rw [← this]; exact hbn
    by_cases he : e1 = 5
    ·simp only [he,if_true] at h
     rw [Option.map_eq_some_iff] at h
     obtain ⟨⟨⟨n2,e2⟩,s5⟩,hl2,he2⟩:=h
     cases he2
     obtain ⟨g1,g2,g3,⟨ws2,g4⟩,g5,_,_⟩:=listP_ls st k (d + 1) [] s4 n2 e2 _ hl2
     have hn2 : 0 ≤ n2:=by omega
     unfold encW at ha
     simp only [nestP,nestW,decide_true,Bool.or_true,if_true,hn2,and_self,h13] at ha
     cases hx : encL fin j n1 with
     | none=>rw [hx] at ha; cases ha
     | some x =>
      rw [hx] at ha
      simp only [Option.bind_some,Option.map_eq_some_iff] at ha
      obtain ⟨o,ho,rfl⟩:=ha
      refine ⟨_,rfl,fun k' t z ht hb hk=>?_⟩
      have hb : t.b = 64 :: (x ++ 5 :: (o ++ 11 :: z)):=by rw [hb]; simp
      unfold withinP
      rw [byteP_cons hb]
      simp only [Option.bind_some]
      rw [hb] at hk
      simp only [List.length_append,List.length_cons] at hk
      rw [body x hx (g1.trans hp) k' { t with b:=x ++ 5 :: (o ++ 11 :: z) } 5 (o ++ 11 :: z) (.inr rfl) (ht.trans f2.symm) rfl (by simp; omega)]
      simp only [Option.bind_some,h4,if_true]
      cases j with
      | zero=>simp [encL] at ho
      | succ j =>
       have hat:=prefix_at hp g4
       simp only [List.nil_append] at hat
       rw [encL] at ho
       rw [if_neg (by omega),hat] at ho
       rw [IH (d + 1) [] s4 n2 e2 _ hl2 hp j ws2 o (by simpa using hat) ho k' { t with b:=o ++ 11 :: z,ls:=s4.ls } 11 z (.inl rfl) rfl rfl (by simp; omega)]
       rfl
    ·simp only [he,if_false] at h
     cases h
     unfold encW at ha
     have hm1 : ¬ (0 : Int) ≤ -1:=by omega
     simp only [nestP,nestW,decide_true,Bool.or_true,if_true,hm1,and_false,if_false,h13] at ha
     cases hx : encL fin j n1 with
     | none=>rw [hx] at ha; cases ha
     | some x =>
      rw [hx] at ha
      simp only [Option.bind_some,Option.some.injEq] at ha
      subst ha
      refine ⟨_,rfl,fun k' t z ht hb hk=>?_⟩
      have hb : t.b = 64 :: (x ++ 11 :: z):=by rw [hb]; simp
      unfold withinP
      rw [byteP_cons hb]
      simp only [Option.bind_some]
      rw [hb] at hk
      simp only [List.length_append,List.length_cons] at hk
      rw [body x hx hp k' { t with b:=x ++ 11 :: z } 11 z (.inl rfl) (ht.trans f2.symm) rfl (by simp; omega)]
      simp only [Option.bind_some,h4,if_true]
      rfl
   ·simp only [h4,if_false] at h
    cases h
    unfold encW at ha
    have h13 : ¬ ((c.toNat : Int) + 9 = 13):=by omega
    have hnest : nestW (nestP ((c.toNat : Int) + 9) n1 0) = true:=by
     have : ((c.toNat : Int) + 9 = 11 ∨ (c.toNat : Int) + 9 = 12):=by omega
     rcases this with e | e <;> simp [nestP,nestW,e]
    rw [if_pos hnest] at ha
    simp only [nestP,h13,false_and,if_false,hbn] at ha
    cases hx : encL fin j n1 with
    | none=>rw [hx] at ha; cases ha
    | some x =>
     rw [hx] at ha
     simp only [Option.bind_some,Option.some.injEq] at ha
     subst ha
     refine ⟨_,rfl,fun k' t z ht hb hk=>?_⟩
     have hb : t.b = 64 :: (x ++ 11 :: z):=by rw [hb]; simp
     unfold withinP
     rw [byteP_cons hb]
     simp only [Option.bind_some]
     rw [hb] at hk
     simp only [List.length_append,List.length_cons] at hk
     rw [body x hx hp k' { t with b:=x ++ 11 :: z } 11 z (.inl rfl) (ht.trans f2.symm) rfl (by simp; omega)]
     simp only [Option.bind_some,h4,if_false]
theorem listP_again {st st' : Bool} {fin : To} (hr : ∀ ws ∈ fin,∀ w ∈ ws,belowW w = false) : ∀ k,Again st st' fin k
 | 0=>fun d l s n e s' h=>by simp [listP] at h
 | k + 1=>fun d l s n e s' h hp j ws y hn hy k' t e' r he' ht hb hk=>by
  have IH:=listP_again (st:=st) (st':=st') hr k
  obtain ⟨k',rfl⟩ : ∃ i,k' = i + 1:=⟨k' - 1,by omega⟩
  rw [listP] at h
  cases hb0 : byteP s with
  | none=>rw [hb0] at h; cases h
  | some p =>
   obtain ⟨c,s1⟩:=p
   rw [hb0] at h
   simp only [Option.bind_some] at h
   obtain ⟨b1,b2,b3⟩:=byteP_some hb0
   split at h
   ·rename_i hc
    cases h
    have hat:=prefix_at hp (i:=s1.ls.length) (v:=l) (by simp)
    simp only [Int.toNat_natCast] at hn
    rw [hat] at hn
    have hws : ws = []:=by simpa using hn
    subst hws
    simp only [encWs,Option.some.injEq] at hy
    subst hy
    simp only [List.nil_append] at hb
    rw [listP,byteP_cons hb]
    simp only [Option.bind_some,he',if_true]
    rw [ht,b2]
   ·rename_i hc
    cases hi : instrP st (fun d s=>listP st k d [] s) d c s1 with
    | none=>rw [hi] at h; cases h
    | some q =>
     obtain ⟨w,s2⟩:=q
     rw [hi] at h
     simp only [Option.bind_some] at h
     obtain ⟨i1,i2,i3,⟨ws2,i4⟩,_,_,_⟩:=listP_ls st k d _ s2 n e s' h
     have hat:=prefix_at hp i4
     rw [hat] at hn
     have hws : ws = w :: ws2:=by
      simp only [Option.some.injEq,List.append_assoc,List.append_cancel_left_eq] at hn
      exact hn.symm
     subst hws
     obtain ⟨a,y2,ha,hy2,rfl⟩:=encWs_cons hy
     have hbw : belowW w = false:=hr _ (List.mem_of_getElem? hat) w (by simp)
     have key : ∃ a',a = c :: a' ∧ ∀ (t : Rs) (z : List UInt8),t.ls = s1.ls → t.b = a' ++ z → t.b.length < k' + 1 → instrP st' (fun d s=>listP st' k' d [] s) d c t = some (w,{ t with b:=z,ls:=s2.ls }):=by
      unfold instrP at hi
      split at hi
      ·rename_i hc2
       split at hi
       ·rename_i hd
        obtain ⟨a',e1,e2⟩:=within_again IH hc2 hi (i1.trans hp) ha
        refine ⟨a',e1,fun t z ht hb hk=>?_⟩
        unfold instrP
        rw [if_pos hc2,if_pos hd]
        exact e2 k' t z ht hb hk
       ·cases hi
      ·rename_i hc2
       obtain ⟨_,l1,l2,l3,l4,_,_,_,_,l5⟩:=leafP_some hi
       unfold encW at ha
       rw [l3,l4] at ha
       simp only [Bool.false_eq_true,if_false,Option.map_some,Option.some.injEq] at ha
       refine ⟨tailW w,ha.symm,fun t z ht hb hk=>?_⟩
       unfold instrP
       rw [if_neg hc2,l5 st' t z hbw hb,l1,← ht]
     obtain ⟨a',rfl,ki⟩:=key
     simp only [List.cons_append,List.append_assoc] at hb
     rw [listP,byteP_cons hb]
     simp only [Option.bind_some]
     rw [if_neg hc]
     rw [hb] at hk
     simp only [List.length_cons,List.length_append] at hk
     rw [ki { t with b:=a' ++ (y2 ++ e' :: r) } (y2 ++ e' :: r) (ht.trans b2.symm) rfl (by simp; omega)]
     simp only [Option.bind_some]
     exact IH d _ s2 n e s' h hp j ws2 y2 (by rw [hat]) hy2 k' _ e' r he' rfl rfl (by simp; omega)
end Go.Proofs.YthejpoplbllcbaaGreatDoor
set_option linter.unusedSimpArgs false
set_option linter.unusedVariables false
namespace Go.Proofs.YthejpoplbllcbaaGreatDoor
open Go Go.Abs
def Can (i : Int) (w : W) : Prop := (nestW w = true → 0 ≤ w.body ∧ w.body < i ∧ (w.op = 13 → w.other < i)) ∧ (nestW w = false → ∃ c,codeS w = some c)
def CanLs (ls : To) : Prop := ∀ (i : Nat) (ws : List W),ls[i]? = some ws → ∀ w ∈ ws,Can i w
theorem Can.mono {i j : Int} {w : W} (h : Can i w) (hij : i ≤ j) : Can j w := ⟨fun q => by
 obtain ⟨a,b,c⟩:=h.1 q
 exact ⟨a,by omega,fun r=>by have:=c r; omega⟩,h.2⟩
theorem CanLs.snoc {ls : To} {l : List W} (h : CanLs ls) (hl : ∀ w ∈ l,Can ls.length w) : CanLs (ls ++ [l]) := fun i ws hi w hw => by
 rcases Nat.lt_or_ge i ls.length with h1 | h1
 ·rw [List.getElem?_append_left h1] at hi
  exact h i ws hi w hw
 ·rw [List.getElem?_append_right h1] at hi
  have : i = ls.length:=by
   rcases Nat.eq_or_lt_of_le h1 with h2 | h2
   ·exact h2.symm
   ·rw [List.getElem?_eq_none (by simp; omega)] at hi; cases hi
  subst this
  simp only [Nat.sub_self,List.getElem?_cons_zero,Option.some.injEq] at hi
  subst hi
  exact hl w hw
theorem listP_can : ∀ (st : Bool) (k d : Nat) (l : List W) (s : Rs) (n : Int) (e : UInt8) (s' : Rs),listP st k d l s = some ((n,e),s') → CanLs s.ls → (∀ w ∈ l,Can s.ls.length w) → CanLs s'.ls
 | st,0,_,_,_,_,_,_,h,_,_=>by simp [listP] at h
 | st,k + 1,d,l,s,n,e,s',h,hs,hl=>by
  rw [listP] at h
  cases hb : byteP s with
  | none=>rw [hb] at h; cases h
  | some p =>
   obtain ⟨c,s1⟩:=p
   rw [hb] at h
   simp only [Option.bind_some] at h
   obtain ⟨b1,b2,b3⟩:=byteP_some hb
   rw [← b2] at hs hl
   split at h
   ·cases h
    exact hs.snoc hl
   ·cases hi : instrP st (fun d s=>listP st k d [] s) d c s1 with
    | none=>rw [hi] at h; cases h
    | some q =>
     obtain ⟨w,s2⟩:=q
     rw [hi] at h
     simp only [Option.bind_some] at h
     have hq : CanLs s2.ls ∧ s1.ls.length ≤ s2.ls.length ∧ Can s2.ls.length w:=by
      unfold instrP at hi
      split at hi
      ·rename_i hc2
       split at hi
       ·unfold withinP at hi
        cases hb1 : byteP s1 with
        | none=>rw [hb1] at hi; cases hi
        | some p1 =>
         obtain ⟨c1,s3⟩:=p1
         rw [hb1] at hi
         simp only [Option.bind_some] at hi
         obtain ⟨f1,f2,f3⟩:=byteP_some hb1
         rw [← f2] at hs
         cases hl1 : listP st k (d + 1) [] s3 with
         | none=>rw [hl1] at hi; cases hi
         | some q1 =>
          obtain ⟨⟨n1,e1⟩,s4⟩:=q1
          rw [hl1] at hi
          simp only [Option.bind_some] at hi
          obtain ⟨j1,j2,j3,_⟩:=listP_ls st k (d + 1) [] s3 n1 e1 s4 hl1
          have hs4:=listP_can st k (d + 1) [] s3 n1 e1 s4 hl1 hs (by simp)
          have hle:=j1.length_le
          rw [f2] at hle
          split at hi
          ·split at hi
           ·rw [Option.map_eq_some_iff] at hi
            obtain ⟨⟨⟨n2,e2⟩,s5⟩,hl2,he2⟩:=hi
            simp only [Prod.mk.injEq] at he2
            obtain ⟨rfl,rfl⟩:=he2
            obtain ⟨g1,g2,g3,_⟩:=listP_ls st k (d + 1) [] s4 n2 e2 _ hl2
            have hs5:=listP_can st k (d + 1) [] s4 n2 e2 _ hl2 hs4 (by simp)
            have:=g1.length_le
            refine ⟨hs5,by omega,⟨fun _=>⟨?_,?_,fun _=>?_⟩,fun q=>?_⟩⟩
            ·show 0 ≤ n1; omega
            ·show n1 < _; omega
            ·show n2 < _; omega
            ·simp [nestP,nestW] at q
           ·cases hi
            refine ⟨hs4,by omega,⟨fun _=>⟨?_,?_,fun _=>?_⟩,fun q=>?_⟩⟩
            ·show 0 ≤ n1; omega
            ·show n1 < _; omega
            ·show (-1 : Int) < _; omega
            ·simp [nestP,nestW] at q
          ·rename_i h4
           cases hi
           refine ⟨hs4,by omega,⟨fun _=>⟨?_,?_,fun h13=>?_⟩,fun q=>?_⟩⟩
           ·show 0 ≤ n1; omega
           ·show n1 < _; omega
           ·have : ((c.toNat : Int) + 9) = 13:=h13
            omega
           ·have : ((c.toNat : Int) + 9 = 11 ∨ (c.toNat : Int) + 9 = 12):=by omega
            rcases this with e | e <;> simp [nestP,nestW,e] at q
       ·cases hi
      ·obtain ⟨a1,a2,a3,a4,a5,_⟩:=leafP_some hi
       rw [a2]
       exact ⟨hs,Nat.le_refl _,⟨fun q=>(by rw [a4] at q; cases q),fun _=>⟨c,a5⟩⟩⟩
     obtain ⟨q1,q2,q3⟩:=hq
     refine listP_can st k d _ s2 n e s' h q1 fun w' hw'=>?_
     rcases List.mem_append.1 hw' with h1 | h1
     ·exact (hl w' h1).mono (by omega)
     ·simp only [List.mem_singleton] at h1
      subst h1
      exact q3
theorem encWs_some {rec : Int → Option (List UInt8)} : ∀ {ws : List W},(∀ w ∈ ws,∃ a,encW rec w = some a) → ∃ y,encWs rec ws = some y
 | [],_=>⟨[],rfl⟩
 | w :: r,h=>by
  obtain ⟨a,ha⟩:=h w (by simp)
  obtain ⟨y,hy⟩:=encWs_some (ws:=r) fun w' hw'=>h w' (by simp [hw'])
  exact ⟨a ++ y,by rw [encWs,ha,Option.bind_some,hy]; rfl⟩
theorem encL_some {ls : To} (h : CanLs ls) : ∀ (i j : Nat),i < ls.length → i < j → ∃ x,encL ls j i = some x
 | i,0,_,hj=>by omega
 | i,j + 1,hi,hj=>by
  have hg:=List.getElem?_eq_getElem hi
  rw [encL,if_neg (by omega)]
  simp only [Int.toNat_natCast,hg]
  refine encWs_some fun w hw=>?_
  have hc:=h i _ hg w hw
  unfold encW
  by_cases hn : nestW w = true
  ·obtain ⟨h1,h2,h3⟩:=hc.1 hn
   rw [if_pos hn]
   obtain ⟨x,hx⟩:=encL_some h w.body.toNat j (by omega) (by omega)
   rw [show ((w.body.toNat : Nat) : Int) = w.body from by omega] at hx
   rw [hx]
   simp only [Option.bind_some]
   by_cases h13 : w.op = 13 ∧ 0 ≤ w.other
   ·rw [if_pos h13]
    have:=h3 h13.1
    obtain ⟨o,ho⟩:=encL_some h w.other.toNat j (by omega) (by omega)
    rw [show ((w.other.toNat : Nat) : Int) = w.other from by omega] at ho
    rw [ho]
    exact ⟨_,rfl⟩
   ·rw [if_neg h13]
    exact ⟨_,rfl⟩
  ·rw [if_neg hn]
   obtain ⟨c,hc⟩:=hc.2 (by simpa using hn)
   rw [hc]
   exact ⟨_,rfl⟩
termination_by i j => j
theorem tailW_len (w : W) : (tailW w).length ≤ 10 := by
 have h1:=sI_len w.n
 have h2:=uI_len w.n
 unfold tailW
 split
 ·exact h1
 ·split
  ·exact h2
  ·split <;> simp
theorem listP_len {st : Bool} {fin : To} : ∀ (k d : Nat) (l : List W) (s : Rs) (n : Int) (e : UInt8) (s' : Rs),listP st k d l s = some ((n,e),s') → s'.ls <+: fin →
  ∀ (j : Nat) (ws : List W) (y : List UInt8),fin[n.toNat]? = some (l ++ ws) → encWs (encL fin j) ws = some y → y.length + 11 * s'.b.length + 11 ≤ 11 * s.b.length
 | 0,_,_,_,_,_,_,h,_,_,_,_,_,_=>by simp [listP] at h
 | k + 1,d,l,s,n,e,s',h,hp,j,ws,y,hn,hy=>by
  have IH:=@listP_len st fin k
  rw [listP] at h
  cases hb0 : byteP s with
  | none=>rw [hb0] at h; cases h
  | some p =>
   obtain ⟨c,s1⟩:=p
   rw [hb0] at h
   simp only [Option.bind_some] at h
   obtain ⟨b1,b2,b3⟩:=byteP_some hb0
   rw [b1]
   simp only [List.length_cons]
   split at h
   ·rename_i hc
    cases h
    have hat:=prefix_at hp (i:=s1.ls.length) (v:=l) (by simp)
    simp only [Int.toNat_natCast] at hn
    rw [hat] at hn
    have hws : ws = []:=by simpa using hn
    subst hws
    simp only [encWs,Option.some.injEq] at hy
    subst hy
    simp
    omega
   ·rename_i hc
    cases hi : instrP st (fun d s=>listP st k d [] s) d c s1 with
    | none=>rw [hi] at h; cases h
    | some q =>
     obtain ⟨w,s2⟩:=q
     rw [hi] at h
     simp only [Option.bind_some] at h
     obtain ⟨i1,i2,i3,⟨ws2,i4⟩,_,_,_⟩:=listP_ls st k d _ s2 n e s' h
     have hat:=prefix_at hp i4
     have hn':=hn
     rw [hat] at hn
     have hws : ws = w :: ws2:=by
      simp only [Option.some.injEq,List.append_assoc,List.append_cancel_left_eq] at hn
      exact hn.symm
     subst hws
     obtain ⟨a,y2,ha,hy2,rfl⟩:=encWs_cons hy
     have h2:=IH d _ s2 n e s' h hp j ws2 y2 (by rw [hat]) hy2
     have body : ∀ (d' : Nat) (u u' : Rs) (n1 : Int) (e1 : UInt8) (x : List UInt8),listP st k d' [] u = some ((n1,e1),u') → u'.ls <+: fin → encL fin j n1 = some x → x.length + 11 * u'.b.length + 11 ≤ 11 * u.b.length:=by
      intro d' u u' n1 e1 x hl1 hp1 hx
      obtain ⟨j1,j2,j3,⟨ws1,j4⟩,_⟩:=listP_ls st k d' [] u n1 e1 u' hl1
      cases j with
      | zero=>simp [encL] at hx
      | succ j =>
       have hat1:=prefix_at hp1 j4
       rw [encL,if_neg (by omega),hat1] at hx
       exact IH d' [] u n1 e1 u' hl1 hp1 j ws1 x (by simpa using hat1) (by simpa using hx)
     have key : a.length + 11 * s2.b.length ≤ 11 * s1.b.length + 11:=by
      unfold instrP at hi
      split at hi
      ·rename_i hc2
       split at hi
       ·unfold withinP at hi
        cases hb1 : byteP s1 with
        | none=>rw [hb1] at hi; cases hi
        | some p1 =>
         obtain ⟨c1,s3⟩:=p1
         rw [hb1] at hi
         simp only [Option.bind_some] at hi
         obtain ⟨f1,f2,f3⟩:=byteP_some hb1
         rw [f1]
         simp only [List.length_cons]
         cases hl1 : listP st k (d + 1) [] s3 with
         | none=>rw [hl1] at hi; cases hi
         | some q1 =>
          obtain ⟨⟨n1,e1⟩,s4⟩:=q1
          rw [hl1] at hi
          simp only [Option.bind_some] at hi
          split at hi
          ·split at hi
           ·rw [Option.map_eq_some_iff] at hi
            obtain ⟨⟨⟨n2,e2⟩,s5⟩,hl2,he2⟩:=hi
            simp only [Prod.mk.injEq] at he2
            obtain ⟨rfl,rfl⟩:=he2
            obtain ⟨g1,g2,g3,_⟩:=listP_ls st k (d + 1) [] s4 n2 e2 _ hl2
            obtain ⟨j1,j2,j3,_⟩:=listP_ls st k (d + 1) [] s3 n1 e1 s4 hl1
            have hn2 : 0 ≤ n2:=by omega
            unfold encW at ha
            simp only [nestP,nestW,decide_true,Bool.or_true,if_true,hn2,and_self] at ha
            cases hx : encL fin j n1 with
            | none=>rw [hx] at ha; cases ha
            | some x =>
             rw [hx] at ha
             simp only [Option.bind_some,Option.map_eq_some_iff] at ha
             obtain ⟨o,ho,rfl⟩:=ha
             have hx':=body _ _ _ _ _ _ hl1 (g1.trans (i1.trans hp)) hx
             have ho':=body _ _ _ _ _ _ hl2 (i1.trans hp) ho
             simp only [List.length_cons,List.length_append,List.length_nil]
             omega
           ·cases hi
            unfold encW at ha
            have hm1 : ¬ (0 : Int) ≤ -1:=by omega
            simp only [nestP,nestW,decide_true,Bool.or_true,if_true,hm1,and_false,if_false] at ha
            cases hx : encL fin j n1 with
            | none=>rw [hx] at ha; cases ha
            | some x =>
             rw [hx] at ha
             simp only [Option.bind_some,Option.some.injEq] at ha
             subst ha
             have hx':=body _ _ _ _ _ _ hl1 (i1.trans hp) hx
             simp only [List.length_cons,List.length_append,List.length_nil]
             omega
          ·rename_i h4
           cases hi
           unfold encW at ha
           have h13 : ¬ ((c.toNat : Int) + 9 = 13):=by omega
           have hnest : nestW (nestP ((c.toNat : Int) + 9) n1 0) = true:=by
            have : ((c.toNat : Int) + 9 = 11 ∨ (c.toNat : Int) + 9 = 12):=by omega
            rcases this with e | e <;> simp [nestP,nestW,e]
           rw [if_pos hnest] at ha
           simp only [nestP,h13,false_and,if_false] at ha
           cases hx : encL fin j n1 with
           | none=>rw [hx] at ha; cases ha
           | some x =>
            rw [hx] at ha
            simp only [Option.bind_some,Option.some.injEq] at ha
            subst ha
            have hx':=body _ _ _ _ _ _ hl1 (i1.trans hp) hx
            simp only [List.length_cons,List.length_append,List.length_nil]
            omega
       ·cases hi
      ·obtain ⟨⟨x,l1⟩,l2,l3',l3,l4,_⟩:=leafP_some hi
       unfold encW at ha
       rw [l3,l4] at ha
       simp only [Bool.false_eq_true,if_false,Option.map_some,Option.some.injEq] at ha
       subst ha
       have:=tailW_len w
       rw [l1]
       simp
       omega
     simp only [List.length_append]
     omega
theorem listP_size : ∀ (st : Bool) (k d : Nat) (l : List W) (s : Rs) (n : Int) (e : UInt8) (s' : Rs),listP st k d l s = some ((n,e),s') →
  s'.ls.length + s'.b.length ≤ s.ls.length + s.b.length ∧ ∀ B : Nat,l.length + s.b.length ≤ B → (∀ ws ∈ s.ls,ws.length ≤ B) → ∀ ws ∈ s'.ls,ws.length ≤ B
 | st,0,_,_,_,_,_,_,h=>by simp [listP] at h
 | st,k + 1,d,l,s,n,e,s',h=>by
  rw [listP] at h
  cases hb : byteP s with
  | none=>rw [hb] at h; cases h
  | some p =>
   obtain ⟨c,s1⟩:=p
   rw [hb] at h
   simp only [Option.bind_some] at h
   obtain ⟨b1,b2,b3⟩:=byteP_some hb
   rw [← b2,b1]
   simp only [List.length_cons]
   split at h
   ·cases h
    refine ⟨by simp; omega,fun B hB hs ws hw=>?_⟩
    rcases List.mem_append.1 hw with h1 | h1
    ·exact hs ws h1
    ·simp only [List.mem_singleton] at h1
     subst h1
     omega
   ·cases hi : instrP st (fun d s=>listP st k d [] s) d c s1 with
    | none=>rw [hi] at h; cases h
    | some q =>
     obtain ⟨w,s2⟩:=q
     rw [hi] at h
     simp only [Option.bind_some] at h
     have hq : s2.ls.length + s2.b.length ≤ s1.ls.length + s1.b.length ∧ s2.b.length ≤ s1.b.length ∧ ∀ B : Nat,s1.b.length ≤ B → (∀ ws ∈ s1.ls,ws.length ≤ B) → ∀ ws ∈ s2.ls,ws.length ≤ B:=by
      unfold instrP at hi
      split at hi
      ·split at hi
       ·unfold withinP at hi
        cases hb1 : byteP s1 with
        | none=>rw [hb1] at hi; cases hi
        | some p1 =>
         obtain ⟨c1,s3⟩:=p1
         rw [hb1] at hi
         simp only [Option.bind_some] at hi
         obtain ⟨f1,f2,f3⟩:=byteP_some hb1
         rw [← f2,f1]
         simp only [List.length_cons]
         cases hl1 : listP st k (d + 1) [] s3 with
         | none=>rw [hl1] at hi; cases hi
         | some q1 =>
          obtain ⟨⟨n1,e1⟩,s4⟩:=q1
          rw [hl1] at hi
          simp only [Option.bind_some] at hi
          obtain ⟨z1,z2⟩:=listP_size st k (d + 1) [] s3 n1 e1 s4 hl1
          obtain ⟨_,_,_,_,_,⟨x,_,z3⟩,_⟩:=listP_ls st k (d + 1) [] s3 n1 e1 s4 hl1
          have z4:=sub_len z3
          simp only [List.length_nil,Nat.zero_add] at z2
          split at hi
          ·split at hi
           ·rw [Option.map_eq_some_iff] at hi
            obtain ⟨⟨⟨n2,e2⟩,s5⟩,hl2,he2⟩:=hi
            simp only [Prod.mk.injEq] at he2
            obtain ⟨rfl,rfl⟩:=he2
            obtain ⟨y1,y2⟩:=listP_size st k (d + 1) [] s4 n2 e2 _ hl2
            obtain ⟨_,_,_,_,_,⟨x,_,y3⟩,_⟩:=listP_ls st k (d + 1) [] s4 n2 e2 _ hl2
            have y4:=sub_len y3
            simp only [List.length_nil,Nat.zero_add] at y2
            exact ⟨by omega,by omega,fun B hB hs=>y2 B (by omega) (z2 B (by omega) hs)⟩
           ·cases hi
            exact ⟨by omega,by omega,fun B hB hs=>z2 B (by omega) hs⟩
          ·cases hi
           exact ⟨by omega,by omega,fun B hB hs=>z2 B (by omega) hs⟩
       ·cases hi
      ·obtain ⟨⟨x,a1⟩,a2,_⟩:=leafP_some hi
       have:=sub_len a1
       rw [a2]
       exact ⟨by omega,this,fun B _ hs=>hs⟩
     obtain ⟨q1,q2,q3⟩:=hq
     obtain ⟨g1,g2⟩:=listP_size st k d _ s2 n e s' h
     refine ⟨by omega,fun B hB hs=>g2 B (by simp; omega) (q3 B (by omega) hs)⟩
end Go.Proofs.YthejpoplbllcbaaGreatDoor
set_option linter.unusedSimpArgs false
set_option linter.unusedVariables false
namespace Go.Proofs.YthejpoplbllcbaaGreatDoor
open Go Go.Abs
theorem skipP_app {n : Int} {s : Rs} {p r : List UInt8} (h : s.b = p ++ r) (hn : n = p.length) : skipP n s = some { s with b := r } := by
 unfold skipP
 rw [takeP_app h hn]
 rfl
theorem mem_len {α : Type} {l : List (List α)} {x : List α} (h : x ∈ l) : x.length ≤ l.flatten.length := by
 induction l with
 | nil=>cases h
 | cons a l ih =>
  simp only [List.flatten_cons,List.length_append]
  rcases List.mem_cons.1 h with rfl | h
  ·omega
  ·have:=ih h; omega
theorem type_byte {t : Int} (h : t = 1 ∨ t = 2) : (byteI (128 - t) = 126 ∨ byteI (128 - t) = 127) ∧ (128 : Int) - ((byteI (128 - t)).toNat : Int) = t := by
 rcases h with rfl | rfl <;> decide
theorem typeP_e (st : Bool) {t : Int} (h : t = 1 ∨ t = 2) {s : Rs} {rest : List UInt8} (hb : s.b = [byteI (128 - t)] ++ rest) : typeP st s = some (t,{ s with b := rest }) := by
 obtain ⟨h1,h2⟩:=type_byte h
 unfold typeP
 rw [byteP_cons (by simpa using hb)]
 simp only [Option.bind_some]
 rw [if_neg (fun q=>by rcases h1 with e | e; exact q.2.1 e; exact q.2.2 e),h2]
theorem repP_e {α : Type} {f : Rs → Option (α × Rs)} {E : α → List UInt8} : ∀ {xs : List α} {s : Rs} {rest : List UInt8},(∀ x ∈ xs,∀ (s : Rs) (rest : List UInt8),s.b = E x ++ rest → f s = some (x,{ s with b := rest })) → s.b = (xs.map E).flatten ++ rest →
  repP f xs.length s = some (xs,{ s with b:=rest })
 | [],s,rest,_,hb=>by
  simp at hb
  simp [repP,← hb]
 | x :: xs,s,rest,h,hb=>by
  simp only [List.map_cons,List.flatten_cons,List.append_assoc] at hb
  rw [List.length_cons,repP,h x (by simp) s _ hb]
  simp only [Option.bind_some]
  rw [repP_e (fun y hy=>h y (by simp [hy])) rfl]
  rfl
theorem flat_bytes (l : List Int) : (l.map fun t => [byteI (128 - t)]).flatten = l.map fun t => byteI (128 - t) := by
 induction l with
 | nil=>rfl
 | cons t l ih=>simp [ih]
theorem typesP_e (st : Bool) {l : List Int} (h : ∀ t ∈ l,t = 1 ∨ t = 2) (hl : l.length < 2 ^ 62) {s : Rs} {rest : List UInt8} (hb : s.b = typesL l ++ rest) : typesP st s = some (l,{ s with b := rest }) := by
 unfold typesL at hb
 rw [List.append_assoc] at hb
 unfold typesP
 rw [numP_u st (by omega) (by omega) hb]
 simp only [Option.bind_some,Int.toNat_natCast]
 exact repP_e (E:=fun t=>[byteI (128 - t)]) (fun t ht s rest hb=>typeP_e st (h t ht) hb) (by rw [flat_bytes])
theorem resultsP_e (st : Bool) {t : Int} (h : t = 0 ∨ t = 1 ∨ t = 2) {s : Rs} {rest : List UInt8} (hb : s.b = resultsL t ++ rest) : ∃ l,typesP st s = some (l,{ s with b := rest }) ∧ l.headD 0 = t := by
 unfold resultsL at hb
 by_cases h0 : t = 0
 ·rw [if_pos h0] at hb
  exact ⟨[],typesP_e st (by simp) (by simp) hb,h0.symm⟩
 ·rw [if_neg h0] at hb
  exact ⟨[t],typesP_e st (fun x hx=>by simp at hx; subst hx; omega) (by simp) hb,rfl⟩
def strip (f : F) : F := { name := [],params := f.params,locals := [],type := f.type,lists := [] }
theorem headP_e (st : Bool) {f : F} (h1 : ∀ t ∈ f.params,t = 1 ∨ t = 2) (h2 : f.type = 0 ∨ f.type = 1 ∨ f.type = 2) (hl : f.params.length < 2 ^ 62) {s : Rs} {rest : List UInt8} (hb : s.b = headL f.params f.type ++ rest) : headP st s = some (strip f,{ s with b := rest }) := by
 unfold headL at hb
 simp only [List.cons_append,List.append_assoc] at hb
 unfold headP
 rw [byteP_cons hb]
 simp only [Option.bind_some]
 rw [typesP_e st h1 hl rfl]
 simp only [Option.bind_some]
 obtain ⟨l,h3,h4⟩:=resultsP_e st h2 (s:={ s with b:=resultsL f.type ++ rest }) rfl
 rw [h3]
 simp only [Option.map_some,h4]
 rfl
theorem sectionP_e {c : UInt8} {bs rest : List UInt8} {s : Rs} (hb : s.b = sectionL c bs ++ rest) (hl : bs.length < 2 ^ 62) : sectionP c s = some { s with b := bs ++ rest } := by
 unfold sectionL sizedL at hb
 simp only [List.cons_append,List.append_assoc] at hb
 unfold sectionP
 rw [byteP_cons hb]
 simp only [Option.bind_some,if_true]
 rw [numP_u false (by omega) (by omega) rfl]
 rfl
theorem sectionR_e {c : UInt8} {bs rest : List UInt8} {s : Rs} (hb : s.b = sectionL c bs ++ rest) (hl : bs.length < 2 ^ 62) : byteP s = some (c,{ s with b := uI bs.length ++ (bs ++ rest) }) ∧ numP true false { s with b := uI bs.length ++ (bs ++ rest) } = some ((bs.length : Int),{ s with b := bs ++ rest }) := by
 unfold sectionL sizedL at hb
 simp only [List.cons_append,List.append_assoc] at hb
 exact ⟨byteP_cons hb,numP_u true (by omega) (by omega) rfl⟩
theorem typed_parts {f : F} (h : typedF f = true) : (∀ t ∈ f.params,t = 1 ∨ t = 2) ∧ (∀ t ∈ f.locals,t = 1 ∨ t = 2) ∧ (f.type = 0 ∨ f.type = 1 ∨ f.type = 2) := by
 unfold typedF oddT at h
 simp only [Bool.not_eq_true',Bool.or_eq_false_iff,List.any_eq_false,Bool.and_eq_true,decide_eq_true_eq,Bool.and_eq_false_iff,decide_eq_false_iff_not,ne_eq,Classical.not_not] at h
 obtain ⟨h1,h2,h3⟩:=h
 refine ⟨fun t ht=>?_,fun t ht=>?_,?_⟩
 ·have:=h1 t ht; omega
 ·have:=h2 t ht; omega
 ·omega
theorem runN_take {t : Int} : ∀ (l : List Int),l.take (runN t l) = List.replicate (runN t l) t
 | []=>rfl
 | x :: r=>by
  simp only [runN]
  split
  ·rename_i e
   simp [List.replicate_succ,runN_take r,e]
  ·simp
theorem groups_e (st : Bool) : ∀ (k : Nat) (l : List Int),l.length ≤ k → (∀ t ∈ l,t = 1 ∨ t = 2) → ∀ (s : Rs) (rest : List UInt8),s.b = (localsRows k l).flatten ++ rest → s.n + l.length ≤ 65536 →
  ∃ gs,repP (groupP st) (localsRows k l).length s = some (gs,{ s with b:=rest,n:=s.n + l.length }) ∧ gs.flatten = l
 | k,[],_,_,s,rest,hb,_=>by
  have e : localsRows k [] = []:=by cases k <;> rfl
  rw [e] at hb ⊢
  simp at hb
  exact ⟨[],by simp [repP,← hb],rfl⟩
 | 0,t :: r,h,_,_,_,_,_=>by simp at h
 | k + 1,t :: r,hk,ht,s,rest,hb,hn=>by
  have hr:=runN_le t r
  simp only [localsRows,List.flatten_cons,List.append_assoc,List.length_cons] at hb hn hk ⊢
  have hd : (r.drop (runN t r)).length = r.length - runN t r:=List.length_drop
  obtain ⟨gs,h1,h2⟩:=groups_e st k (r.drop (runN t r)) (by omega) (fun x hx=>ht x (List.mem_cons_of_mem _ (List.mem_of_mem_drop hx))) { s with b:=(localsRows k (r.drop (runN t r))).flatten ++ rest,n:=s.n + (runN t r + 1) } rest rfl (by simp only [hd]; omega)
  refine ⟨List.replicate (runN t r + 1) t :: gs,?_,?_⟩
  ·rw [repP]
   unfold groupP
   rw [numP_u st (by omega) (by omega) hb]
   simp only [Option.bind_some,Int.toNat_natCast]
   rw [if_pos ⟨by omega,by omega⟩]
   rw [typeP_e st (ht t (by simp)) (s:={ s with b:=[byteI (128 - t)] ++ ((localsRows k (r.drop (runN t r))).flatten ++ rest),n:=s.n + (runN t r + 1) }) rfl]
   simp only [Option.map_some,Option.bind_some]
   have h1':=h1
   unfold groupP at h1'
   rw [h1']
   simp only [Option.map_some,hd]
   congr 3
   omega
  ·rw [List.flatten_cons,h2,List.replicate_succ,List.cons_append,← runN_take,List.take_append_drop]
structure GoodF (f : F) : Prop where
 typed : typedF f = true
 below : ∀ ws ∈ f.lists,∀ w ∈ ws,belowW w = false
 skel : ∃ st k s e s',listP st k 0 [] s = some (((f.lists.length : Int) - 1,e),s') ∧ s.ls = [] ∧ s'.ls = f.lists
theorem GoodF.can {f : F} (h : GoodF f) : CanLs f.lists ∧ f.lists.length ≠ 0 := by
 obtain ⟨st,k,s,e,s',h1,h2,h3⟩:=h.skel
 have:=listP_can st k 0 [] s _ e s' h1 (by rw [h2]; intro i ws hi; simp at hi) (by simp)
 obtain ⟨_,g,g2,_⟩:=listP_ls st k 0 [] s _ e s' h1
 rw [h3] at this g
 exact ⟨this,by rw [h2] at g2; simp at g2; omega⟩
theorem functionP_e (st : Bool) {f f0 : F} (hf : GoodF f) {c : List UInt8} (hc : codeF f = some c) {s : Rs} {rest : List UInt8} (hb : s.b = c ++ rest) (hn : s.n + f.locals.length ≤ 65536) (hl : c.length < 2 ^ 62) :
  functionP st f0 s = some ({ f0 with locals:=f0.locals ++ f.locals,lists:=f.lists },{ b:=rest,ls:=f.lists,n:=s.n + f.locals.length }):=by
 unfold codeF at hc
 rw [Option.map_eq_some_iff] at hc
 obtain ⟨x,hx,rfl⟩:=hc
 unfold sizedL at hb hl
 simp only [List.append_assoc,List.length_append] at hb hl
 obtain ⟨t1,t2,t3⟩:=typed_parts hf.typed
 unfold functionP
 rw [numP_u st (by omega) (by simp; omega) hb]
 simp only [Option.bind_some]
 have hlr:=localsRows_len f.locals.length f.locals
 rw [numP_u st (n:=((localsRows f.locals.length f.locals).length : Int)) (rest:=(localsRows f.locals.length f.locals).flatten ++ (x ++ ([11] ++ rest))) (by omega) (by omega) (by simp [localsL,rowL])]
 simp only [Option.bind_some,Int.toNat_natCast]
 obtain ⟨gs,g1,g2⟩:=groups_e st f.locals.length f.locals (Nat.le_refl _) t2 { s with b:=(localsRows f.locals.length f.locals).flatten ++ (x ++ ([11] ++ rest)) } (x ++ ([11] ++ rest)) rfl hn
 rw [g1]
 simp only [Option.bind_some,g2]
 obtain ⟨st0,k,s0,e,s',k1,k2,k3⟩:=hf.skel
 obtain ⟨_,q1,q2,⟨ws,q3⟩,_⟩:=listP_ls st0 k 0 [] s0 _ e s' k1
 have hne:=hf.can.2
 obtain ⟨j,hj⟩ : ∃ j,f.lists.length = j + 1:=⟨f.lists.length - 1,by omega⟩
 rw [hj] at hx
 rw [encL,if_neg (by omega)] at hx
 rw [k3] at q3
 have e1 : (((j + 1 : Nat) : Int) - 1) = (f.lists.length : Int) - 1:=by omega
 rw [e1,q3] at hx
 have:=listP_again (st:=st0) (st':=st) hf.below k 0 [] s0 _ e s' k1 (by rw [k3]; exact List.prefix_refl _) j ws x (by rw [q3]) (by simpa using hx) ((x ++ ([11] ++ rest)).length + 1) { b:=x ++ ([11] ++ rest),ls:=[],n:=s.n + f.locals.length } 11 rest (.inl rfl) k2.symm rfl (by simp)
 rw [this]
 simp only [Option.map_some,k3]
end Go.Proofs.YthejpoplbllcbaaGreatDoor
set_option linter.unusedSimpArgs false
set_option linter.unusedVariables false
namespace Go.Proofs.YthejpoplbllcbaaGreatDoor
open Go Go.Abs
def noname (f : F) : F := { f with name := [] }
def manyL (fs : List F) : Nat := (fs.map fun f => f.locals.length).sum
theorem functionsP_e (st : Bool) : ∀ (fs : List F) (codes : List (List UInt8)),(∀ f ∈ fs,GoodF f) → codesF fs = some codes → ∀ (s : Rs) (rest : List UInt8),s.b = codes.flatten ++ rest → s.n + manyL fs ≤ 65536 → codes.flatten.length < 2 ^ 62 →
  ∃ l,functionsP st (fs.map strip) s = some (fs.map noname,{ b:=rest,ls:=l,n:=s.n + manyL fs })
 | [],codes,_,hc,s,rest,hb,_,_=>by
  simp only [codesF,Option.some.injEq] at hc
  subst hc
  simp at hb
  exact ⟨s.ls,by simp [functionsP,manyL,← hb]⟩
 | f :: fs,codes,hg,hc,s,rest,hb,hn,hl=>by
  rw [codesF] at hc
  cases hcf : codeF f with
  | none=>rw [hcf] at hc; cases hc
  | some c =>
   rw [hcf] at hc
   simp only [Option.bind_some,Option.map_eq_some_iff] at hc
   obtain ⟨cs,hcs,rfl⟩:=hc
   simp only [List.flatten_cons,List.append_assoc,List.length_append] at hb hl
   have hm : manyL (f :: fs) = f.locals.length + manyL fs:=rfl
   rw [hm] at hn
   have h1:=functionP_e st (f0:=strip f) (hg f (by simp)) hcf hb (by omega) (by omega)
   obtain ⟨l,h2⟩:=functionsP_e st fs cs (fun g hg'=>hg g (by simp [hg'])) hcs { b:=cs.flatten ++ rest,ls:=f.lists,n:=s.n + f.locals.length } rest rfl (by simp only; omega) (by omega)
   refine ⟨l,?_⟩
   rw [List.map_cons,functionsP,h1]
   simp only [Option.bind_some]
   rw [h2]
   simp only [Option.map_some,List.map_cons,hm,Nat.add_assoc]
   rfl
theorem namesP_e (st : Bool) : ∀ (fs : List F) (i : Int),0 ≤ i → i + fs.length < 2 ^ 62 → ∀ (s : Rs) (rest : List UInt8),s.b = (namesF i fs).flatten ++ rest → (namesF i fs).flatten.length < 2 ^ 62 → namesP st (fs.map noname) s = some (fs,{ s with b := rest })
 | [],i,_,_,s,rest,hb,_=>by
  simp [namesF] at hb
  simp [namesP,← hb]
 | f :: fs,i,h0,hi,s,rest,hb,hl=>by
  simp only [namesF,List.flatten_cons,List.append_assoc,List.length_append,List.length_cons,sizedL] at hb hi hl
  rw [List.map_cons,namesP,numP_u st h0 (by omega) hb]
  simp only [Option.bind_some]
  rw [numP_u st (by omega) (by omega) rfl]
  simp only [Option.bind_some]
  rw [takeP_app (p:=f.name) rfl rfl]
  simp only [Option.bind_some]
  rw [namesP_e st fs (i + 1) (by omega) (by omega) _ rest rfl (by omega)]
  rfl
theorem numsP_e : ∀ (fs : List F) (i : Int),0 ≤ i → i + fs.length < 2 ^ 62 → ∀ (s : Rs) (rest : List UInt8),s.b = (numsF i fs).flatten ++ rest → ∃ l,repP (numP false false) fs.length s = some (l,{ s with b := rest })
 | [],i,_,_,s,rest,hb=>by
  simp [numsF] at hb
  exact ⟨[],by simp [repP,← hb]⟩
 | f :: fs,i,h0,hi,s,rest,hb=>by
  simp only [numsF,List.flatten_cons,List.append_assoc,List.length_cons] at hb hi
  obtain ⟨l,h⟩:=numsP_e fs (i + 1) (by omega) (by omega) { s with b:=(numsF (i + 1) fs).flatten ++ rest } rest rfl
  refine ⟨i :: l,?_⟩
  rw [List.length_cons,repP,numP_u false h0 (by omega) hb]
  simp only [Option.bind_some]
  rw [h]
  rfl
theorem numsF_len : ∀ (fs : List F) (i : Int),(numsF i fs).length = fs.length
 | [],_=>rfl
 | _ :: fs,i=>by simp [numsF,numsF_len fs]
theorem namesF_len : ∀ (fs : List F) (i : Int),(namesF i fs).length = fs.length
 | [],_=>rfl
 | _ :: fs,i=>by simp [namesF,namesF_len fs]
theorem codesF_len : ∀ {fs : List F} {codes : List (List UInt8)},codesF fs = some codes → codes.length = fs.length
 | [],_,h=>by simp only [codesF,Option.some.injEq] at h; subst h; rfl
 | f :: fs,codes,h=>by
  rw [codesF] at h
  cases hcf : codeF f with
  | none=>rw [hcf] at h; cases h
  | some c =>
   rw [hcf] at h
   simp only [Option.bind_some,Option.map_eq_some_iff] at h
   obtain ⟨cs,hcs,rfl⟩:=h
   simp [codesF_len hcs]
def mainHd : List UInt8 := [1,4,109,97,105,110,0]
def memB (m : M) : List UInt8 := [1,127,0,65] ++ (sI m.memory ++ [11])
def startL (m : M) (rest : List UInt8) : List UInt8 := magicL ++ (sectionL 1 (rowL (headsL m.funcs)) ++ (sectionL 2 (rowL importsL) ++ (sectionL 3 (rowL (numsF 3 m.funcs)) ++ (sectionL 5 [1,0,1] ++
  (sectionL 6 (memB m) ++ (7 :: (uI (mainHd ++ uI (mainL m)).length ++ (mainHd ++ rest))))))))
def endL (codes : List (List UInt8)) (fs : List F) : List UInt8 := sectionL 10 (rowL codes) ++ sectionL 0 ([4,110,97,109,101,1] ++ sizedL (rowL (namesF 3 fs)))
theorem encM_parts {m : M} {b : List UInt8} (h : encM m = some b) : ∃ codes,codesF m.funcs = some codes ∧ b = startL m (uI (mainL m) ++ endL codes m.funcs) := by
 unfold encM at h
 rw [Option.map_eq_some_iff] at h
 obtain ⟨codes,hc,rfl⟩:=h
 refine ⟨codes,hc,?_⟩
 have e1 : sizedL [109,97,105,110] = [4,109,97,105,110]:=by decide
 have e2 : sizedL [110,97,109,101] = [4,110,97,109,101]:=by decide
 have e3 : ∀ n bs (r : List UInt8),sectionL n bs ++ r = n :: (uI bs.length ++ (bs ++ r)):=fun n bs r=>by simp [sectionL,sizedL]
 rw [e1,e2]
 unfold startL endL memB mainHd
 simp only [List.append_assoc]
 rw [e3 7]
 simp
def headF (f : F) : Prop := (∀ t ∈ f.params,t = 1 ∨ t = 2) ∧ (f.type = 0 ∨ f.type = 1 ∨ f.type = 2) ∧ f.params.length < 2 ^ 62
theorem headsB_e (st : Bool) {fs : List F} (h : ∀ f ∈ fs,headF f) : ∀ (s : Rs) (rest : List UInt8),s.b = (headsL fs).flatten ++ rest → ∃ a b c,repP (headP st) (fs.length + 3) s = some (a :: b :: c :: fs.map strip,{ s with b := rest }) := by
 intro s rest hb
 let z (p : List Int) (t : Int) : F:={ name:=[],params:=p,locals:=[],type:=t,lists:=[] }
 have e : headsL fs = ((z [] 2 :: z [2] 0 :: z [1] 0 :: fs.map strip).map fun f=>headL f.params f.type):=by
  unfold headsL
  simp only [List.map_cons,List.map_map,List.cons_append,List.nil_append]
  rfl
 rw [e] at hb
 have:=repP_e (f:=headP st) (E:=fun f=>headL f.params f.type) (xs:=z [] 2 :: z [2] 0 :: z [1] 0 :: fs.map strip) (s:=s) (rest:=rest) (fun f hf s rest hb=>?_) hb
 ·refine ⟨z [] 2,z [2] 0,z [1] 0,?_⟩
  rw [show fs.length + 3 = (z [] 2 :: z [2] 0 :: z [1] 0 :: fs.map strip).length from by simp]
  exact this
 ·have key : headF f ∧ strip f = f:=by
   simp only [List.mem_cons,List.mem_map] at hf
   rcases hf with rfl | rfl | rfl | ⟨g,hg,rfl⟩
   ·exact ⟨⟨by simp [z],by simp [z],by simp [z]⟩,rfl⟩
   ·exact ⟨⟨by simp [z],by simp [z],by simp [z]⟩,rfl⟩
   ·exact ⟨⟨by simp [z],by simp [z],by simp [z]⟩,rfl⟩
   ·exact ⟨h g hg,rfl⟩
  have:=headP_e st key.1.1 key.1.2.1 key.1.2.2 hb
  rwa [key.2] at this
theorem imports_e : rowL importsL = [3] ++ (importL [105,110] 0 ++ (importL [111,117,116] 1 ++ (importL [116,114,97,112] 2))) := by decide
theorem headsL_len (fs : List F) : (headsL fs).length = fs.length + 3 := by simp [headsL]
structure Short (m : M) : Prop where
 fs : ∀ f ∈ m.funcs,headF f
 mem : -(2 ^ 63) ≤ m.memory ∧ m.memory < 2 ^ 63
 many : m.funcs.length < 2 ^ 60
 s1 : (rowL (headsL m.funcs)).length < 2 ^ 62
 s3 : (rowL (numsF 3 m.funcs)).length < 2 ^ 62
theorem frontP_to {m : M} (h : Short m) {s : Rs} {rest : List UInt8} (hb : s.b = startL m rest) : frontP s = (numP false false { s with b := rest }).map fun mn => ((m.funcs.map strip,m.memory,mn.1),mn.2) := by
 obtain ⟨h1,h2,h3,h4,h5⟩:=h
 unfold startL at hb
 unfold frontP
 rw [skipP_app (n:=8) (p:=magicL) hb rfl]
 simp only [Option.bind_some]
 have hh : headsP { s with b:=sectionL 1 (rowL (headsL m.funcs)) ++ (sectionL 2 (rowL importsL) ++ (sectionL 3 (rowL (numsF 3 m.funcs)) ++ (sectionL 5 [1,0,1] ++ (sectionL 6 (memB m) ++ (7 :: (uI (mainHd ++ uI (mainL m)).length ++ (mainHd ++ rest))))))) } =
   some (m.funcs.map strip,{ s with b:=sectionL 2 (rowL importsL) ++ (sectionL 3 (rowL (numsF 3 m.funcs)) ++ (sectionL 5 [1,0,1] ++ (sectionL 6 (memB m) ++ (7 :: (uI (mainHd ++ uI (mainL m)).length ++ (mainHd ++ rest)))))) }):=by
  unfold headsP
  rw [sectionP_e rfl h4]
  simp only [Option.bind_some]
  rw [numP_u false (n:=(((headsL m.funcs).length : Nat) : Int)) (by omega) (by rw [headsL_len]; omega) (s:={ s with b:=rowL (headsL m.funcs) ++ _ }) (rest:=(headsL m.funcs).flatten ++ (sectionL 2 (rowL importsL) ++ (sectionL 3 (rowL (numsF 3 m.funcs)) ++ (sectionL 5 [1,0,1] ++ (sectionL 6 (memB m) ++ (7 :: (uI (mainHd ++ uI (mainL m)).length ++ (mainHd ++ rest)))))))) (by simp [rowL])]
  simp only [Option.bind_some,Int.toNat_natCast,headsL_len]
  obtain ⟨a,b,c,e⟩:=headsB_e false h1 { s with b:=(headsL m.funcs).flatten ++ (sectionL 2 (rowL importsL) ++ (sectionL 3 (rowL (numsF 3 m.funcs)) ++ (sectionL 5 [1,0,1] ++ (sectionL 6 (memB m) ++ (7 :: (uI (mainHd ++ uI (mainL m)).length ++ (mainHd ++ rest))))))) } _ rfl
  rw [e]
  simp only [Option.bind_some]
  rw [if_pos (by simp)]
  rfl
 rw [hh]
 simp only [Option.bind_some]
 rw [sectionP_e rfl (by decide),imports_e]
 simp only [Option.bind_some,List.append_assoc]
 rw [skipP_app (n:=1) (p:=[3]) rfl rfl]
 simp only [Option.bind_some]
 rw [skipP_app (n:=9) (p:=importL [105,110] 0) rfl (by decide)]
 simp only [Option.bind_some]
 rw [skipP_app (n:=10) (p:=importL [111,117,116] 1) rfl (by decide)]
 simp only [Option.bind_some]
 rw [skipP_app (n:=11) (p:=importL [116,114,97,112] 2) rfl (by decide)]
 simp only [Option.bind_some]
 rw [sectionP_e rfl h5]
 simp only [Option.bind_some]
 rw [numP_u false (n:=(((numsF 3 m.funcs).length : Nat) : Int)) (by omega) (by rw [numsF_len]; omega) (rest:=(numsF 3 m.funcs).flatten ++ (sectionL 5 [1,0,1] ++ (sectionL 6 (memB m) ++ (7 :: (uI (mainHd ++ uI (mainL m)).length ++ (mainHd ++ rest)))))) (by simp [rowL])]
 simp only [Option.bind_some,Int.toNat_natCast,numsF_len]
 obtain ⟨l,e⟩:=numsP_e m.funcs 3 (by omega) (by omega) { s with b:=(numsF 3 m.funcs).flatten ++ (sectionL 5 [1,0,1] ++ (sectionL 6 (memB m) ++ (7 :: (uI (mainHd ++ uI (mainL m)).length ++ (mainHd ++ rest))))) } _ rfl
 rw [e]
 simp only [Option.bind_some]
 rw [sectionP_e rfl (by decide)]
 simp only [Option.bind_some]
 rw [skipP_app (n:=3) (p:=[1,0,1]) rfl rfl]
 simp only [Option.bind_some]
 have hml : (memB m).length < 2 ^ 62:=by have:=sI_len m.memory; simp [memB]; omega
 rw [sectionP_e rfl hml]
 simp only [Option.bind_some]
 rw [skipP_app (n:=4) (p:=[1,127,0,65]) (r:=sI m.memory ++ ([11] ++ (7 :: (uI (mainHd ++ uI (mainL m)).length ++ (mainHd ++ rest))))) (by simp [memB]) rfl]
 simp only [Option.bind_some]
 rw [numP_s false h2.1 h2.2 rfl]
 simp only [Option.bind_some]
 rw [skipP_app (n:=1) (p:=[11]) rfl rfl]
 simp only [Option.bind_some]
 have h7 : (mainHd ++ uI (mainL m)).length < 2 ^ 62:=by have:=uI_len (mainL m); simp [mainHd]; omega
 have s7 : sectionP 7 { s with b:=7 :: (uI (mainHd ++ uI (mainL m)).length ++ (mainHd ++ rest)) } = some { s with b:=mainHd ++ rest }:=by
  unfold sectionP
  rw [byteP_cons rfl]
  simp only [Option.bind_some,if_true]
  rw [numP_u false (by omega) (by omega) rfl]
  rfl
 rw [s7]
 simp only [Option.bind_some]
 rw [skipP_app (n:=7) (p:=mainHd) rfl rfl]
 simp only [Option.bind_some]
theorem backP_e {fs : List F} {codes : List (List UInt8)} (hg : ∀ f ∈ fs,GoodF f) (hc : codesF fs = some codes) {s : Rs} (hb : s.b = endL codes fs) (hn : s.n + manyL fs ≤ 65536) (hl : (endL codes fs).length < 2 ^ 60) : ∃ s',backP (fs.map strip) s = some (fs,s') ∧ s'.b = [] := by
 have hcl:=codesF_len hc
 have hnl:=namesF_len fs 3
 have hu:=uI_ne (fs.length)
 have l1 : (rowL codes).length < 2 ^ 60 ∧ (rowL (namesF 3 fs)).length < 2 ^ 60 ∧ ([4,110,97,109,101,1] ++ sizedL (rowL (namesF 3 fs))).length < 2 ^ 60:=by
  unfold endL sectionL sizedL at hl
  simp only [List.length_append,List.length_cons] at hl
  refine ⟨by omega,by omega,?_⟩
  unfold sizedL
  simp only [List.length_append,List.length_cons] at *
  omega
 obtain ⟨l1,l2,l3⟩:=l1
 have l4 : codes.flatten.length < 2 ^ 60:=by unfold rowL at l1; simp only [List.length_append] at l1; omega
 have l5 : (namesF 3 fs).flatten.length < 2 ^ 60:=by unfold rowL at l2; simp only [List.length_append] at l2; omega
 have l6 : fs.length < 2 ^ 60:=by
  have : ∀ (gs : List F) (i : Int),gs.length ≤ (namesF i gs).flatten.length:=fun gs=>by
   induction gs with
   | nil=>intro i; simp
   | cons g gs ih =>
    intro i
    have:=ih (i + 1)
    have h1:=List.length_pos_iff.2 (uI_ne i)
    simp only [namesF,List.flatten_cons,List.length_append,List.length_cons]
    omega
  have:=this fs 3
  omega
 unfold endL at hb
 unfold backP
 rw [sectionP_e hb (by omega)]
 simp only [Option.bind_some]
 rw [numP_u false (n:=((codes.length : Nat) : Int)) (by omega) (by omega) (rest:=codes.flatten ++ sectionL 0 ([4,110,97,109,101,1] ++ sizedL (rowL (namesF 3 fs)))) (by simp [rowL])]
 simp only [Option.bind_some]
 rw [if_pos (by simp [hcl])]
 obtain ⟨l,e⟩:=functionsP_e false fs codes hg hc { s with b:=codes.flatten ++ sectionL 0 ([4,110,97,109,101,1] ++ sizedL (rowL (namesF 3 fs))) } _ rfl hn (by omega)
 rw [e]
 simp only [Option.bind_some]
 rw [sectionP_e (c:=0) (bs:=[4,110,97,109,101,1] ++ sizedL (rowL (namesF 3 fs))) (rest:=[]) (List.append_nil _).symm (by omega)]
 simp only [Option.bind_some,List.append_nil]
 rw [skipP_app (n:=6) (p:=[4,110,97,109,101,1]) rfl rfl]
 simp only [Option.bind_some]
 rw [numP_u false (n:=(((rowL (namesF 3 fs)).length : Nat) : Int)) (by omega) (by omega) (rest:=rowL (namesF 3 fs)) rfl]
 simp only [Option.bind_some]
 rw [numP_u false (n:=(((namesF 3 fs).length : Nat) : Int)) (by omega) (by omega) (rest:=(namesF 3 fs).flatten) rfl]
 simp only [Option.bind_some]
 rw [if_pos (by simp [hnl]),namesP_e false fs 3 (by omega) (by omega) _ [] (by simp) (by omega)]
 exact ⟨_,rfl,rfl⟩
end Go.Proofs.YthejpoplbllcbaaGreatDoor
set_option linter.unusedSimpArgs false
set_option linter.unusedVariables false
namespace Go.Proofs.YthejpoplbllcbaaGreatDoor
open Go Go.Abs
def secR (s : Rs) : Option (Int × Rs) := (byteP s).bind fun p => numP true false p.2
def headsR (s : Rs) : Option (List F × Rs) := (secR s).bind fun a => (numP true false a.2).bind fun n => (repP (headP true) n.1.toNat n.2).map fun h => (h.1.drop 3,h.2)
def frontR (s : Rs) : Option ((List F × Int × Int) × Rs) := (skipP 8 s).bind fun s => (headsR s).bind fun h => (secR h.2).bind fun a => (skipP a.1 a.2).bind fun s => (secR s).bind fun a => (skipP a.1 a.2).bind fun s => (skipP 5 s).bind fun s =>
 (secR s).bind fun a=>(skipP 4 a.2).bind fun s=>(numP true true s).bind fun mem=>(skipP 1 mem.2).bind fun s=>(secR s).bind fun a=>(skipP 7 a.2).bind fun s=>(numP true false s).map fun mn=>((h.1,mem.1,mn.1),mn.2)
def backR (h : List F) (s : Rs) : Option (List F × Rs) := (secR s).bind fun a => (numP true false a.2).bind fun c => (functionsP true h c.2).bind fun fs => (secR fs.2).bind fun a => (skipP 6 a.2).bind fun s =>
 (numP true false s).bind fun x=>(numP true false x.2).bind fun y=>namesP true fs.1 y.2
def moduleR (s : Rs) : Option (M × Rs) := (frontR s).bind fun p => (backR p.1.1 p.2).map fun q => ({ funcs := q.1,memory := p.1.2.1,main := IntKind.wrap .i64 (p.1.2.2 - 3) },q.2)
def decodeR (b : List UInt8) : Option M := (moduleR ⟨b,[],0⟩).bind fun p => if p.2.b = [] ∧ encM p.1 = some b then some p.1 else none
theorem secR_e {c : UInt8} {bs rest : List UInt8} {s : Rs} (hb : s.b = sectionL c bs ++ rest) (hl : bs.length < 2 ^ 62) : secR s = some ((bs.length : Int),{ s with b := bs ++ rest }) := by
 obtain ⟨h1,h2⟩:=sectionR_e hb hl
 unfold secR
 rw [h1]
 simp only [Option.bind_some]
 rw [h2]
structure GoodBM (m : M) : Prop where
 fs : ∀ f ∈ m.funcs,GoodF f
 many : manyL m.funcs ≤ 65536
 mem : -(2 ^ 63) ≤ m.memory ∧ m.memory < 2 ^ 63
 main0 : 0 ≤ mainL m
 main : m.main = IntKind.wrap .i64 (mainL m - 3)
theorem short_of {m : M} {b : List UInt8} (hf : ∀ f ∈ m.funcs,typedF f = true) (hm : -(2 ^ 63) ≤ m.memory ∧ m.memory < 2 ^ 63) {rest : List UInt8} (hb : b = startL m rest) (hl : b.length < 2 ^ 60) : Short m ∧ rest.length < 2 ^ 60 := by
 have hb' : b.length = (startL m rest).length:=by rw [hb]
 unfold startL sectionL sizedL at hb'
 simp only [List.length_append,List.length_cons] at hb'
 have h1 : (rowL (headsL m.funcs)).length < 2 ^ 60:=by omega
 have h3 : (rowL (numsF 3 m.funcs)).length < 2 ^ 60:=by omega
 have h1':=h1
 unfold rowL at h1'
 simp only [List.length_append] at h1'
 refine ⟨⟨fun f hf'=>?_,hm,?_,by omega,by omega⟩,by omega⟩
 ·obtain ⟨t1,_,t3⟩:=typed_parts (hf f hf')
  refine ⟨t1,t3,?_⟩
  have hmem : headL f.params f.type ∈ headsL m.funcs:=by
   unfold headsL
   exact List.mem_append.2 (.inr (List.mem_map.2 ⟨f,hf',rfl⟩))
  have:=mem_len hmem
  have h5 : f.params.length ≤ (headL f.params f.type).length:=by simp [headL,typesL]; omega
  omega
 ·have : ∀ (gs : List F) (i : Int),gs.length ≤ (numsF i gs).flatten.length:=fun gs=>by
   induction gs with
   | nil=>intro i; simp
   | cons g gs ih =>
    intro i
    have:=ih (i + 1)
    have h1:=List.length_pos_iff.2 (uI_ne i)
    simp only [numsF,List.flatten_cons,List.length_append,List.length_cons]
    omega
  have:=this m.funcs 3
  unfold rowL at h3
  simp only [List.length_append] at h3
  omega
theorem frontR_to {m : M} (h : Short m) {s : Rs} {rest : List UInt8} (hb : s.b = startL m rest) : frontR s = (numP true false { s with b := rest }).map fun mn => ((m.funcs.map strip,m.memory,mn.1),mn.2) := by
 obtain ⟨h1,h2,h3,h4,h5⟩:=h
 unfold startL at hb
 unfold frontR
 rw [skipP_app (n:=8) (p:=magicL) hb rfl]
 simp only [Option.bind_some]
 have hh : headsR { s with b:=sectionL 1 (rowL (headsL m.funcs)) ++ (sectionL 2 (rowL importsL) ++ (sectionL 3 (rowL (numsF 3 m.funcs)) ++ (sectionL 5 [1,0,1] ++ (sectionL 6 (memB m) ++ (7 :: (uI (mainHd ++ uI (mainL m)).length ++ (mainHd ++ rest))))))) } =
   some (m.funcs.map strip,{ s with b:=sectionL 2 (rowL importsL) ++ (sectionL 3 (rowL (numsF 3 m.funcs)) ++ (sectionL 5 [1,0,1] ++ (sectionL 6 (memB m) ++ (7 :: (uI (mainHd ++ uI (mainL m)).length ++ (mainHd ++ rest)))))) }):=by
  unfold headsR
  rw [secR_e rfl h4]
  simp only [Option.bind_some]
  rw [numP_u true (n:=(((headsL m.funcs).length : Nat) : Int)) (by omega) (by rw [headsL_len]; omega) (s:={ s with b:=rowL (headsL m.funcs) ++ _ }) (rest:=(headsL m.funcs).flatten ++ (sectionL 2 (rowL importsL) ++ (sectionL 3 (rowL (numsF 3 m.funcs)) ++ (sectionL 5 [1,0,1] ++ (sectionL 6 (memB m) ++ (7 :: (uI (mainHd ++ uI (mainL m)).length ++ (mainHd ++ rest)))))))) (by simp [rowL])]
  simp only [Option.bind_some,Int.toNat_natCast,headsL_len]
  obtain ⟨a,b,c,e⟩:=headsB_e true h1 { s with b:=(headsL m.funcs).flatten ++ (sectionL 2 (rowL importsL) ++ (sectionL 3 (rowL (numsF 3 m.funcs)) ++ (sectionL 5 [1,0,1] ++ (sectionL 6 (memB m) ++ (7 :: (uI (mainHd ++ uI (mainL m)).length ++ (mainHd ++ rest))))))) } _ rfl
  rw [e]
  rfl
 rw [hh]
 simp only [Option.bind_some]
 rw [secR_e rfl (by decide)]
 simp only [Option.bind_some]
 rw [skipP_app (p:=rowL importsL) rfl rfl]
 simp only [Option.bind_some]
 rw [secR_e rfl h5]
 simp only [Option.bind_some]
 rw [skipP_app (p:=rowL (numsF 3 m.funcs)) rfl rfl]
 simp only [Option.bind_some]
 rw [skipP_app (n:=5) (p:=sectionL 5 [1,0,1]) rfl (by decide)]
 simp only [Option.bind_some]
 have hml : (memB m).length < 2 ^ 62:=by have:=sI_len m.memory; simp [memB]; omega
 rw [secR_e rfl hml]
 simp only [Option.bind_some]
 rw [skipP_app (n:=4) (p:=[1,127,0,65]) (r:=sI m.memory ++ ([11] ++ (7 :: (uI (mainHd ++ uI (mainL m)).length ++ (mainHd ++ rest))))) (by simp [memB]) rfl]
 simp only [Option.bind_some]
 rw [numP_s true h2.1 h2.2 rfl]
 simp only [Option.bind_some]
 rw [skipP_app (n:=1) (p:=[11]) rfl rfl]
 simp only [Option.bind_some]
 have h7 : (mainHd ++ uI (mainL m)).length < 2 ^ 62:=by have:=uI_len (mainL m); simp [mainHd]; omega
 have s7 : secR { s with b:=7 :: (uI (mainHd ++ uI (mainL m)).length ++ (mainHd ++ rest)) } = some (((mainHd ++ uI (mainL m)).length : Int),{ s with b:=mainHd ++ rest }):=by
  unfold secR
  rw [byteP_cons rfl]
  simp only [Option.bind_some,if_true]
  rw [numP_u true (by omega) (by omega) rfl]
 rw [s7]
 simp only [Option.bind_some]
 rw [skipP_app (n:=7) (p:=mainHd) rfl rfl]
 simp only [Option.bind_some]
theorem end_len {fs : List F} {codes : List (List UInt8)} (hl : (endL codes fs).length < 2 ^ 60) : (rowL codes).length < 2 ^ 60 ∧ (rowL (namesF 3 fs)).length < 2 ^ 60 ∧ ([4,110,97,109,101,1] ++ sizedL (rowL (namesF 3 fs))).length < 2 ^ 60 ∧ codes.flatten.length < 2 ^ 60 ∧ (namesF 3 fs).flatten.length < 2 ^ 60 ∧ fs.length < 2 ^ 60 := by
 have l1 : (rowL codes).length < 2 ^ 60 ∧ (rowL (namesF 3 fs)).length < 2 ^ 60 ∧ ([4,110,97,109,101,1] ++ sizedL (rowL (namesF 3 fs))).length < 2 ^ 60:=by
  unfold endL sectionL sizedL at hl
  simp only [List.length_append,List.length_cons] at hl
  refine ⟨by omega,by omega,?_⟩
  unfold sizedL
  simp only [List.length_append,List.length_cons] at *
  omega
 obtain ⟨l1,l2,l3⟩:=l1
 have l4 : codes.flatten.length < 2 ^ 60:=by unfold rowL at l1; simp only [List.length_append] at l1; omega
 have l5 : (namesF 3 fs).flatten.length < 2 ^ 60:=by unfold rowL at l2; simp only [List.length_append] at l2; omega
 refine ⟨l1,l2,l3,l4,l5,?_⟩
 have : ∀ (gs : List F) (i : Int),gs.length ≤ (namesF i gs).flatten.length:=fun gs=>by
  induction gs with
  | nil=>intro i; simp
  | cons g gs ih =>
   intro i
   have:=ih (i + 1)
   have h1:=List.length_pos_iff.2 (uI_ne i)
   simp only [namesF,List.flatten_cons,List.length_append,List.length_cons]
   omega
 have:=this fs 3
 omega
theorem backR_e {fs : List F} {codes : List (List UInt8)} (hg : ∀ f ∈ fs,GoodF f) (hc : codesF fs = some codes) {s : Rs} (hb : s.b = endL codes fs) (hn : s.n + manyL fs ≤ 65536) (hl : (endL codes fs).length < 2 ^ 60) : ∃ s',backR (fs.map strip) s = some (fs,s') ∧ s'.b = [] := by
 have hcl:=codesF_len hc
 have hnl:=namesF_len fs 3
 obtain ⟨l1,l2,l3,l4,l5,l6⟩:=end_len hl
 unfold endL at hb
 unfold backR
 rw [secR_e hb (by omega)]
 simp only [Option.bind_some]
 rw [numP_u true (n:=((codes.length : Nat) : Int)) (by omega) (by omega) (rest:=codes.flatten ++ sectionL 0 ([4,110,97,109,101,1] ++ sizedL (rowL (namesF 3 fs)))) (by simp [rowL])]
 simp only [Option.bind_some]
 obtain ⟨l,e⟩:=functionsP_e true fs codes hg hc { s with b:=codes.flatten ++ sectionL 0 ([4,110,97,109,101,1] ++ sizedL (rowL (namesF 3 fs))) } _ rfl hn (by omega)
 rw [e]
 simp only [Option.bind_some]
 rw [secR_e (c:=0) (bs:=[4,110,97,109,101,1] ++ sizedL (rowL (namesF 3 fs))) (rest:=[]) (List.append_nil _).symm (by omega)]
 simp only [Option.bind_some,List.append_nil]
 rw [skipP_app (n:=6) (p:=[4,110,97,109,101,1]) rfl rfl]
 simp only [Option.bind_some]
 rw [numP_u true (n:=(((rowL (namesF 3 fs)).length : Nat) : Int)) (by omega) (by omega) (rest:=rowL (namesF 3 fs)) rfl]
 simp only [Option.bind_some]
 rw [numP_u true (n:=(((namesF 3 fs).length : Nat) : Int)) (by omega) (by omega) (rest:=(namesF 3 fs).flatten) rfl]
 simp only [Option.bind_some]
 rw [namesP_e true fs 3 (by omega) (by omega) _ [] (by simp) (by omega)]
 exact ⟨_,rfl,rfl⟩
theorem good_parts {m : M} {b : List UInt8} (hg : GoodBM m) (he : encM m = some b) (hl : b.length < 2 ^ 60) : ∃ codes,codesF m.funcs = some codes ∧ b = startL m (uI (mainL m) ++ endL codes m.funcs) ∧ Short m ∧ (endL codes m.funcs).length < 2 ^ 60 := by
 obtain ⟨codes,hc,hb⟩:=encM_parts he
 obtain ⟨h1,h2⟩:=short_of (fun f hf=>(hg.fs f hf).typed) hg.mem hb hl
 simp only [List.length_append] at h2
 exact ⟨codes,hc,hb,h1,by omega⟩
theorem moduleP_good {m : M} {b : List UInt8} (hg : GoodBM m) (he : encM m = some b) (hl : b.length < 2 ^ 60) : ∃ s',moduleP ⟨b,[],0⟩ = some (m,s') ∧ s'.b = [] := by
 obtain ⟨codes,hc,hb,hs,hel⟩:=good_parts hg he hl
 have hr:=wrap_range (m.main + 3)
 unfold moduleP
 rw [frontP_to hs (s:=⟨b,[],0⟩) hb,numP_u false hg.main0 (by exact hr.2) rfl]
 simp only [Option.map_some,Option.bind_some]
 obtain ⟨s',h1,h2⟩:=backP_e hg.fs hc (s:=⟨endL codes m.funcs,[],0⟩) rfl (by have:=hg.many; simp only; omega) hel
 rw [h1]
 refine ⟨s',?_,h2⟩
 simp only [Option.map_some,← hg.main]
theorem moduleR_good {m : M} {b : List UInt8} (hg : GoodBM m) (he : encM m = some b) (hl : b.length < 2 ^ 60) : ∃ s',moduleR ⟨b,[],0⟩ = some (m,s') ∧ s'.b = [] := by
 obtain ⟨codes,hc,hb,hs,hel⟩:=good_parts hg he hl
 have hr:=wrap_range (m.main + 3)
 unfold moduleR
 rw [frontR_to hs (s:=⟨b,[],0⟩) hb,numP_u true hg.main0 (by exact hr.2) rfl]
 simp only [Option.map_some,Option.bind_some]
 obtain ⟨s',h1,h2⟩:=backR_e hg.fs hc (s:=⟨endL codes m.funcs,[],0⟩) rfl (by have:=hg.many; simp only; omega) hel
 rw [h1]
 refine ⟨s',?_,h2⟩
 simp only [Option.map_some,← hg.main]
end Go.Proofs.YthejpoplbllcbaaGreatDoor
set_option linter.unusedSimpArgs false
set_option linter.unusedVariables false
namespace Go.Proofs.YthejpoplbllcbaaGreatDoor
open Go Go.Abs
theorem listP_below : ∀ (k d : Nat) (l : List W) (s : Rs) (n : Int) (e : UInt8) (s' : Rs),listP true k d l s = some ((n,e),s') → (∀ ws ∈ s.ls,∀ w ∈ ws,belowW w = false) → (∀ w ∈ l,belowW w = false) → ∀ ws ∈ s'.ls,∀ w ∈ ws,belowW w = false
 | 0,_,_,_,_,_,_,h,_,_=>by simp [listP] at h
 | k + 1,d,l,s,n,e,s',h,hs,hl=>by
  rw [listP] at h
  cases hb : byteP s with
  | none=>rw [hb] at h; cases h
  | some p =>
   obtain ⟨c,s1⟩:=p
   rw [hb] at h
   simp only [Option.bind_some] at h
   obtain ⟨b1,b2,b3⟩:=byteP_some hb
   rw [← b2] at hs
   split at h
   ·cases h
    intro ws hw
    rcases List.mem_append.1 hw with h1 | h1
    ·exact hs ws h1
    ·simp only [List.mem_singleton] at h1
     subst h1
     exact hl
   ·cases hi : instrP true (fun d s=>listP true k d [] s) d c s1 with
    | none=>rw [hi] at h; cases h
    | some q =>
     obtain ⟨w,s2⟩:=q
     rw [hi] at h
     simp only [Option.bind_some] at h
     have hq : (∀ ws ∈ s2.ls,∀ w ∈ ws,belowW w = false) ∧ belowW w = false:=by
      unfold instrP at hi
      split at hi
      ·split at hi
       ·unfold withinP at hi
        cases hb1 : byteP s1 with
        | none=>rw [hb1] at hi; cases hi
        | some p1 =>
         obtain ⟨c1,s3⟩:=p1
         rw [hb1] at hi
         simp only [Option.bind_some] at hi
         obtain ⟨f1,f2,f3⟩:=byteP_some hb1
         rw [← f2] at hs
         cases hl1 : listP true k (d + 1) [] s3 with
         | none=>rw [hl1] at hi; cases hi
         | some q1 =>
          obtain ⟨⟨n1,e1⟩,s4⟩:=q1
          rw [hl1] at hi
          simp only [Option.bind_some] at hi
          have hs4:=listP_below k (d + 1) [] s3 n1 e1 s4 hl1 hs (by simp)
          split at hi
          ·split at hi
           ·rw [Option.map_eq_some_iff] at hi
            obtain ⟨⟨⟨n2,e2⟩,s5⟩,hl2,he2⟩:=hi
            simp only [Prod.mk.injEq] at he2
            obtain ⟨rfl,rfl⟩:=he2
            exact ⟨listP_below k (d + 1) [] s4 n2 e2 _ hl2 hs4 (by simp),by simp [belowW,nestP]⟩
           ·cases hi
            exact ⟨hs4,by simp [belowW,nestP]⟩
          ·cases hi
           exact ⟨hs4,by simp [belowW,nestP]⟩
       ·cases hi
      ·obtain ⟨_,a2,_,_,_,_,_,_,a3,_⟩:=leafP_some hi
       rw [a2]
       exact ⟨hs,a3 rfl⟩
     refine listP_below k d _ s2 n e s' h hq.1 fun w' hw'=>?_
     rcases List.mem_append.1 hw' with h1 | h1
     ·exact hl w' h1
     ·simp only [List.mem_singleton] at h1
      subst h1
      exact hq.2
def tyOk (t : Int) : Prop := t = 1 ∨ t = 2
theorem typeP_some {st : Bool} {s s' : Rs} {t : Int} (h : typeP st s = some (t,s')) : s'.ls = s.ls ∧ s'.n = s.n ∧ (st = true → tyOk t) := by
 unfold typeP at h
 cases hb : byteP s with
 | none=>rw [hb] at h; cases h
 | some p =>
  obtain ⟨c,s1⟩:=p
  rw [hb] at h
  simp only [Option.bind_some] at h
  obtain ⟨b1,b2,b3⟩:=byteP_some hb
  split at h
  ·cases h
  ·rename_i hno
   cases h
   refine ⟨b2,b3,fun hst=>?_⟩
   by_cases h1 : c = 126
   ·subst h1; right; rfl
   ·by_cases h2 : c = 127
    ·subst h2; left; rfl
    ·exact absurd ⟨hst,h1,h2⟩ hno
theorem types_some {st : Bool} : ∀ {n : Nat} {s s' : Rs} {l : List Int},repP (typeP st) n s = some (l,s') → s'.ls = s.ls ∧ s'.n = s.n ∧ (st = true → ∀ t ∈ l,tyOk t) ∧ l.length = n
 | 0,s,s',l,h=>by
  cases h
  exact ⟨rfl,rfl,fun _=>by simp,rfl⟩
 | n + 1,s,s',l,h=>by
  rw [repP] at h
  simp only [Option.bind_eq_some_iff,Option.map_eq_some_iff] at h
  obtain ⟨⟨t,s1⟩,h1,⟨l',s2⟩,h2,h3⟩:=h
  cases h3
  obtain ⟨a1,a2,a3⟩:=typeP_some h1
  obtain ⟨b1,b2,b3,b4⟩:=types_some h2
  refine ⟨b1.trans a1,b2.trans a2,fun hst x hx=>?_,by simp [b4]⟩
  rcases List.mem_cons.1 hx with rfl | hx
  ·exact a3 hst
  ·exact b3 hst x hx
theorem typesP_some {st : Bool} {s s' : Rs} {l : List Int} (h : typesP st s = some (l,s')) : s'.ls = s.ls ∧ s'.n = s.n ∧ (st = true → ∀ t ∈ l,tyOk t) := by
 unfold typesP at h
 simp only [Option.bind_eq_some_iff] at h
 obtain ⟨⟨n,s1⟩,h1,h2⟩:=h
 obtain ⟨_,a1,a2,_⟩:=numP_some h1
 obtain ⟨b1,b2,b3,_⟩:=types_some h2
 exact ⟨b1.trans a1,b2.trans a2,b3⟩
def HeadOk (st : Bool) (f : F) : Prop := f.locals = [] ∧ (st = true → (∀ t ∈ f.params,tyOk t) ∧ (f.type = 0 ∨ tyOk f.type))
theorem headP_some {st : Bool} {s s' : Rs} {f : F} (h : headP st s = some (f,s')) : s'.ls = s.ls ∧ s'.n = s.n ∧ HeadOk st f := by
 unfold headP at h
 simp only [Option.bind_eq_some_iff,Option.map_eq_some_iff] at h
 obtain ⟨⟨c,s1⟩,h1,⟨l,s2⟩,h2,⟨r,s3⟩,h3,h4⟩:=h
 cases h4
 obtain ⟨_,a1,a2⟩:=byteP_some h1
 obtain ⟨b1,b2,b3⟩:=typesP_some h2
 obtain ⟨c1,c2,c3⟩:=typesP_some h3
 refine ⟨c1.trans (b1.trans a1),c2.trans (b2.trans a2),rfl,fun hst=>⟨b3 hst,?_⟩⟩
 cases r with
 | nil=>exact .inl rfl
 | cons t r=>exact .inr (c3 hst t (by simp))
theorem heads_some {st : Bool} : ∀ {n : Nat} {s s' : Rs} {l : List F},repP (headP st) n s = some (l,s') → s'.ls = s.ls ∧ s'.n = s.n ∧ ∀ f ∈ l,HeadOk st f
 | 0,s,s',l,h=>by
  cases h
  exact ⟨rfl,rfl,by simp⟩
 | n + 1,s,s',l,h=>by
  rw [repP] at h
  simp only [Option.bind_eq_some_iff,Option.map_eq_some_iff] at h
  obtain ⟨⟨t,s1⟩,h1,⟨l',s2⟩,h2,h3⟩:=h
  cases h3
  obtain ⟨a1,a2,a3⟩:=headP_some h1
  obtain ⟨b1,b2,b3⟩:=heads_some h2
  refine ⟨b1.trans a1,b2.trans a2,fun x hx=>?_⟩
  rcases List.mem_cons.1 hx with rfl | hx
  ·exact a3
  ·exact b3 x hx
theorem groups_some {st : Bool} : ∀ {n : Nat} {s s' : Rs} {l : List (List Int)},repP (groupP st) n s = some (l,s') → s'.n = s.n + l.flatten.length ∧ (s.n ≤ 65536 → s'.n ≤ 65536) ∧ (st = true → ∀ t ∈ l.flatten,tyOk t)
 | 0,s,s',l,h=>by
  cases h
  exact ⟨rfl,fun h=>h,fun _=>by simp⟩
 | n + 1,s,s',l,h=>by
  rw [repP] at h
  simp only [Option.bind_eq_some_iff,Option.map_eq_some_iff] at h
  obtain ⟨⟨g,s1⟩,h1,⟨l',s2⟩,h2,h3⟩:=h
  cases h3
  unfold groupP at h1
  simp only [Option.bind_eq_some_iff] at h1
  obtain ⟨⟨m,s3⟩,h4,h5⟩:=h1
  obtain ⟨_,_,a2,_⟩:=numP_some h4
  split at h5
  ·rename_i hm
   rw [Option.map_eq_some_iff] at h5
   obtain ⟨⟨t,s4⟩,h6,h7⟩:=h5
   simp only [Prod.mk.injEq] at h7
   obtain ⟨rfl,rfl⟩:=h7
   obtain ⟨_,c2,c3⟩:=typeP_some h6
   obtain ⟨b1,b2,b3⟩:=groups_some h2
   simp only at c2 hm b1 b2 a2
   refine ⟨?_,fun h0=>b2 (by omega),fun hst x hx=>?_⟩
   ·rw [b1]
    simp
    omega
   ·rw [List.flatten_cons,List.mem_append] at hx
    rcases hx with hx | hx
    ·rw [(List.mem_replicate.1 hx).2]
     exact c3 hst
    ·exact b3 hst x hx
  ·cases h5
def Skel (f : F) : Prop := ∃ st k s e s',listP st k 0 [] s = some (((f.lists.length : Int) - 1,e),s') ∧ s.ls = [] ∧ s'.ls = f.lists
def FromHead (st : Bool) (h f : F) : Prop := f.params = h.params ∧ f.type = h.type ∧ Skel f ∧ (st = true → (∀ t ∈ f.locals,tyOk t) ∧ ∀ ws ∈ f.lists,∀ w ∈ ws,belowW w = false)
theorem functionP_some {st : Bool} {f f' : F} {s s' : Rs} (h : functionP st f s = some (f',s')) (hl : f.locals = []) : FromHead st f f' ∧ s'.n = s.n + f'.locals.length ∧ (s.n ≤ 65536 → s'.n ≤ 65536) ∧ f'.name = f.name := by
 unfold functionP at h
 simp only [Option.bind_eq_some_iff,Option.map_eq_some_iff] at h
 obtain ⟨⟨n1,s1⟩,h1,⟨n2,s2⟩,h2,⟨gs,s3⟩,h3,⟨⟨n,e⟩,s4⟩,h4,h5⟩:=h
 simp only [Prod.mk.injEq] at h5
 obtain ⟨hf',hs'⟩:=h5
 subst hf'
 subst hs'
 obtain ⟨_,_,a2,_⟩:=numP_some h1
 obtain ⟨_,_,b2,_⟩:=numP_some h2
 obtain ⟨c1,c2,c3⟩:=groups_some h3
 obtain ⟨_,d2,_,_,_,_,d7⟩:=listP_ls _ _ _ _ _ _ _ _ h4
 simp only at a2 b2 c1 c2 d7
 have hn : n = (s4.ls.length : Int) - 1:=by omega
 subst hn
 refine ⟨⟨rfl,rfl,⟨st,_,_,e,s4,h4,rfl,rfl⟩,fun hst=>⟨?_,?_⟩⟩,?_,fun h0=>by rw [d7]; exact c2 (by omega),rfl⟩
 ·simp only [hl,List.nil_append]
  exact c3 hst
 ·subst hst
  exact listP_below _ _ _ _ _ _ _ h4 (by simp) (by simp)
 ·simp only [hl,List.nil_append]
  omega
theorem functionsP_some {st : Bool} : ∀ {hs fs : List F} {s s' : Rs},functionsP st hs s = some (fs,s') → (∀ f ∈ hs,f.locals = []) → (∀ f ∈ fs,∃ h ∈ hs,FromHead st h f) ∧ s'.n = s.n + manyL fs ∧ (s.n ≤ 65536 → s'.n ≤ 65536) ∧ fs.length = hs.length
 | [],fs,s,s',h,_=>by
  cases h
  exact ⟨by simp,rfl,fun h=>h,rfl⟩
 | f :: hs,fs,s,s',h,hl=>by
  rw [functionsP] at h
  simp only [Option.bind_eq_some_iff,Option.map_eq_some_iff] at h
  obtain ⟨⟨f',s1⟩,h1,⟨fs',s2⟩,h2,h3⟩:=h
  cases h3
  obtain ⟨a1,a2,a3,_⟩:=functionP_some h1 (hl f (by simp))
  obtain ⟨b1,b2,b3,b4⟩:=functionsP_some h2 fun g hg=>hl g (by simp [hg])
  simp only at b2 b3 a2 a3
  refine ⟨fun g hg=>?_,?_,fun h0=>b3 (a3 h0),by simp [b4]⟩
  ·rcases List.mem_cons.1 hg with rfl | hg
   ·exact ⟨f,by simp,a1⟩
   ·obtain ⟨x,hx,q⟩:=b1 g hg
    exact ⟨x,by simp [hx],q⟩
  ·have : manyL (f' :: fs') = f'.locals.length + manyL fs':=rfl
   simp only
   omega
theorem namesP_some {st : Bool} : ∀ {fs fs' : List F} {s s' : Rs},namesP st fs s = some (fs',s') → fs'.map noname = fs.map noname
 | [],fs',s,s',h=>by
  cases h
  rfl
 | f :: fs,fs',s,s',h=>by
  rw [namesP] at h
  simp only [Option.bind_eq_some_iff,Option.map_eq_some_iff] at h
  obtain ⟨⟨n1,s1⟩,h1,⟨n2,s2⟩,h2,⟨p,s3⟩,h3,⟨fs2,s4⟩,h4,h5⟩:=h
  cases h5
  simp only [List.map_cons,namesP_some h4]
  rfl
theorem noname_many {fs fs' : List F} (h : fs'.map noname = fs.map noname) : manyL fs' = manyL fs := by
 have : ∀ l : List F,manyL l = ((l.map noname).map fun f=>f.locals.length).sum:=fun l=>by simp only [manyL,List.map_map]; rfl
 rw [this,this,h]
theorem noname_mem {fs fs' : List F} (h : fs'.map noname = fs.map noname) {f : F} (hf : f ∈ fs') : ∃ g ∈ fs,noname g = noname f := by
 have : noname f ∈ fs.map noname:=by rw [← h]; exact List.mem_map_of_mem hf
 obtain ⟨g,hg,e⟩:=List.mem_map.1 this
 exact ⟨g,hg,e⟩
theorem headsP_some {s s' : Rs} {l : List F} (h : headsP s = some (l,s')) : ∀ f ∈ l,HeadOk false f := by
 unfold headsP at h
 simp only [Option.bind_eq_some_iff] at h
 obtain ⟨s1,h1,⟨n,s2⟩,h2,⟨hs,s3⟩,h3,h4⟩:=h
 split at h4
 ·cases h4
  intro f hf
  exact (heads_some h3).2.2 f (List.mem_of_mem_drop hf)
 ·cases h4
theorem headsR_some {s s' : Rs} {l : List F} (h : headsR s = some (l,s')) : ∀ f ∈ l,HeadOk true f := by
 unfold headsR at h
 simp only [Option.bind_eq_some_iff,Option.map_eq_some_iff] at h
 obtain ⟨s1,h1,⟨n,s2⟩,h2,⟨hs,s3⟩,h3,h4⟩:=h
 cases h4
 intro f hf
 exact (heads_some h3).2.2 f (List.mem_of_mem_drop hf)
theorem secP_n {c : UInt8} {s s' : Rs} (h : sectionP c s = some s') : s'.n = s.n := by
 unfold sectionP at h
 simp only [Option.bind_eq_some_iff] at h
 obtain ⟨⟨x,s1⟩,h1,h2⟩:=h
 split at h2
 ·rw [Option.map_eq_some_iff] at h2
  obtain ⟨⟨y,s2⟩,h3,rfl⟩:=h2
  exact (numP_some h3).2.2.1.trans (byteP_some h1).2.2
 ·cases h2
theorem secR_n {s s' : Rs} {n : Int} (h : secR s = some (n,s')) : s'.n = s.n := by
 unfold secR at h
 simp only [Option.bind_eq_some_iff] at h
 obtain ⟨⟨x,s1⟩,h1,h2⟩:=h
 exact (numP_some h2).2.2.1.trans (byteP_some h1).2.2
theorem skipP_n {n : Int} {s s' : Rs} (h : skipP n s = some s') : s'.n = s.n := by
 unfold skipP at h
 rw [Option.map_eq_some_iff] at h
 obtain ⟨⟨p,s1⟩,h1,rfl⟩:=h
 exact (takeP_some h1).2.2
theorem heads_n {s s' : Rs} {l : List F} (h : headsP s = some (l,s')) : s'.n = s.n := by
 unfold headsP at h
 simp only [Option.bind_eq_some_iff] at h
 obtain ⟨s1,h1,⟨n,s2⟩,h2,⟨hs,s3⟩,h3,h4⟩:=h
 split at h4
 ·cases h4
  have:=(heads_some h3).2.1
  have:=(numP_some h2).2.2.1
  have:=secP_n h1
  simp only at *
  omega
 ·cases h4
theorem headsR_n {s s' : Rs} {l : List F} (h : headsR s = some (l,s')) : s'.n = s.n := by
 unfold headsR at h
 simp only [Option.bind_eq_some_iff,Option.map_eq_some_iff] at h
 obtain ⟨⟨a,s1⟩,h1,⟨n,s2⟩,h2,⟨hs,s3⟩,h3,h4⟩:=h
 cases h4
 have:=(heads_some h3).2.1
 have:=(numP_some h2).2.2.1
 have:=secR_n h1
 simp only at *
 omega
theorem nums_n {st : Bool} : ∀ {n : Nat} {s s' : Rs} {l : List Int},repP (numP st false) n s = some (l,s') → s'.n = s.n
 | 0,_,_,_,h=>by cases h; rfl
 | n + 1,s,s',l,h=>by
  rw [repP] at h
  simp only [Option.bind_eq_some_iff,Option.map_eq_some_iff] at h
  obtain ⟨⟨t,s1⟩,h1,⟨l',s2⟩,h2,h3⟩:=h
  cases h3
  exact (nums_n h2).trans (numP_some h1).2.2.1
theorem frontP_some {s s' : Rs} {hs : List F} {mem mn : Int} (h : frontP s = some ((hs,mem,mn),s')) : (∀ f ∈ hs,HeadOk false f) ∧ (-(2 ^ 63) ≤ mem ∧ mem < 2 ^ 63) ∧ (-(2 ^ 63) ≤ mn ∧ mn < 2 ^ 63) ∧ s'.n = s.n := by
 unfold frontP at h
 simp only [Option.bind_eq_some_iff,Option.map_eq_some_iff] at h
 obtain ⟨s1,h1,⟨hs',s2⟩,h2,s3,h3,s4,h4,s5,h5,s6,h6,s7,h7,s8,h8,⟨n9,s9⟩,h9,⟨l10,s10⟩,h10,s11,h11,s12,h12,s13,h13,s14,h14,⟨mem',s15⟩,h15,s16,h16,s17,h17,s18,h18,⟨mn',s19⟩,h19,h20⟩:=h
 cases h20
 obtain ⟨_,_,a3,a4,a5,_⟩:=numP_some h15
 obtain ⟨_,_,b3,b4,b5,_⟩:=numP_some h19
 refine ⟨headsP_some h2,⟨a4,a5⟩,⟨b4,b5⟩,?_⟩
 have:=(numP_some h9).2.2.1
 simp only at *
 rw [b3,skipP_n h18,secP_n h17,skipP_n h16,a3,skipP_n h14,secP_n h13,skipP_n h12,secP_n h11,nums_n h10,this,secP_n h8,skipP_n h7,skipP_n h6,skipP_n h5,skipP_n h4,secP_n h3,heads_n h2,skipP_n h1]
theorem frontR_some {s s' : Rs} {hs : List F} {mem mn : Int} (h : frontR s = some ((hs,mem,mn),s')) : (∀ f ∈ hs,HeadOk true f) ∧ (-(2 ^ 63) ≤ mem ∧ mem < 2 ^ 63) ∧ (0 ≤ mn ∧ mn < 2 ^ 63) ∧ s'.n = s.n := by
 unfold frontR at h
 simp only [Option.bind_eq_some_iff,Option.map_eq_some_iff] at h
 obtain ⟨s1,h1,⟨hs',s2⟩,h2,⟨n3,s3⟩,h3,s4,h4,⟨n5,s5⟩,h5,s6,h6,s7,h7,⟨n8,s8⟩,h8,s9,h9,⟨mem',s15⟩,h15,s16,h16,⟨n17,s17⟩,h17,s18,h18,⟨mn',s19⟩,h19,h20⟩:=h
 cases h20
 obtain ⟨_,_,a3,a4,a5,_⟩:=numP_some h15
 obtain ⟨_,_,b3,b4,b5,b6⟩:=numP_some h19
 refine ⟨headsR_some h2,⟨a4,a5⟩,⟨b6 rfl rfl,b5⟩,?_⟩
 simp only at *
 rw [b3,skipP_n h18,secR_n h17,skipP_n h16,a3,skipP_n h9,secR_n h8,skipP_n h7,skipP_n h6,secR_n h5,skipP_n h4,secR_n h3,headsR_n h2,skipP_n h1]
theorem backP_some {hs fs : List F} {s s' : Rs} (h : backP hs s = some (fs,s')) (hl : ∀ f ∈ hs,f.locals = []) : (∀ f ∈ fs,∃ h ∈ hs,FromHead false h f) ∧ (s.n = 0 → manyL fs ≤ 65536) := by
 unfold backP at h
 simp only [Option.bind_eq_some_iff] at h
 obtain ⟨s1,h1,⟨c,s2⟩,h2,h3⟩:=h
 split at h3
 ·simp only [Option.bind_eq_some_iff] at h3
  obtain ⟨⟨fs1,s3⟩,h4,s4,h5,s5,h6,⟨x,s6⟩,h7,⟨y,s7⟩,h8,h9⟩:=h3
  split at h9
  ·obtain ⟨a1,a2,a3,_⟩:=functionsP_some h4 hl
   have hn:=namesP_some h9
   refine ⟨fun f hf=>?_,fun h0=>?_⟩
   ·obtain ⟨g,hg,e⟩:=noname_mem hn hf
    obtain ⟨k,hk,q1,q2,⟨st,k0,s0,e0,s0',q3,q4,q5⟩,q6⟩:=a1 g hg
    have e1 : g.params = f.params:=by
     have:=congrArg F.params e
     exact this
    have e2 : g.type = f.type:=by
     have:=congrArg F.type e
     exact this
    have e3 : g.lists = f.lists:=by
     have:=congrArg F.lists e
     exact this
    exact ⟨k,hk,by rw [← e1]; exact q1,by rw [← e2]; exact q2,⟨st,k0,s0,e0,s0',by rw [← e3]; exact q3,q4,by rw [← e3]; exact q5⟩,fun h=>by cases h⟩
   ·rw [noname_many hn]
    have:=(numP_some h2).2.2.1
    have:=secP_n h1
    simp only at *
    have:=a3 (by omega)
    omega
  ·cases h9
 ·cases h3
theorem backR_some {hs fs : List F} {s s' : Rs} (h : backR hs s = some (fs,s')) (hl : ∀ f ∈ hs,f.locals = []) : (∀ f ∈ fs,∃ h ∈ hs,FromHead true h f) ∧ (s.n = 0 → manyL fs ≤ 65536) := by
 unfold backR at h
 simp only [Option.bind_eq_some_iff] at h
 obtain ⟨⟨c1,s1⟩,h1,⟨c,s2⟩,h2,⟨fs1,s3⟩,h4,⟨c4,s4⟩,h5,s5,h6,⟨x,s6⟩,h7,⟨y,s7⟩,h8,h9⟩:=h
 obtain ⟨a1,a2,a3,_⟩:=functionsP_some h4 hl
 have hn:=namesP_some h9
 refine ⟨fun f hf=>?_,fun h0=>?_⟩
 ·obtain ⟨g,hg,e⟩:=noname_mem hn hf
  obtain ⟨k,hk,q1,q2,⟨st,k0,s0,e0,s0',q3,q4,q5⟩,q6⟩:=a1 g hg
  have e1 : g.params = f.params:=by
     have:=congrArg F.params e
     exact this
  have e2 : g.type = f.type:=by
     have:=congrArg F.type e
     exact this
  have e3 : g.lists = f.lists:=by
     have:=congrArg F.lists e
     exact this
  have e4 : g.locals = f.locals:=by
     have:=congrArg F.locals e
     exact this
  exact ⟨k,hk,by rw [← e1]; exact q1,by rw [← e2]; exact q2,⟨st,k0,s0,e0,s0',by rw [← e3]; exact q3,q4,by rw [← e3]; exact q5⟩,fun h=>by rw [← e3,← e4]; exact q6 h⟩
 ·rw [noname_many hn]
  have:=(numP_some h2).2.2.1
  have:=secR_n h1
  simp only at *
  have:=a3 (by omega)
  omega
theorem wrap_back {n : Int} (h : -(2 ^ 63) ≤ n ∧ n < 2 ^ 63) : IntKind.wrap .i64 (IntKind.wrap .i64 (n - 3) + 3) = n := by
 have h1 : IntKind.wrap .i64 (IntKind.wrap .i64 (n - 3) + 3) = IntKind.wrap .i64 n:=by
  refine wrap_congr ?_
  have : IntKind.wrap .i64 (n - 3) % 2 ^ 64 = (n - 3) % 2 ^ 64:=by
   have e : IntKind.wrap .i64 (n - 3) = (if (n - 3) % 2 ^ 64 ≥ 2 ^ 63 then (n - 3) % 2 ^ 64 - 2 ^ 64 else (n - 3) % 2 ^ 64):=by
    simp [IntKind.wrap,IntKind.signed,IntKind.bits]
   rw [e]
   split <;> omega
  omega
 rw [h1,wrap_i64] <;> omega
theorem num_neg {n n' : Int} {r : List UInt8} {ls : To} {k : Nat} {s' : Rs} (hn : n < 0) (h : numP false false ⟨uI n ++ 10 :: r,ls,k⟩ = some (n',s')) : 0 ≤ n' := by
 have e : uI n = [byteI n]:=by
  unfold uI
  rw [uF,if_pos (by omega)]
 rw [e] at h
 unfold numP at h
 simp only [List.cons_append,List.nil_append,numG] at h
 have e0 : ∀ x : Nat,x < 128 → orS 0 x 0 = x:=fun x hx=>by
  rw [orS_eq (by omega)]
  omega
 have hm : (byteI n).toNat % 128 < 128:=Nat.mod_lt _ (by omega)
 rw [e0 _ hm] at h
 generalize (byteI n).toNat % 128 = v at *
 split at h
 ·simp only [Bool.false_eq_true,false_and,if_false,Option.bind_some,Option.some.injEq,Prod.mk.injEq] at h
  rw [← h.1]
  unfold i64U
  rw [wrap_nat (by omega)]
  omega
 ·have h10 : (10 : UInt8).toNat = 10:=rfl
  rw [h10] at h
  have e1 : orS v (10 % 128) (0 + 7) = v + 1280:=by
   rw [orS_eq (by omega)]
   omega
  rw [e1] at h
  simp only [Bool.false_eq_true,false_and,if_false,Option.bind_some,Option.some.injEq,Prod.mk.injEq,Nat.reduceLT,if_true] at h
  rw [← h.1]
  unfold i64U
  rw [wrap_nat (by omega)]
  omega
theorem mainL_of {m : M} {n : Int} (h : -(2 ^ 63) ≤ n ∧ n < 2 ^ 63) (e : m.main = IntKind.wrap .i64 (n - 3)) : mainL m = n := by
 unfold mainL
 rw [e,wrap_back h]
theorem good_of_P {b : List UInt8} {m : M} (h : decodeP b = some m) (hl : b.length < 2 ^ 60) : GoodBM m ∧ encM m = some b := by
 unfold decodeP at h
 simp only [Option.bind_eq_some_iff] at h
 obtain ⟨⟨m',s'⟩,h1,h2⟩:=h
 split at h2
 ·rename_i hc
  cases h2
  obtain ⟨c1,c2,c3,c4⟩:=hc
  refine ⟨?_,c4⟩
  unfold moduleP at h1
  simp only [Option.bind_eq_some_iff,Option.map_eq_some_iff] at h1
  obtain ⟨⟨⟨hs,mem,mn⟩,s1⟩,h3,⟨fs,s2⟩,h4,h5⟩:=h1
  simp only [Prod.mk.injEq] at h5
  obtain ⟨rfl,rfl⟩:=h5
  obtain ⟨a1,a2,a3,a4⟩:=frontP_some h3
  obtain ⟨b1,b2⟩:=backP_some h4 fun f hf=>(a1 f hf).1
  simp only at c2 c4
  have hty : ∀ f ∈ fs,typedF f = true:=by simpa using c2
  have hmain : mainL ⟨fs,mem,IntKind.wrap .i64 (mn - 3)⟩ = mn:=mainL_of a3 rfl
  have hbel : ∀ f ∈ fs,∀ ws ∈ f.lists,∀ w ∈ ws,belowW w = false:=by
   intro f hf ws hws w hw
   unfold rangedM at c3
   simp only [Bool.and_eq_true,Bool.not_eq_true',List.any_eq_false,decide_eq_true_eq] at c3
   have:=c3.2 f hf
   simp only [List.any_eq_true,not_exists,not_and,Bool.not_eq_true] at this
   exact this ws hws w hw
  refine ⟨fun f hf=>⟨hty f hf,hbel f hf,?_⟩,b2 a4,a2,?_,by rw [hmain]⟩
  ·obtain ⟨_,_,_,_,q,_⟩:=b1 f hf
   exact q
  ·rw [hmain]
   by_cases h0 : 0 ≤ mn
   ·exact h0
   ·obtain ⟨codes,hcodes,hb⟩:=encM_parts c4
    obtain ⟨hsh,_⟩:=short_of (m:=⟨fs,mem,IntKind.wrap .i64 (mn - 3)⟩) hty a2 hb hl
    rw [frontP_to hsh (s:=⟨b,[],0⟩) hb,Option.map_eq_some_iff] at h3
    obtain ⟨⟨x,sx⟩,h6,h7⟩:=h3
    simp only [Prod.mk.injEq] at h7
    rw [hmain] at h6
    have : endL codes fs = 10 :: (sizedL (rowL codes) ++ sectionL 0 ([4,110,97,109,101,1] ++ sizedL (rowL (namesF 3 fs)))):=rfl
    simp only [this] at h6
    have:=num_neg (by omega) h6
    omega
 ·cases h2
theorem good_of_R {b : List UInt8} {m : M} {s' : Rs} (h1 : moduleR ⟨b,[],0⟩ = some (m,s')) : GoodBM m := by
 unfold moduleR at h1
 simp only [Option.bind_eq_some_iff,Option.map_eq_some_iff] at h1
 obtain ⟨⟨⟨hs,mem,mn⟩,s1⟩,h3,⟨fs,s2⟩,h4,h5⟩:=h1
 simp only [Prod.mk.injEq] at h5
 obtain ⟨rfl,rfl⟩:=h5
 obtain ⟨a1,a2,a3,a4⟩:=frontR_some h3
 obtain ⟨b1,b2⟩:=backR_some h4 fun f hf=>(a1 f hf).1
 have hmain : mainL ⟨fs,mem,IntKind.wrap .i64 (mn - 3)⟩ = mn:=mainL_of (by omega) rfl
 refine ⟨fun f hf=>?_,b2 a4,a2,by rw [hmain]; exact a3.1,by rw [hmain]⟩
 obtain ⟨h,hh,q1,q2,q3,q4⟩:=b1 f hf
 obtain ⟨_,p2⟩:=a1 h hh
 obtain ⟨p3,p4⟩:=p2 rfl
 obtain ⟨q5,q6⟩:=q4 rfl
 refine ⟨?_,q6,q3⟩
 unfold typedF
 simp only [Bool.not_eq_true',Bool.or_eq_false_iff,List.any_eq_false,Bool.and_eq_false_iff,decide_eq_false_iff_not,ne_eq,Classical.not_not,oddT,Bool.and_eq_true,decide_eq_true_eq]
 refine ⟨fun t ht=>?_,fun t ht=>?_,?_⟩
 ·rw [q1] at ht
  have:=p3 t ht
  unfold tyOk at this
  omega
 ·have:=q5 t ht
  unfold tyOk at this
  omega
 ·rw [q2]
  unfold tyOk at p4
  omega
theorem good_ranged {m : M} (hg : GoodBM m) : rangedM m = true := by
 unfold rangedM
 simp only [Bool.and_eq_true,decide_eq_true_eq,Bool.not_eq_true',List.any_eq_false,List.any_eq_true,not_exists,not_and,Bool.not_eq_true]
 refine ⟨?_,fun f hf ws hws w hw=>(hg.fs f hf).below ws hws w hw⟩
 have h0:=hg.main0
 have hr:=(wrap_range (m.main + 3)).2
 have : mainL m < 2 ^ 63:=hr
 rw [hg.main,wrap_i64] <;> omega
theorem decode_eq {b : List UInt8} (hl : b.length < 2 ^ 60) : decodeP b = decodeR b := by
 have h1 : ∀ m,decodeP b = some m → decodeR b = some m:=fun m h=>by
  obtain ⟨hg,he⟩:=good_of_P h hl
  obtain ⟨s',h3,h4⟩:=moduleR_good hg he hl
  unfold decodeR
  rw [h3]
  simp only [Option.bind_some,h4,he,and_self,if_true]
 have h2 : ∀ m,decodeR b = some m → decodeP b = some m:=fun m h=>by
  unfold decodeR at h
  simp only [Option.bind_eq_some_iff] at h
  obtain ⟨⟨m',s'⟩,h3,h4⟩:=h
  split at h4
  ·rename_i hc
   cases h4
   have hg:=good_of_R h3
   obtain ⟨s2,h5,h6⟩:=moduleP_good hg hc.2 hl
   unfold decodeP
   rw [h5]
   have ht : m'.funcs.all typedF = true:=by simpa using fun f hf=>(hg.fs f hf).typed
   simp only [Option.bind_some,h6,hc.2,ht,good_ranged hg,and_self,if_true]
  ·cases h4
 cases hp : decodeP b with
 | some m=>exact (h1 m hp).symm
 | none =>
  cases hr : decodeR b with
  | none=>rfl
  | some m=>rw [h2 m hr] at hp; cases hp
end Go.Proofs.YthejpoplbllcbaaGreatDoor
set_option linter.unusedSimpArgs false
set_option linter.unusedVariables false
namespace Go.Proofs.YthejpoplbllcbaaGreatDoor
open Go Go.Abs
theorem RepO.len {σ : AS} {v : AV} {l : List W} (h : Al.RepO σ v l) (K : AV → Prop) : alen Tryz.prog 61 v K = K (.int .i64 (l.length : Int)) := by
 rcases h with ⟨rfl,rfl⟩ | ⟨b,rfl,_⟩ <;> simp
theorem RepO.at {σ : AS} {v : AV} {l : List W} (h : Al.RepO σ v l) {i : Nat} (hi : i < l.length) : ∃ φ,Al.Rd σ φ ∧ ∀ K : AV → Prop,aindexAddr Tryz.prog 61 v (.int .i64 (i : Int)) K = K (.pv φ l[i].av) := by
 rcases h with ⟨rfl,_⟩ | ⟨φ,rfl,r⟩
 ·simp at hi
 ·exact ⟨φ,r,fun K=>by simp [hi]⟩
@[simp] theorem blit5 : blitSl 22 [(0,Operand.const (.int .u8 5))] = false := by decide
@[simp] theorem blit11 : blitSl 22 [(0,Operand.const (.int .u8 11))] = false := by decide
@[simp] theorem blit00 : blitSl 22 [(0,Operand.const (.int .u8 0)),(1,Operand.const (.int .u8 0))] = false := by decide
def RgW (w : W) : Prop := -(2 ^ 63) ≤ w.n ∧ w.n < 2 ^ 63
def RgL (ls : To) : Prop := ∀ ws ∈ ls,∀ w ∈ ws,RgW w
def FCs (f : F) (pv lv tv : AV) : List AV := [.str f.name,pv,lv,.int .i64 f.type,tv]
def EncOk (G : Env) (ls : To) (k : Nat) : Prop := ∀ (σ : AS) (R : Out → AS → Prop) (f : F) (pv lv tv : AV) (at_ : Int) (bs : List UInt8),f.lists = ls → Al.IntsO σ pv f.params → Al.IntsO σ lv f.locals → Al.LstO σ tv f.lists → encL ls k at_ = some bs → bs.length ≤ 2 ^ 38 →
 (∀ v σ',NewB σ σ' v bs → R (.ret v) σ') → ACalls Tryz.prog G 44 [.agg (FCs f pv lv tv),.int .i64 at_] σ R
def LiI (ls : To) (k : Nat) (σ : AS) (o : Nat) (fc : List AV) (rv : AV) (ws : List W) (bs : List UInt8) (a : Nat → AV) (τ : AS) : Prop := ∃ (i : Nat) (done r : List UInt8),i ≤ ws.length ∧ encWs (encL ls k) (ws.drop i) = some r ∧ done ++ r = bs ∧ a 2 = .ptr o 0 ∧ a 11 = rv ∧ a 12 = .int .i64 (ws.length : Int) ∧ a 13 = .int .i64 (i : Int) ∧ NewB σ τ (a 4) done ∧ o < τ.no ∧ σ.no ≤ o ∧ τ.objs o = some fc
theorem nest_of {w : W} (h : nestW w = true) : w.op = 11 ∨ w.op = 12 ∨ w.op = 13 := by
 simpa [nestW,or_assoc] using h
section
variable {G : Env} {σ : AS} {R : Out → AS → Prop}
theorem grow_bytesO {τ : AS} {v : AV} {ys : List AV} {x y : List UInt8} {K : AV → AS → Prop} (h1 : NewB σ τ v x) (e : ys = B y) (hl : x.length + y.length ≤ 2 ^ 42) (h : ∀ v' σ',NewB σ σ' v' (x ++ y) → σ'.objs = τ.objs → σ'.no = τ.no → K v' σ') : grown 1 1 v ys τ K := by
 subst e
 obtain ⟨ho,hA⟩:=h1
 have hgn:=hA.nf
 rcases ho with ⟨h0,rfl⟩ | ⟨g,rfl,g1,g2,g3⟩
 ·have hx : x = []:=by simpa [B] using h0
  subst hx
  cases y with
  | nil=>simp [B]; exact h _ _ ⟨.inl ⟨rfl,rfl⟩,hA⟩ rfl rfl
  | cons c y =>
   have e1 : B (c :: y) = AV.int .u8 (c.toNat : Int) :: B y:=rfl
   rw [e1]
   simp
   refine ⟨by simp at hl; omega,?_⟩
   exact h _ _ ⟨.inr ⟨τ.nf,by simp [B],hgn,by simp,by simp⟩,hA.newF⟩ (by simp) (by simp)
 ·simp [g3]
  exact ⟨by omega,h _ _ ⟨.inr ⟨τ.nf,by simp,hgn,by simp,by simp⟩,(hA.setF g1).newF (σ':=τ.setF g .dead)⟩ (by simp) (by simp)⟩
theorem grow_srcO {τ : AS} {v v2 : AV} {x y : List UInt8} {K : AV → AS → Prop} (h1 : NewB σ τ v x) (h2 : BytO τ v2 y) (hl : x.length + y.length ≤ 2 ^ 42) (h : ∀ v' σ',NewB σ σ' v' (x ++ y) → σ'.objs = τ.objs → σ'.no = τ.no → K v' σ') :
  asource Tryz.prog 22 (.int .u8 0) 1 v2 τ.F fun ys=>(∀ y,y ∈ ys → y.cells.length = 1 ∧ ∀ c,c ∈ y.cells → c.one = true) ∧ grown 1 1 v ys τ K:=by
 rcases h2 with ⟨rfl,rfl⟩ | ⟨φ,rfl,hr⟩
 ·simp
  exact grow_bytesO h1 rfl hl h
 ·have hr':=hr.read
  simp [hr']
  exact ⟨B_one y,grow_bytesO h1 rfl hl h⟩
theorem list_body (V : VarsB G) {ls : To} {k : Nat} (IH : EncOk G ls k) {f : F} {pv lv tv rv : AV} {ws : List W} {bs : List UInt8} {o : Nat} (hls : f.lists = ls) (hp : Al.IntsO σ pv f.params) (hl : Al.IntsO σ lv f.locals) (ht : Al.LstO σ tv f.lists) (hrv : Al.RepO σ rv ws) (hws : ws.length ≤ 2 ^ 40) (hbs : bs.length ≤ 2 ^ 38) (hrg : ∀ w ∈ ws,RgW w)
  (h : ∀ v σ',NewB σ σ' v bs → R (.ret v) σ') {a : Nat → AV} {τ : AS} (hI : LiI ls k σ o (FCs f pv lv tv) rv ws bs a τ) :
  avc Tryz.prog G 89 pc44_l1 (athen (fun a' σ'=>LiI ls k σ o (FCs f pv lv tv) rv ws bs a' σ' ∧ MU 13 (ws.length + 1) a' σ' < MU 13 (ws.length + 1) a τ) (ablock 0 (athen (avc Tryz.prog G 89 pc44_r1 (afin Tryz.prog [.tmp 4] R)) (afin Tryz.prog [.tmp 4] R)))) a τ:=by
 obtain ⟨i,done,r,hi,hr,hbsd,a2,a11,a12,a13,hN,ho1,ho2,ho⟩:=hI
 have n1:=hN.byt.one
 have hpl:=congrArg List.length hbsd
 simp only [List.length_append] at hpl
 by_cases hlt : i < ws.length
 ·have hlt' : (i : Int) < (ws.length : Int):=by omega
  obtain ⟨φ,hrd,hix⟩:=RepO.at (hrv.keep hN.2) hlt
  have hrd:=hrd.read
  rw [List.drop_eq_getElem_cons hlt] at hr
  have hrw:=hrg _ (List.getElem_mem hlt)
  generalize ws[i] = w at *
  obtain ⟨x,y,hx,hy,rfl⟩:=encWs_cons hr
  have w1 : IntKind.wrap .i64 ((i : Int) + 1) = ((i + 1 : Nat) : Int):=by rw [wrap_i64] <;> omega
  have next : ∀ (a' : Nat → AV) (σ' : AS),a' 2 = .ptr o 0 → a' 11 = rv → a' 12 = .int .i64 (ws.length : Int) → a' 13 = .int .i64 ((i : Int) + 1) → NewB σ σ' (a' 4) (done ++ x) → τ.no ≤ σ'.no → σ'.objs o = some (FCs f pv lv tv) →
    LiI ls k σ o (FCs f pv lv tv) rv ws bs a' σ' ∧ MU 13 (ws.length + 1) a' σ' < MU 13 (ws.length + 1) a τ:=fun a' σ' e2 e11 e12 e13 e4 e5 e6=>by
   refine ⟨⟨i + 1,done ++ x,y,hlt,hy,by rw [← hbsd]; simp,e2,e11,e12,by rw [e13]; rfl,e4,by omega,ho2,e6⟩,?_⟩
   simp only [MU,a13,e13]; omega
  have kobj : ∀ {c1 : List AV} {σ' : AS},Adds ((τ.newO c1).setO τ.no w.cs) σ' → σ'.objs o = some (FCs f pv lv tv) ∧ σ'.objs τ.no = some w.cs ∧ τ.no < σ'.no:=fun {c1 σ'} A=>by
   have:=A.no
   simp at this
   refine ⟨?_,?_,by omega⟩
   ·rw [A.obj o (by simp; omega)]
    have : ¬ o = τ.no:=by omega
    simp [this,ho]
   ·rw [A.obj τ.no (by simp)]
    simp
  have hA0 : ∀ c1,Adds τ ((τ.newO c1).setO τ.no w.cs):=fun c1=>.mk1
  have hlen : done.length + (x.length + y.length) = bs.length:=by rw [← hpl]; simp
  have sub : ∀ {τ' : AS} {z : List UInt8} {at_ : Int} {R' : Out → AS → Prop},Adds σ τ' → encL ls k at_ = some z → z.length ≤ 2 ^ 38 → (∀ v σ',NewB τ' σ' v z → R' (.ret v) σ') → ACalls Tryz.prog G 44 [.agg (FCs f pv lv tv),.int .i64 at_] τ' R' :=
   fun A he hz hR=>IH _ _ f pv lv tv _ _ hls (hp.keep A) (hl.keep A) (ht.keep A) he hz hR
  have hwcs : w.cs = [.int .i64 w.op,.int .i64 w.ty,.int .i64 w.n,.int .i64 w.body,.int .i64 w.other,.str w.name]:=rfl
  by_cases hn : nestW w = true
  ·unfold encW at hx
   rw [if_pos hn] at hx
   cases hb : encL ls k w.body with
   | none=>rw [hb] at hx; cases hx
   | some b =>
    rw [hb] at hx
    simp only [Option.bind_some] at hx
    have hop:=nest_of hn
    have q2 : IntKind.u8.wrap (IntKind.i64.wrap (IntKind.i64.wrap 13 - 11)) = 2:=by decide
    have q3 : IntKind.u8.wrap (IntKind.i64.wrap (IntKind.i64.wrap 14 - 11)) = 3:=by decide
    have q4 : IntKind.u8.wrap (IntKind.i64.wrap (IntKind.i64.wrap 15 - 11)) = 4:=by decide
    have c2 : byteI (11 - 9) = 2:=by decide
    have c3 : byteI (12 - 9) = 3:=by decide
    have c4 : byteI (13 - 9) = 4:=by decide
    rcases hop with e | e | e
    ·have h13 : ¬ (w.op = 13 ∧ 0 ≤ w.other):=by omega
     rw [if_neg h13,e] at hx
     simp only [Option.some.injEq,c2,c3,c4] at hx
     subst hx
     simp only [List.length_cons,List.length_append,List.length_nil] at hlen
     have A1':=hA0 [AV.int IntKind.i64 0,AV.int IntKind.i64 0,AV.int IntKind.i64 0,AV.int IntKind.i64 0,AV.int IntKind.i64 0,AV.str []]
     have hk:=kobj (Adds.refl ((τ.newO [AV.int IntKind.i64 0,AV.int IntKind.i64 0,AV.int IntKind.i64 0,AV.int IntKind.i64 0,AV.int IntKind.i64 0,AV.str []]).setO τ.no w.cs))
     simp only [hwcs,e] at hk A1'
     obtain ⟨k1,k2,k3⟩:=hk
     simp [pc44_l1,a2,a11,a12,a13,hlt',hix,hrd,W.av,W.cs,e,n1,splice,q2]
     refine grow_bytesO (y:=[2,64]) (hN.keep A1') rfl (by simp; omega) fun v1 σ1 h1 u1 r1=>?_
     have k1':=(congrFun u1 o).trans k1
     have k2':=(congrFun u1 τ.no).trans k2
     have n2:=h1.byt.one
     have hno1:=A1'.no
     simp only [FCs] at k1'
     simp [a2,k1',k2',n2]
     refine sub h1.2 hb (by omega) fun v2 σ2 h2=>?_
     have n3:=h2.byt.one
     have k1'':=(h2.2.obj o (by omega)).trans k1'
     have k2'':=(h2.2.obj τ.no (by omega)).trans k2'
     have hno2:=h2.2.no
     simp
     refine grow_srcO (h1.keep h2.2) h2.byt (by simp; omega) fun v3 σ3 h3 u3 r3=>?_
     have k1a:=(congrFun u3 o).trans k1''
     have k2a:=(congrFun u3 τ.no).trans k2''
     have n4:=h3.byt.one
     simp [k2a,n4]
     refine grow_bytesO (y:=[11]) h3 rfl (by simp; omega) fun v4 σ4 h4 u4 r4=>?_
     have k1b:=(congrFun u4 o).trans k1a
     simp [w1,a13]
     exact next _ _ (by simp [a2]) (by simp [a11]) (by simp [a12]) (by simp) (by simpa using h4) (by omega) k1b
    ·have h13 : ¬ (w.op = 13 ∧ 0 ≤ w.other):=by omega
     rw [if_neg h13,e] at hx
     simp only [Option.some.injEq,c2,c3,c4] at hx
     subst hx
     simp only [List.length_cons,List.length_append,List.length_nil] at hlen
     have A1':=hA0 [AV.int IntKind.i64 0,AV.int IntKind.i64 0,AV.int IntKind.i64 0,AV.int IntKind.i64 0,AV.int IntKind.i64 0,AV.str []]
     have hk:=kobj (Adds.refl ((τ.newO [AV.int IntKind.i64 0,AV.int IntKind.i64 0,AV.int IntKind.i64 0,AV.int IntKind.i64 0,AV.int IntKind.i64 0,AV.str []]).setO τ.no w.cs))
     simp only [hwcs,e] at hk A1'
     obtain ⟨k1,k2,k3⟩:=hk
     simp [pc44_l1,a2,a11,a12,a13,hlt',hix,hrd,W.av,W.cs,e,n1,splice,q3]
     refine grow_bytesO (y:=[3,64]) (hN.keep A1') rfl (by simp; omega) fun v1 σ1 h1 u1 r1=>?_
     have k1':=(congrFun u1 o).trans k1
     have k2':=(congrFun u1 τ.no).trans k2
     have n2:=h1.byt.one
     have hno1:=A1'.no
     simp only [FCs] at k1'
     simp [a2,k1',k2',n2]
     refine sub h1.2 hb (by omega) fun v2 σ2 h2=>?_
     have n3:=h2.byt.one
     have k1'':=(h2.2.obj o (by omega)).trans k1'
     have k2'':=(h2.2.obj τ.no (by omega)).trans k2'
     have hno2:=h2.2.no
     simp
     refine grow_srcO (h1.keep h2.2) h2.byt (by simp; omega) fun v3 σ3 h3 u3 r3=>?_
     have k1a:=(congrFun u3 o).trans k1''
     have k2a:=(congrFun u3 τ.no).trans k2''
     have n4:=h3.byt.one
     simp [k2a,n4]
     refine grow_bytesO (y:=[11]) h3 rfl (by simp; omega) fun v4 σ4 h4 u4 r4=>?_
     have k1b:=(congrFun u4 o).trans k1a
     simp [w1,a13]
     exact next _ _ (by simp [a2]) (by simp [a11]) (by simp [a12]) (by simp) (by simpa using h4) (by omega) k1b
    ·by_cases h0 : 0 ≤ w.other
     ·have h13 : w.op = 13 ∧ 0 ≤ w.other:=⟨e,h0⟩
      rw [if_pos h13,e] at hx
      simp only [Option.map_eq_some_iff,c4] at hx
      obtain ⟨ot,hot,rfl⟩:=hx
      simp only [List.length_cons,List.length_append,List.length_nil] at hlen
      have A1':=hA0 [AV.int IntKind.i64 0,AV.int IntKind.i64 0,AV.int IntKind.i64 0,AV.int IntKind.i64 0,AV.int IntKind.i64 0,AV.str []]
      have hk:=kobj (Adds.refl ((τ.newO [AV.int IntKind.i64 0,AV.int IntKind.i64 0,AV.int IntKind.i64 0,AV.int IntKind.i64 0,AV.int IntKind.i64 0,AV.str []]).setO τ.no w.cs))
      simp only [hwcs,e] at hk A1'
      obtain ⟨k1,k2,k3⟩:=hk
      simp [pc44_l1,a2,a11,a12,a13,hlt',hix,hrd,W.av,W.cs,e,n1,splice,q4]
      refine grow_bytesO (y:=[4,64]) (hN.keep A1') rfl (by simp; omega) fun v1 σ1 h1 u1 r1=>?_
      have k1':=(congrFun u1 o).trans k1
      have k2':=(congrFun u1 τ.no).trans k2
      have n2:=h1.byt.one
      have hno1:=A1'.no
      simp only [FCs] at k1'
      simp [a2,k1',k2',n2]
      refine sub h1.2 hb (by omega) fun v2 σ2 h2=>?_
      have n3:=h2.byt.one
      have k1'':=(h2.2.obj o (by omega)).trans k1'
      have k2'':=(h2.2.obj τ.no (by omega)).trans k2'
      have hno2:=h2.2.no
      simp
      refine grow_srcO (h1.keep h2.2) h2.byt (by simp; omega) fun v3 σ3 h3 u3 r3=>?_
      have k1a:=(congrFun u3 o).trans k1''
      have k2a:=(congrFun u3 τ.no).trans k2''
      have n4:=h3.byt.one
      simp [a2,k1a,k2a,n4,h0]
      refine grow_bytesO (y:=[5]) h3 rfl (by simp; omega) fun v4 σ4 h4 u4 r4=>?_
      have k1b:=(congrFun u4 o).trans k1a
      have k2b:=(congrFun u4 τ.no).trans k2a
      have n5:=h4.byt.one
      simp [a2,k1b,k2b,n5]
      refine sub h4.2 hot (by omega) fun v5 σ5 h5=>?_
      have n6:=h5.byt.one
      have k1c:=(h5.2.obj o (by omega)).trans k1b
      have hno3:=h5.2.no
      simp
      refine grow_srcO (h4.keep h5.2) h5.byt (by simp; omega) fun v6 σ6 h6 u6 r6=>?_
      have k1d:=(congrFun u6 o).trans k1c
      have n7:=h6.byt.one
      simp [n7]
      refine grow_bytesO (y:=[11]) h6 rfl (by simp; omega) fun v7 σ7 h7 u7 r7=>?_
      have k1e:=(congrFun u7 o).trans k1d
      simp [w1,a13]
      exact next _ _ (by simp [a2]) (by simp [a11]) (by simp [a12]) (by simp) (by simpa using h7) (by omega) k1e
     ·have h13 : ¬ (w.op = 13 ∧ 0 ≤ w.other):=by omega
      rw [if_neg h13,e] at hx
      simp only [Option.some.injEq,c2,c3,c4] at hx
      subst hx
      simp only [List.length_cons,List.length_append,List.length_nil] at hlen
      have A1':=hA0 [AV.int IntKind.i64 0,AV.int IntKind.i64 0,AV.int IntKind.i64 0,AV.int IntKind.i64 0,AV.int IntKind.i64 0,AV.str []]
      have hk:=kobj (Adds.refl ((τ.newO [AV.int IntKind.i64 0,AV.int IntKind.i64 0,AV.int IntKind.i64 0,AV.int IntKind.i64 0,AV.int IntKind.i64 0,AV.str []]).setO τ.no w.cs))
      simp only [hwcs,e] at hk A1'
      obtain ⟨k1,k2,k3⟩:=hk
      simp [pc44_l1,a2,a11,a12,a13,hlt',hix,hrd,W.av,W.cs,e,n1,splice,q4]
      refine grow_bytesO (y:=[4,64]) (hN.keep A1') rfl (by simp; omega) fun v1 σ1 h1 u1 r1=>?_
      have k1':=(congrFun u1 o).trans k1
      have k2':=(congrFun u1 τ.no).trans k2
      have n2:=h1.byt.one
      have hno1:=A1'.no
      simp only [FCs] at k1'
      simp [a2,k1',k2',n2]
      refine sub h1.2 hb (by omega) fun v2 σ2 h2=>?_
      have n3:=h2.byt.one
      have k1'':=(h2.2.obj o (by omega)).trans k1'
      have k2'':=(h2.2.obj τ.no (by omega)).trans k2'
      have hno2:=h2.2.no
      simp
      refine grow_srcO (h1.keep h2.2) h2.byt (by simp; omega) fun v3 σ3 h3 u3 r3=>?_
      have k1a:=(congrFun u3 o).trans k1''
      have k2a:=(congrFun u3 τ.no).trans k2''
      have n4:=h3.byt.one
      simp [k2a,n4,h0]
      refine grow_bytesO (y:=[11]) h3 rfl (by simp; omega) fun v4 σ4 h4 u4 r4=>?_
      have k1b:=(congrFun u4 o).trans k1a
      simp [w1,a13]
      exact next _ _ (by simp [a2]) (by simp [a11]) (by simp [a12]) (by simp) (by simpa using h4) (by omega) k1b
  ·unfold encW at hx
   rw [if_neg hn] at hx
   simp only [Option.map_eq_some_iff] at hx
   obtain ⟨c,hc,rfl⟩:=hx
   have hno : ¬ w.op = 11 ∧ ¬ w.op = 12 ∧ ¬ w.op = 13:=by simpa [nestW,not_or,and_assoc] using hn
   obtain ⟨o11,o12,o13⟩:=hno
   simp only [List.length_cons] at hlen
   have htl:=tailW_len w
   simp [pc44_l1,a2,a11,a12,a13,hlt',hix,hrd,W.av,W.cs,o11,o12,o13,n1,splice]
   refine code_calls V (w:=w) (codeS_code hc) fun σ1 A1=>?_
   obtain ⟨k1,k2,k3⟩:=kobj A1
   have A1':=(hA0 _).trans A1
   simp only [hwcs] at k2
   simp [n1]
   refine grow_bytesO (y:=[c]) (hN.keep A1') rfl (by simp; omega) fun v2 σ2 h2 u2 r2=>?_
   have k2':=(congrFun u2 τ.no).trans k2
   have k1':=(congrFun u2 o).trans k1
   have n2:=h2.byt.one
   have hno1:=A1'.no
   simp [k2']
   by_cases p1 : w.op = 1
   ·have et : tailW w = sI w.n:=by simp [tailW,p1]
    rw [et] at next htl
    simp [p1,n2,k2']
    refine s_calls hrw fun v3 σ3 h3=>?_
    have k1'':=(h3.2.obj o (by omega)).trans k1'
    have hno2:=h3.2.no
    simp
    refine grow_srcO (h2.keep h3.2) h3.byt (by simp; omega) fun v4 σ4 h4 u4 r4=>?_
    have k1a:=(congrFun u4 o).trans k1''
    simp [w1,a13]
    exact next _ _ (by simp [a2]) (by simp [a11]) (by simp [a12]) (by simp) (by simpa using h4) (by omega) k1a
   ·by_cases p2 : w.op = 2 ∨ w.op = 3 ∨ w.op = 10 ∨ w.op = 14 ∨ w.op = 15
    ·have et : tailW w = uI w.n:=by simp only [tailW,p1,if_false,p2,if_true]
     rw [et] at next htl
     rcases p2 with p2 | p2 | p2 | p2 | p2 <;>
     ·simp [p2,n2,k2']
      refine u_calls hrw.2 fun v3 σ3 h3=>?_
      have k1'':=(h3.2.obj o (by omega)).trans k1'
      have hno2:=h3.2.no
      simp
      refine grow_srcO (h2.keep h3.2) h3.byt (by simp; omega) fun v4 σ4 h4 u4 r4=>?_
      have k1a:=(congrFun u4 o).trans k1''
      simp [w1,a13]
      exact next _ _ (by simp [a2]) (by simp [a11]) (by simp [a12]) (by simp) (by simpa using h4) (by omega) k1a
    ·simp only [not_or] at p2
     obtain ⟨p2,p3,p10,p14,p15⟩:=p2
     by_cases p8 : w.op = 8 ∨ w.op = 9
     ·have et : tailW w = [0,0]:=by simp only [tailW,p1,p2,p3,p10,p14,p15,if_false,or_self,p8,if_true]
      rw [et] at next htl
      rcases p8 with p8 | p8 <;>
      ·simp [p8,n2,k2']
       refine grow_bytesO (y:=[0,0]) h2 rfl (by simp; omega) fun v4 σ4 h4 u4 r4=>?_
       have k1a:=(congrFun u4 o).trans k1'
       simp [w1,a13]
       exact next _ _ (by simp [a2]) (by simp [a11]) (by simp [a12]) (by simp) (by simpa using h4) (by omega) k1a
     ·simp only [not_or] at p8
      obtain ⟨p8,p9⟩:=p8
      have et : tailW w = []:=by simp only [tailW,p1,p2,p3,p10,p14,p15,p8,p9,if_false,or_self]
      rw [et] at next htl
      simp [p1,p2,p3,p10,p14,p15,p8,p9,n2,w1,a13]
      exact next _ _ (by simp [a2]) (by simp [a11]) (by simp [a12]) (by simp) (by simpa using h2) (by omega) k1'
 ·have hie : i = ws.length:=by omega
  subst hie
  simp only [List.drop_length,encWs,Option.some.injEq] at hr
  subst hr
  have : done = bs:=by rw [← hbsd]; simp
  subst this
  simp [pc44_l1,pc44_r1,a12,a13,n1]
  exact h _ _ hN
theorem list_ok {G : Env} (V : VarsB G) {ls : To} (hw : ∀ ws ∈ ls,ws.length ≤ 2 ^ 40) (hrg : RgL ls) : ∀ k,EncOk G ls k
 | 0=>fun _ _ _ _ _ _ _ _ _ _ _ _ h=>by simp [encL] at h
 | k + 1=>fun σ R f pv lv tv at_ bs hls hp hl ht h hb hR=>by
  have IH:=list_ok V hw hrg k
  rw [encL] at h
  split at h
  ·cases h
  rename_i h0
  have h0 : ¬ at_ < 0:=h0
  obtain ⟨n,rfl⟩ : ∃ n : Nat,at_ = n:=⟨at_.toNat,by omega⟩
  simp only [Int.toNat_natCast] at h
  cases hg : ls[n]? with
  | none=>rw [hg] at h; cases h
  | some ws =>
   rw [hg] at h
   simp only at h
   obtain ⟨hn,hge⟩:=List.getElem?_eq_some_iff.1 hg
   subst hls
   obtain ⟨φ,rv,hrd,hrv,hix⟩:=ht.at hn
   rw [hge] at hrv
   have hrd:=hrd.read
   have p1:=hp.one
   have l1:=hl.one
   have t1:=ht.one
   have r1:=hrv.one
   have rl:=RepO.len hrv
   refine calls44 rfl ?_
   simp [pc44,FCs,p1,l1,t1,hix,hrd,r1,rl]
   refine aloop (LiI f.lists k σ σ.no (FCs f pv lv tv) rv ws bs) (MU 13 (ws.length + 1)) ⟨0,[],bs,by omega,by simpa using h,rfl,by simp,by simp,by simp,by simp,⟨.inl ⟨rfl,by simp⟩,(Adds.refl σ).newO⟩,by simp,by omega,by simp [FCs]⟩ fun a τ hI=>?_
   exact list_body V IH rfl hp hl ht hrv (hw ws (List.mem_of_getElem? hg)) hb (hrg ws (List.mem_of_getElem? hg)) hR hI
end
end Go.Proofs.YthejpoplbllcbaaGreatDoor
