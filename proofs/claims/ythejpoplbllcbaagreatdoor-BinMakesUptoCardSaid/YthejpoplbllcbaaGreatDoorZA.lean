/- Parts of the proof of the row BinMakes: contracts of functions, each under the conditions that its theorem names. -/
import Derived.Test.YthejpoplbllcbaaGreatDoorAbsB
import Derived.Lib.IndexMore
import Derived.Test.YthejpoplbllcbaaGreatDoorGenP
set_option linter.unusedSimpArgs false
set_option linter.unusedVariables false
set_option linter.unusedSimpArgs false
set_option linter.unusedVariables false
namespace Go.Proofs.YthejpoplbllcbaaGreatDoor
open Go Go.Abs
structure W where
 op : Int
 ty : Int
 n : Int
 body : Int
 other : Int
 name : List UInt8
deriving DecidableEq
abbrev To := List (List W)
structure F where
 name : List UInt8
 params : List Int
 locals : List Int
 type : Int
 lists : To
structure M where
 funcs : List F
 memory : Int
 main : Int
structure St where
 stack : List Int
 any : Bool
abbrev Res := Except Int
def dropE (s : St) : Res St :=
 if s.stack.length = 0 then (if s.any then .ok s else .error 14) else .ok { s with stack:=s.stack.dropLast }
def takeE : List Int → St → Res St
 | [],s=>.ok s
 | t :: ts,s=>if s.stack.length = 0 ∨ s.stack.getLast? = some t then
   match dropE s with
   | .ok s'=>takeE ts s'
   | .error e=>.error e
  else .error 14
def giveS (s : St) (t : Int) : St := if t = 0 then s else { s with stack := s.stack ++ [t] }
def leftS : St := ⟨[],true⟩
def returnsE (ty : Int) (s : St) : Res St := if ty = 0 then .ok s else takeE [ty] s
def numberB (t : Int) : Bool := decide (t = 1) || decide (t = 2)
def signs : List (List UInt8 × List UInt8) := [
 ([97,100,100],[43]),([115,117,98],[45]),([109,117,108],[42]),([100,105,118,95,115],[47]),([114,101,109,95,115],[37]),([97,110,100],[38]),([111,114],[124]),([120,111,114],[94]),
 ([115,104,108],[60,60]),([115,104,114,95,115],[62,62]),([101,113],[61,61]),([110,101],[33,61]),([108,116,95,115],[60]),([108,101,95,115],[60,61]),([103,116,95,115],[62]),([103,101,95,115],[62,61])]
def signOf : List (List UInt8 × List UInt8) → List UInt8 → List UInt8
 | [],_=>[]
 | (x,y) :: r,s=>if x = s then y else signOf r s
def bytesB (t n : Int) : Bool := decide (t = 1) && (decide (n = 1) || decide (n = 4)) || decide (t = 2) && decide (n = 8)
def formB (w : W) : Bool :=
 if w.op = 1 ∨ w.op = 5 then numberB w.ty
 else if w.op = 4 then numberB w.ty && !(signOf signs w.name == [])
 else if w.op = 8 ∨ w.op = 9 then bytesB w.ty w.n
 else decide (1 ≤ w.op) && decide (w.op ≤ 18)
def headOf (fs : List F) (n : Int) : Option (List Int × Int) :=
 if n = 0 then some ([],2) else if n = 1 then some ([2],0) else if n = 2 then some ([1],0)
 else if n < 0 then none else (fs[(n - 3).toNat]?).map fun f=>(f.params,f.type)
def wrapT (t v : Int) : Int := if t = 3 then IntKind.i8.wrap v else if t = 1 then IntKind.i32.wrap v else if t = 2 then v else 0
def rangedB (fs : List F) (locals : List Int) (deep : Int) (w : W) : Bool :=
 if w.op = 1 then decide (wrapT w.ty w.n = w.n)
 else if w.op = 2 ∨ w.op = 3 then decide (0 ≤ w.n) && decide (w.n < (locals.length : Int))
 else if w.op = 10 then (headOf fs w.n).isSome
 else if w.op = 14 ∨ w.op = 15 then decide (0 ≤ w.n) && decide (w.n ≤ deep)
 else true
def localAt (locals : List Int) (n : Int) : Int := locals.getD n.toNat 0
def compares : List UInt8 := [32,101,113,32,110,101,32,108,116,95,115,32,108,101,95,115,32,103,116,95,115,32,103,101,95,115,32]
def cmpB (s : List UInt8) : Bool := Lib.contains compares (32 :: (s ++ [32]))
def gives (r : Res St) (t : Int) : Res St := match r with
 | .ok s=>.ok (giveS s t)
 | .error e=>.error e
def plainE (fs : List F) (locals : List Int) (w : W) (s : St) : Res St :=
 if w.op = 1 then .ok (giveS s w.ty)
 else if w.op = 2 then .ok (giveS s (localAt locals w.n))
 else if w.op = 3 then takeE [localAt locals w.n] s
 else if w.op = 4 then gives (takeE [w.ty,w.ty] s) (if cmpB w.name then 1 else w.ty)
 else if w.op = 5 then gives (takeE [w.ty] s) 1
 else if w.op = 6 then gives (takeE [2] s) 1
 else if w.op = 7 then gives (takeE [1] s) 2
 else if w.op = 8 then gives (takeE [1] s) w.ty
 else if w.op = 9 then takeE [w.ty,1] s
 else if w.op = 10 then match headOf fs w.n with
  | some (ts,g)=>gives (takeE ts.reverse s) g
  | none=>.ok s
 else if w.op = 18 then dropE s
 else .ok s
abbrev Look := Int → Int → Res Unit
def instrE (fs : List F) (locals : List Int) (ty deep : Int) (look : Look) (w : W) (s : St) : Res St :=
 if formB w = false then .error 2
 else if rangedB fs locals deep w = false then .error 11
 else if w.op = 11 ∨ w.op = 12 then match look w.body (deep + 1) with
  | .ok _=>.ok s
  | .error e=>.error e
 else if w.op = 13 then match takeE [1] s with
  | .error e=>.error e
  | .ok s1=>match look w.body (deep + 1) with
   | .error e=>.error e
   | .ok _=>if 0 ≤ w.other then match look w.other (deep + 1) with
     | .error e=>.error e
     | .ok _=>.ok s1
    else .ok s1
 else if w.op = 15 then match takeE [1] s with
  | .error e=>.error e
  | .ok s1=>if w.n = deep then gives (returnsE ty s1) ty else .ok s1
 else if w.op = 14 then if w.n = deep then match returnsE ty s with
   | .error e=>.error e
   | .ok _=>.ok leftS
  else .ok leftS
 else if w.op = 16 then match returnsE ty s with
  | .error e=>.error e
  | .ok _=>.ok leftS
 else if w.op = 17 then .ok leftS
 else plainE fs locals w s
def instrsE (fs : List F) (locals : List Int) (ty deep : Int) (look : Look) : List W → St → Res St
 | [],s=>.ok s
 | w :: ws,s=>match instrE fs locals ty deep look w s with
  | .error e=>.error e
  | .ok s'=>instrsE fs locals ty deep look ws s'
def endE (ty deep : Int) (s : St) : Res Unit := match (if deep = 0 then returnsE ty s else .ok s) with
 | .error e=>.error e
 | .ok s'=>if s'.stack.length = 0 then .ok () else .error 14
def lookE (fs : List F) (locals : List Int) (ty : Int) (lists : To) : Nat → Look
 | 0,_,_=>.error (-1)
 | k + 1,at_,deep=>match instrsE fs locals ty deep (lookE fs locals ty lists k) (lists.getD at_.toNat []) ⟨[],false⟩ with
  | .error e=>.error e
  | .ok s=>endE ty deep s
def namesL (w : W) : List Int := if w.op = 11 ∨ w.op = 12 ∨ (w.op = 13 ∧ w.other < 0) then [w.body] else if w.op = 13 then [w.body,w.other] else []
def nameE (at_ : Int) (named : List Bool) (n : Int) : Res (List Bool) :=
 if 0 ≤ n ∧ n < at_ ∧ named.getD n.toNat true = false then .ok (named.set n.toNat true) else .error 11
def namesE (at_ : Int) : List Int → List Bool → Res (List Bool)
 | [],named=>.ok named
 | n :: ns,named=>match nameE at_ named n with
  | .error e=>.error e
  | .ok named'=>namesE at_ ns named'
def rowE (at_ : Int) : List W → List Bool → Res (List Bool)
 | [],named=>.ok named
 | w :: ws,named=>match namesE at_ (namesL w) named with
  | .error e=>.error e
  | .ok named'=>rowE at_ ws named'
def rowsE : Nat → To → List Bool → Res (List Bool)
 | _,[],named=>.ok named
 | k,l :: ls,named=>match rowE (k : Int) l named with
  | .error e=>.error e
  | .ok named'=>rowsE (k + 1) ls named'
def listsE (ls : To) : Res Unit :=
 if ls.length = 0 then .error 11 else match rowsE 0 ls (List.replicate ls.length false) with
  | .error e=>.error e
  | .ok named=>if (named.take (ls.length - 1)).all (· == true) then .ok () else .error 11
def functionE (fs : List F) (f : F) : Res Unit :=
 if ((f.params ++ f.locals).all numberB && decide (0 ≤ f.type) && decide (f.type ≤ 2)) = false then .error 6 else match listsE f.lists with
  | .error e=>.error e
  | .ok _=>lookE fs (f.params ++ f.locals) f.type f.lists f.lists.length ((f.lists.length : Int) - 1) 0
def functionsE (fs : List F) : List F → Res Unit
 | []=>.ok ()
 | f :: r=>match functionE fs f with
  | .error e=>.error e
  | .ok _=>functionsE fs r
def mainB (m : M) : Bool := decide (0 ≤ m.main) && match m.funcs[m.main.toNat]? with
 | some f=>decide (f.type = 1) && decide (f.params.length = 0)
 | none=>false
def checkE (m : M) : Res Unit :=
 if (decide (0 ≤ m.memory) && decide (m.memory ≤ 4096)) = false then .error 11 else match functionsE m.funcs m.funcs with
  | .error e=>.error e
  | .ok _=>if mainB m then .ok () else .error 12
def errOf : Res Unit → Int
 | .ok _=>0
 | .error e=>e
end Go.Proofs.YthejpoplbllcbaaGreatDoor
set_option linter.unusedSimpArgs false
set_option linter.unusedVariables false
namespace Go.Proofs.YthejpoplbllcbaaGreatDoor
open Go Go.Abs
def sumTo (f : Nat → Nat) : Nat → Nat
 | 0=>0
 | k + 1=>sumTo f k + f k
theorem sumTo_congr {f g : Nat → Nat} : ∀ k,(∀ i,i < k → f i = g i) → sumTo f k = sumTo g k
 | 0,_=>rfl
 | k + 1,h=>by rw [sumTo,sumTo,sumTo_congr k fun i hi=>h i (by omega),h k (by omega)]
def rt (T : Nat → Nat) (named : List Bool) (i : Nat) : Nat := if named.getD i true then 0 else T i
theorem getD_set (named : List Bool) (n i : Nat) : (named.set n true).getD i true = if i = n then true else named.getD i true := by
 rw [List.getD_eq_getElem?_getD,List.getD_eq_getElem?_getD,List.getElem?_set]
 by_cases h : n = i
 ·subst h
  rw [if_pos rfl,if_pos rfl]
  split <;> rfl
 ·rw [if_neg h,if_neg (fun e=>h e.symm)]
theorem rt_set_ne (T : Nat → Nat) (named : List Bool) {n i : Nat} (h : i ≠ n) : rt T (named.set n true) i = rt T named i := by
 have e : (named.set n true).getD i true = named.getD i true:=by rw [getD_set,if_neg h]
 unfold rt; rw [e]
theorem sumTo_set (T : Nat → Nat) (named : List Bool) (n : Nat) (h : named.getD n true = false) : ∀ k,n < k → sumTo (rt T (named.set n true)) k + T n = sumTo (rt T named) k
 | 0,hk=>by omega
 | k + 1,hk=>by
  simp only [sumTo]
  by_cases e : n = k
  ·subst e
   have h1 : sumTo (rt T (named.set n true)) n = sumTo (rt T named) n:=sumTo_congr n fun i hi=>rt_set_ne T named (Nat.ne_of_lt hi)
   have h2 : rt T (named.set n true) n = 0:=by
    have e : (named.set n true).getD n true = true:=by rw [getD_set,if_pos rfl]
    unfold rt; rw [e]; rfl
   have h3 : rt T named n = T n:=by unfold rt; rw [h]; rfl
   omega
  ·have ih:=sumTo_set T named n h k (by omega)
   have h2 : rt T (named.set n true) k = rt T named k:=rt_set_ne T named (fun q=>e q.symm)
   omega
def sumL (l : List Int) (T : Nat → Nat) : Nat := (l.map fun n => T n.toNat).sum
theorem sumL_append (a b : List Int) (T) : sumL (a ++ b) T = sumL a T + sumL b T := by simp [sumL]
structure Named (T : Nat → Nat) (k : Nat) (named named' : List Bool) (ns : List Int) : Prop where
 inside : ∀ n ∈ ns,0 ≤ n ∧ n < (k : Int)
 sum : sumTo (rt T named') k + sumL ns T = sumTo (rt T named) k
 rest : ∀ i,k ≤ i → named'.getD i true = named.getD i true
 len : named'.length = named.length
theorem Named.nil {T k named} : Named T k named named [] := ⟨by simp,by simp [sumL],fun _ _ => rfl,rfl⟩
theorem Named.trans {T k a b c l m} (h : Named T k a b l) (h' : Named T k b c m) : Named T k a c (l ++ m) where
 inside n hn:=(List.mem_append.1 hn).elim (h.inside n) (h'.inside n)
 sum:=by rw [sumL_append]; have:=h.sum; have:=h'.sum; omega
 rest i hi:=(h'.rest i hi).trans (h.rest i hi)
 len:=h'.len.trans h.len
theorem nameE_ok {T k named n named'} (h : nameE (k : Nat) named n = .ok named') : Named T k named named' [n] := by
 unfold nameE at h
 split at h
 ·rename_i hc
  cases h
  obtain ⟨h0,h1,h2⟩:=hc
  have hk : n.toNat < k:=by omega
  refine ⟨by simp; exact ⟨h0,h1⟩,by simpa [sumL] using sumTo_set T named n.toNat h2 k hk,fun i hi=>by rw [getD_set,if_neg (by omega)],by simp⟩
 ·cases h
theorem namesE_ok {T k} : ∀ {ns named named'},namesE (k : Nat) ns named = .ok named' → Named T k named named' ns
 | [],_,_,h=>by simp [namesE] at h; subst h; exact .nil
 | n :: ns,named,named',h=>by
  rw [namesE] at h
  split at h
  ·cases h
  ·rename_i named1 h1
   exact (nameE_ok h1).trans (namesE_ok h)
theorem rowE_ok {T k} : ∀ {ws named named'},rowE (k : Nat) ws named = .ok named' → Named T k named named' (ws.flatMap namesL)
 | [],_,_,h=>by simp [rowE] at h; subst h; exact .nil
 | w :: ws,named,named',h=>by
  rw [rowE] at h
  split at h
  ·cases h
  ·rename_i named1 h1
   rw [List.flatMap_cons]
   exact (namesE_ok h1).trans (rowE_ok h)
def Ahead (ls : To) : Prop := ∀ (k : Nat) (row : List W),ls[k]? = some row → ∀ n ∈ row.flatMap namesL,0 ≤ n ∧ n < (k : Int)
theorem rowsE_ahead (ls : To) : ∀ (r : To) (k : Nat) (named named' : List Bool),ls.drop k = r → rowsE k r named = .ok named' → ∀ j row,k ≤ j → ls[j]? = some row → ∀ n ∈ row.flatMap namesL,0 ≤ n ∧ n < (j : Int)
 | [],k,_,_,hd,_,j,row,hj,hr=>by
  have : ls.length ≤ k:=List.drop_eq_nil_iff.1 hd
  rw [List.getElem?_eq_none (by omega)] at hr; cases hr
 | l :: r,k,named,named',hd,h,j,row,hj,hr=>by
  rw [rowsE] at h
  split at h
  ·cases h
  ·rename_i named1 h1
   have hl : ls[k]? = some l:=by
    have:=congrArg (·[0]?) hd
    simpa using this
   have hd' : ls.drop (k + 1) = r:=by
    have:=congrArg (List.drop 1) hd
    simpa [List.drop_drop] using this
   by_cases e : j = k
   ·subst e
    rw [hl] at hr; cases hr
    exact (rowE_ok (T:=fun _=>0) h1).inside
   ·exact rowsE_ahead ls r (k + 1) named1 named' hd' h j row (by omega) hr
theorem rowsE_sum (ls : To) (T g : Nat → Nat) (hT : ∀ k row,ls[k]? = some row → T k = g k + sumL (row.flatMap namesL) T) : ∀ (r : To) (k : Nat) (named named' : List Bool),ls.drop k = r → rowsE k r named = .ok named' → k ≤ ls.length →
  sumTo (rt T named) k = sumTo g k → named.length = ls.length → (∀ i,k ≤ i → i < ls.length → named.getD i true = false) →
  sumTo (rt T named') ls.length = sumTo g ls.length ∧ named'.length = ls.length ∧ (0 < ls.length → k < ls.length → named'.getD (ls.length - 1) true = false)
 | [],k,named,named',hd,h,hk,hs,hl,hf=>by
  have hlen : ls.length ≤ k:=List.drop_eq_nil_iff.1 hd
  simp [rowsE] at h
  subst h
  obtain rfl : k = ls.length:=by omega
  exact ⟨hs,hl,fun _ h=>by omega⟩
 | l :: r,k,named,named',hd,h,hk,hs,hlen,hf=>by
  rw [rowsE] at h
  split at h
  ·cases h
  ·rename_i named1 h1
   have hl : ls[k]? = some l:=by
    have:=congrArg (·[0]?) hd
    simpa using this
   have hd' : ls.drop (k + 1) = r:=by
    have:=congrArg (List.drop 1) hd
    simpa [List.drop_drop] using this
   have hk' : k < ls.length:=(List.getElem?_eq_some_iff.1 hl).1
   have N:=rowE_ok (T:=T) h1
   have hkk : named1.getD k true = false:=(N.rest k (Nat.le_refl _)).trans (hf k (Nat.le_refl _) hk')
   have hsum : sumTo (rt T named1) (k + 1) = sumTo g (k + 1):=by
    simp only [sumTo]
    have h3 : rt T named1 k = T k:=by unfold rt; rw [hkk]; rfl
    have:=N.sum
    have:=hT k l hl
    omega
   have key:=rowsE_sum ls T g hT r (k + 1) named1 named' hd' h hk' hsum (N.len.trans hlen) fun i hi hil=>(N.rest i (by omega)).trans (hf i (by omega) hil)
   refine ⟨key.1,key.2.1,fun h0 _=>?_⟩
   by_cases e : k + 1 < ls.length
   ·exact key.2.2 h0 e
   ·have : r = []:=by
     have hdl:=congrArg List.length hd'
     rw [List.length_drop] at hdl
     exact List.length_eq_zero_iff.1 (by omega)
    subst this
    simp [rowsE] at h
    subst h
    rw [show ls.length - 1 = k from by omega]
    exact hkk
def tot (g : Nat → Nat) (ls : To) : Nat → Nat → Nat
 | 0,_=>0
 | f + 1,k=>g k + sumL ((ls.getD k []).flatMap namesL) (tot g ls f)
theorem sumL_congr {l : List Int} {T U : Nat → Nat} (h : ∀ n ∈ l,T n.toNat = U n.toNat) : sumL l T = sumL l U := by
 induction l with
 | nil=>rfl
 | cons n l ih =>
  simp only [sumL,List.map_cons,List.sum_cons] at ih ⊢
  rw [h n (by simp),ih fun m hm=>h m (by simp [hm])]
theorem tot_stable (g : Nat → Nat) {ls : To} (ha : Ahead ls) : ∀ (f : Nat) (k : Nat),k < f → tot g ls (f + 1) k = tot g ls f k := by
 intro f
 induction f with
 | zero=>intro k h; omega
 | succ f ih =>
  intro k hk
  rw [tot,tot]
  congr 1
  refine sumL_congr fun n hn=>?_
  cases hr : ls[k]? with
  | none=>rw [List.getD_eq_getElem?_getD,hr] at hn; simp at hn
  | some row =>
   rw [List.getD_eq_getElem?_getD,hr] at hn
   have:=ha k row hr n hn
   exact ih n.toNat (by omega)
def totF (g : Nat → Nat) (ls : To) (k : Nat) : Nat := tot g ls ls.length k
theorem totF_eq (g : Nat → Nat) {ls : To} (ha : Ahead ls) {k : Nat} {row : List W} (h : ls[k]? = some row) : totF g ls k = g k + sumL (row.flatMap namesL) (totF g ls) := by
 have hk:=(List.getElem?_eq_some_iff.1 h).1
 unfold totF
 rw [← tot_stable g ha ls.length k hk,tot,List.getD_eq_getElem?_getD,h]
 rfl
theorem sumTo_zero : ∀ k,sumTo (fun _ => 0) k = 0
 | 0=>rfl
 | k + 1=>by rw [sumTo,sumTo_zero k]
theorem listsE_ok {ls : To} (h : listsE ls = .ok ()) : 0 < ls.length ∧ Ahead ls ∧ ∀ g,totF g ls (ls.length - 1) = sumTo g ls.length := by
 unfold listsE at h
 split at h
 ·cases h
 ·rename_i h0
  split at h
  ·cases h
  ·rename_i named hr
   split at h
   ·rename_i hall
    have ha : Ahead ls:=fun k row hk=>rowsE_ahead ls ls 0 _ _ (by simp) hr k row (Nat.zero_le _) hk
    refine ⟨by omega,ha,fun g=>?_⟩
    obtain ⟨h1,h2,h3⟩:=rowsE_sum ls (totF g ls) g (fun k row hk=>totF_eq g ha hk) ls 0 _ _ (by simp) hr (Nat.zero_le _) rfl (by simp) fun i _ hi=>by
     rw [List.getD_eq_getElem?_getD,List.getElem?_replicate,if_pos hi]; rfl
    obtain ⟨L,hL⟩ : ∃ L,ls.length = L + 1:=⟨ls.length - 1,by omega⟩
    have h3':=h3 (by omega) (by omega)
    rw [hL] at h1 h3' hall ⊢
    simp only [Nat.add_sub_cancel] at h3' hall ⊢
    rw [← h1,sumTo]
    have z : sumTo (rt (totF g ls) named) L = 0:=by
     have : sumTo (rt (totF g ls) named) L = sumTo (fun _=>0) L:=sumTo_congr L fun i hi=>by
      have hm : (named.take L)[i]? = some true:=by
       have hlt : i < (named.take L).length:=by rw [List.length_take]; omega
       rw [List.getElem?_eq_getElem hlt]
       have:=List.all_eq_true.1 hall _ (List.getElem_mem hlt)
       simpa using this
      rw [List.getElem?_take,if_pos hi] at hm
      have e : named.getD i true = true:=by rw [List.getD_eq_getElem?_getD,hm]; rfl
      unfold rt; rw [e]; rfl
     rw [this,sumTo_zero]
    have e : rt (totF g ls) named L = totF g ls L:=by unfold rt; rw [h3']; rfl
    rw [z,e]; omega
   ·cases h
end Go.Proofs.YthejpoplbllcbaaGreatDoor
set_option linter.unusedSimpArgs false
set_option linter.unusedVariables false
namespace Go.Proofs.YthejpoplbllcbaaGreatDoor
open Go Go.Abs
def leavesW (w : W) : Bool := w.op == 14 || w.op == 16 || w.op == 17
def Good (l : List W) : Prop := ∀ w ∈ l.dropLast,leavesW w = false
def sumC (c : Nat → Nat) (ls : To) : Nat := (ls.map fun l => c l.length).sum
theorem sumC_append (c a b) : sumC c (a ++ b) = sumC c a + sumC c b := by simp [sumC]
end Go.Proofs.YthejpoplbllcbaaGreatDoor
set_option linter.unusedSimpArgs false
set_option linter.unusedVariables false
namespace Go.Proofs.YthejpoplbllcbaaGreatDoor
open Go Go.Abs
theorem functionE_lists {fs : List F} {f : F} (h : functionE fs f = .ok ()) : listsE f.lists = .ok () := by
 unfold functionE at h
 split at h
 ·cases h
 ·split at h
  ·cases h
  ·assumption
theorem functionsE_all {fs : List F} : ∀ {r : List F},functionsE fs r = .ok () → ∀ f ∈ r,functionE fs f = .ok ()
 | [],_,f,hf=>by simp at hf
 | g :: r,h,f,hf=>by
  rw [functionsE] at h
  split at h
  ·cases h
  ·rename_i u hg
   rcases List.mem_cons.1 hf with rfl | hf
   ·exact hg
   ·exact functionsE_all h f hf
theorem checkE_functions {m : M} (h : checkE m = .ok ()) : ∀ f ∈ m.funcs,functionE m.funcs f = .ok () := by
 unfold checkE at h
 split at h
 ·cases h
 ·split at h
  ·cases h
  ·rename_i u hf
   exact functionsE_all hf
end Go.Proofs.YthejpoplbllcbaaGreatDoor
set_option linter.unusedSimpArgs false
set_option linter.unusedVariables false
namespace Go.Proofs.YthejpoplbllcbaaGreatDoor
open Go Go.Abs
@[simp] theorem blit_nil (t) : blitSl t [] = false := by simp [blitSl]
@[simp] theorem blit_tmp (t i k r) : blitSl t ((i,.tmp k) :: r) = false := by simp [blitSl]
@[simp] theorem blit_i64 (t i n r) : blitSl t ((i,.const (.int .i64 n)) :: r) = false := by simp [blitSl]
@[simp] theorem blit_str (t i n r) : blitSl t ((i,.const (.string n)) :: r) = false := by simp [blitSl]
def byteI (n : Int) : UInt8 := UInt8.ofNat (n % 256).toNat
def uF : Nat → Int → List UInt8
 | 0,_=>[]
 | k + 1,n=>if n ≤ 127 then [byteI n] else (byteI n ||| 128) :: uF k (n / 128)
def sF : Nat → Int → List UInt8
 | 0,_=>[]
 | k + 1,n=>if -64 ≤ n ∧ n ≤ 63 then [byteI n &&& 127] else (byteI n ||| 128) :: sF k (n / 128)
def uI (n : Int) : List UInt8 := uF 10 n
def sI (n : Int) : List UInt8 := sF 10 n
theorem byteI_nat (n : Int) : ((byteI n).toNat : Int) = n % 256 := by
 unfold byteI
 have h1 : 0 ≤ n % 256 ∧ n % 256 < 256:=⟨Int.emod_nonneg _ (by decide),Int.emod_lt_of_pos _ (by decide)⟩
 rw [UInt8.toNat_ofNat']
 omega
theorem wrap_u8 (n : Int) : IntKind.wrap .u8 n = ((byteI n).toNat : Int) := by
 rw [byteI_nat]
 simp [IntKind.wrap,IntKind.signed,IntKind.bits]
theorem bits2_u8 (f : BitVec 8 → BitVec 8 → BitVec 8) (a b : UInt8) : bits2 .u8 f (a.toNat : Int) (b.toNat : Int) = ((f a.toBitVec b.toBitVec).toNat : Int) := by
 have e1 : BitVec.ofInt 8 (a.toNat : Int) = a.toBitVec:=by
  apply BitVec.eq_of_toNat_eq
  simp
 have e2 : BitVec.ofInt 8 (b.toNat : Int) = b.toBitVec:=by
  apply BitVec.eq_of_toNat_eq
  simp
 show IntKind.wrap .u8 ((f (BitVec.ofInt 8 (a.toNat : Int)) (BitVec.ofInt 8 (b.toNat : Int))).toNat : Int) = _
 rw [e1,e2]
 have:=(f a.toBitVec b.toBitVec).isLt
 simp [IntKind.wrap,IntKind.signed,IntKind.bits]
 omega
theorem or_u8 (a : UInt8) : bits2 .u8 (· ||| ·) (a.toNat : Int) 128 = ((a ||| 128).toNat : Int) := by
 exact bits2_u8 (· ||| ·) a 128
theorem and_u8 (a : UInt8) : bits2 .u8 (· &&& ·) (a.toNat : Int) 127 = ((a &&& 127).toNat : Int) := by
 exact bits2_u8 (· &&& ·) a 127
theorem shr7 (n : Int) : n.fdiv (2 ^ min 7 IntKind.i64.bits) = n / 128 := by
 show n.fdiv 128 = n / 128
 exact Int.fdiv_eq_ediv_of_nonneg _ (by decide)
@[simp] theorem B_len (bs : List UInt8) : (B bs).length = bs.length := by simp [B]
@[simp] theorem B_app (x y : List UInt8) : B (x ++ y) = B x ++ B y := by simp [B]
theorem uF_len : ∀ (k : Nat) (n : Int),(uF k n).length ≤ k
 | 0,_=>by simp [uF]
 | k + 1,n=>by
  rw [uF]
  split
  ·simp
  ·simp [uF_len k]
theorem sF_len : ∀ (k : Nat) (n : Int),(sF k n).length ≤ k
 | 0,_=>by simp [sF]
 | k + 1,n=>by
  rw [sF]
  split
  ·simp
  ·simp [sF_len k]
end Go.Proofs.YthejpoplbllcbaaGreatDoor
set_option linter.unusedSimpArgs false
set_option linter.unusedVariables false
namespace Go.Proofs.YthejpoplbllcbaaGreatDoor
open Go Go.Abs
def W.cs (w : W) : List AV := [.int .i64 w.op,.int .i64 w.ty,.int .i64 w.n,.int .i64 w.body,.int .i64 w.other,.str w.name]
def W.av (w : W) : AV := .agg w.cs
inductive All2 {α β : Type} (R : α → β → Prop) : List α → List β → Prop
 | nil : All2 R [] []
 | cons {x y xs ys} (h : R x y) (r : All2 R xs ys) : All2 R (x :: xs) (y :: ys)
def RepL (v : AV) (l : List W) : Prop := (l = [] ∧ v = .nilsl) ∨ ∃ b,v = .sl (.stat b) 6 (l.map W.av)
def FromV (v : AV) (frm : To) : Prop := ∃ b rows,v = .sl (.stat b) 1 rows ∧ All2 RepL rows frm
def famOf : AV → Option Nat
 | .sl (.fam g _) _ _=>some g
 | _=>none
def Uses (σ : AS) (x f : Nat) : Prop := ∃ fv tv,σ.objs x = some [fv,tv] ∧ famOf tv = some f
structure Keep (x : Nat) (σ σ' : AS) : Prop where
 no : σ.no ≤ σ'.no
 nf : σ.nf ≤ σ'.nf
 obj : ∀ o,o < σ.no → o ≠ x → σ'.objs o = σ.objs o
 fam : ∀ f,f < σ.nf → ¬ Uses σ x f → σ'.F f = σ.F f
 use : ∀ f,f < σ.nf → Uses σ' x f → Uses σ x f
end Go.Proofs.YthejpoplbllcbaaGreatDoor
set_option linter.unusedSimpArgs false
set_option linter.unusedVariables false
namespace Go.Proofs.YthejpoplbllcbaaGreatDoor
open Go Go.Abs
end Go.Proofs.YthejpoplbllcbaaGreatDoor
set_option linter.unusedSimpArgs false
set_option linter.unusedVariables false
namespace Go.Proofs.YthejpoplbllcbaaGreatDoor
open Go Go.Abs
end Go.Proofs.YthejpoplbllcbaaGreatDoor
set_option linter.unusedSimpArgs false
set_option linter.unusedVariables false
namespace Go.Proofs.YthejpoplbllcbaaGreatDoor
open Go Go.Abs
theorem All2.length {α β : Type} {R : α → β → Prop} {xs ys} (h : All2 R xs ys) : xs.length = ys.length := by
 induction h <;> simp_all
theorem All2.get {α β : Type} {R : α → β → Prop} {xs ys} (h : All2 R xs ys) {i : Nat} {y} (hy : ys[i]? = some y) : ∃ x,xs[i]? = some x ∧ R x y := by
 induction h generalizing i with
 | nil=>simp at hy
 | cons h r ih =>
  cases i with
  | zero=>simp at hy; subst hy; exact ⟨_,by simp,h⟩
  | succ i=>simp at hy; simpa using ih hy
theorem All2.append {α β : Type} {R : α → β → Prop} {xs ys xs' ys'} (h : All2 R xs ys) (h' : All2 R xs' ys') : All2 R (xs ++ xs') (ys ++ ys') := by
 induction h with
 | nil=>exact h'
 | cons h r ih=>exact .cons h ih
theorem freezeOr {P : Program} {G : Env} {f : FuncId} {args : List AV} {σ : AS} {R : Out → AS → Prop}
  (h : ACalls P G f args σ fun o σ'=>R o σ' ∨ ∃ v g p,o = .ret v ∧ σ'.F g = .alive ∧ R (.ret (frz g v)) (σ'.frz g p)) : ACalls P G f args σ R:=by
 intro M w cargs S g c
 refine (h M w cargs S g c).mono fun e w' ⟨o,σ',M',hR,h2,h3,h4⟩=>?_
 rcases hR with hR | ⟨v,k,p,ho,ha,hR⟩
 ·exact ⟨o,σ',M',hR,h2,h3,h4⟩
 subst ho
 refine ⟨_,_,M'.frz k,hR,?_,h3.frz ha,h4.trans (ext_frz ha)⟩
 cases e <;> simp only [OutRel] at h2 ⊢
 exact h2.frz ha
theorem frz_W (f : Nat) (w : W) : frz f w.av = w.av := by simp [W.av,W.cs]
theorem frz_Ws (f : Nat) (l : List W) : (l.map W.av).map (frz f) = l.map W.av := by simp [Function.comp_def,frz_W]
theorem RepL.frz {v l} (h : RepL v l) (f : Nat) : frz f v = v := by
 rcases h with ⟨_,rfl⟩ | ⟨b,rfl⟩
 ·simp
 ·rw [frz_sl_stat,frz_Ws]
theorem frz_rows {tos tO} (h : All2 RepL tos tO) (f : Nat) : tos.map (frz f) = tos := by
 induction h with
 | nil=>rfl
 | cons h r ih=>simp [h.frz f,ih]
theorem FromV.frz {v frm} (h : FromV v frm) (f : Nat) : frz f v = v := by
 obtain ⟨b,rows,rfl,h⟩:=h
 rw [frz_sl_stat,frz_rows h]
end Go.Proofs.YthejpoplbllcbaaGreatDoor
set_option linter.unusedSimpArgs false
set_option linter.unusedVariables false
namespace Go.Proofs.YthejpoplbllcbaaGreatDoor
open Go Go.Abs
end Go.Proofs.YthejpoplbllcbaaGreatDoor
set_option linter.unusedSimpArgs false
set_option linter.unusedVariables false
namespace Go.Proofs.YthejpoplbllcbaaGreatDoor
open Go Go.Abs
end Go.Proofs.YthejpoplbllcbaaGreatDoor
set_option linter.unusedSimpArgs false
set_option linter.unusedVariables false
namespace Go.Proofs.YthejpoplbllcbaaGreatDoor
open Go Go.Abs
structure Adds (σ σ' : AS) : Prop where
 no : σ.no ≤ σ'.no
 nf : σ.nf ≤ σ'.nf
 obj : ∀ o,o < σ.no → σ'.objs o = σ.objs o
 fam : ∀ f,f < σ.nf → σ'.F f = σ.F f
theorem Adds.refl (σ) : Adds σ σ := ⟨Nat.le_refl _,Nat.le_refl _,fun _ _ => rfl,fun _ _ => rfl⟩
theorem Adds.trans {σ σ1 σ2} (h : Adds σ σ1) (h' : Adds σ1 σ2) : Adds σ σ2 where
 no:=Nat.le_trans h.no h'.no
 nf:=Nat.le_trans h.nf h'.nf
 obj o a:=by rw [h'.obj o (Nat.lt_of_lt_of_le a h.no),h.obj o a]
 fam f a:=by rw [h'.fam f (Nat.lt_of_lt_of_le a h.nf),h.fam f a]
theorem Adds.newO {σ σ' cs} (h : Adds σ σ') : Adds σ (σ'.newO cs) where
 no:=Nat.le_trans h.no (by simp)
 nf:=h.nf
 obj o a:=by have:=h.no; simp; rw [if_neg (by omega)]; exact h.obj o a
 fam:=h.fam
theorem Adds.setO {σ σ' o cs} (h : Adds σ σ') (ho : σ.no ≤ o) : Adds σ (σ'.setO o cs) where
 no:=h.no
 nf:=h.nf
 obj p a:=by simp; rw [if_neg (by omega)]; exact h.obj p a
 fam:=h.fam
theorem Adds.newF {σ σ'} (h : Adds σ σ') : Adds σ σ'.newF where
 no:=h.no
 nf:=Nat.le_trans h.nf (by simp)
 obj:=h.obj
 fam f a:=by have:=h.nf; simp; rw [if_neg (by omega)]; exact h.fam f a
theorem Adds.setF {σ σ' f s} (h : Adds σ σ') (hf : σ.nf ≤ f) : Adds σ (σ'.setF f s) where
 no:=h.no
 nf:=h.nf
 obj:=h.obj
 fam g a:=by simp; rw [if_neg (by omega)]; exact h.fam g a
theorem Adds.frz {σ σ' f p} (h : Adds σ σ') (hf : σ.nf ≤ f) (hp : ∀ o,o < σ.no → p o = false) : Adds σ (σ'.frz f p) where
 no:=h.no
 nf:=h.nf
 obj o a:=by simp [AS.frz,hp o a]; exact h.obj o a
 fam g a:=by simp [AS.frz,frzF]; rw [if_neg (by omega)]; exact h.fam g a
def IntsV (v : AV) (l : List Int) : Prop := (l = [] ∧ v = .nilsl) ∨ ∃ b,v = .sl (.stat b) 1 (l.map (.int .i64))
theorem IntsV.frz {v l} (h : IntsV v l) (f : Nat) : frz f v = v := by
 rcases h with ⟨_,rfl⟩ | ⟨b,rfl⟩ <;> simp [Function.comp_def]
theorem IntsV.one {v l} (h : IntsV v l) : v.known = true ∧ v.one = true ∧ v.cells = [v] := by
 rcases h with ⟨_,rfl⟩ | ⟨b,rfl⟩ <;> simp
def FrzOr (R : Out → AS → Prop) (o : Out) (σ' : AS) : Prop := R o σ' ∨ ∃ v g p,o = .ret v ∧ σ'.F g = .alive ∧ R (.ret (frz g v)) (σ'.frz g p)
theorem freezing {P : Program} {G : Env} {f : FuncId} {args : List AV} {σ : AS} {R : Out → AS → Prop} (h : ACalls P G f args σ (FrzOr R)) : ACalls P G f args σ R := freezeOr h
theorem FrzOr.froze {R : Out → AS → Prop} {v : AV} {σ' : AS} (g : Nat) (p : Nat → Bool) (h : σ'.F g = .alive) (h2 : R (.ret (frz g v)) (σ'.frz g p)) : FrzOr R (.ret v) σ' := .inr ⟨v,g,p,rfl,h,h2⟩
def ListsV (v : AV) (tO : To) : Prop := (tO = [] ∧ v = .nilsl) ∨ FromV v tO
theorem ListsV.one {v l} (h : ListsV v l) : v.known = true ∧ v.one = true ∧ v.cells = [v] := by
 rcases h with ⟨_,rfl⟩ | ⟨b,_,rfl,_⟩ <;> simp
theorem ListsV.frz {v l} (h : ListsV v l) (f : Nat) : frz f v = v := by
 rcases h with ⟨_,rfl⟩ | h
 ·simp
 ·exact h.frz f
def FV (v : AV) (f : F) : Prop := ∃ pv lv tv,v = .agg [.str f.name,pv,lv,.int .i64 f.type,tv] ∧ IntsV pv f.params ∧ IntsV lv f.locals ∧ ListsV tv f.lists
def FsV (v : AV) (fs : List F) : Prop := (fs = [] ∧ v = .nilsl) ∨ ∃ b rows,v = .sl (.stat b) 5 rows ∧ All2 FV rows fs
def MV (v : AV) (m : M) : Prop := ∃ fv,v = .agg [fv,.int .i64 m.memory,.int .i64 m.main] ∧ FsV fv m.funcs
theorem FV.frz {v f} (h : FV v f) (g : Nat) : frz g v = v := by
 obtain ⟨pv,lv,tv,rfl,h1,h2,h3⟩:=h
 simp [h1.frz,h2.frz,h3.frz]
end Go.Proofs.YthejpoplbllcbaaGreatDoor
set_option linter.unusedSimpArgs false
set_option linter.unusedVariables false
namespace Go.Proofs.YthejpoplbllcbaaGreatDoor
open Go Go.Abs
end Go.Proofs.YthejpoplbllcbaaGreatDoor
set_option linter.unusedSimpArgs false
set_option linter.unusedVariables false
namespace Go.Proofs.YthejpoplbllcbaaGreatDoor
open Go Go.Abs
theorem FsV.one {v l} (h : FsV v l) : v.known = true ∧ v.one = true ∧ v.cells = [v] := by
 rcases h with ⟨_,rfl⟩ | ⟨b,_,rfl,_⟩ <;> simp
end Go.Proofs.YthejpoplbllcbaaGreatDoor
set_option linter.unusedSimpArgs false
set_option linter.unusedVariables false
namespace Go.Proofs.YthejpoplbllcbaaGreatDoor
open Go Go.Abs
def MU (r n : Nat) (a : Nat → AV) (_ : AS) : Nat := match a r with | .int _ i => n - i.toNat | _ => 0
theorem IntsV.len {tv : AV} {ts : List Int} (h : IntsV tv ts) (K : AV → Prop) : alen Tryz.prog 38 tv K = K (.int .i64 (ts.length : Int)) := by
 rcases h with ⟨rfl,rfl⟩ | ⟨b,rfl⟩ <;> simp
theorem FsV.len {fv : AV} {fs : List F} (h : FsV fv fs) (K : AV → Prop) : alen Tryz.prog 25 fv K = K (.int .i64 (fs.length : Int)) := by
 rcases h with ⟨rfl,rfl⟩ | ⟨b,rows,rfl,hr⟩
 ·simp
 ·simp [hr.length]
theorem ListsV.len {tv : AV} {ls : To} (h : ListsV tv ls) (K : AV → Prop) : alen Tryz.prog 49 tv K = K (.int .i64 (ls.length : Int)) := by
 rcases h with ⟨rfl,rfl⟩ | ⟨b,rows,rfl,hr⟩
 ·simp
 ·simp [hr.length]
theorem RepL.len {v : AV} {l : List W} (h : RepL v l) (K : AV → Prop) : alen Tryz.prog 61 v K = K (.int .i64 (l.length : Int)) := by
 rcases h with ⟨rfl,rfl⟩ | ⟨b,rfl⟩ <;> simp
theorem RepL.one {v l} (h : RepL v l) : v.known = true ∧ v.one = true ∧ v.cells = [v] := by
 rcases h with ⟨_,rfl⟩ | ⟨b,rfl⟩ <;> simp
theorem RepL.at {v : AV} {l : List W} (h : RepL v l) {i : Nat} (hi : i < l.length) : ∃ b,∀ K : AV → Prop,aindexAddr Tryz.prog 61 v (.int .i64 (i : Int)) K = K (.pv (.stat b) l[i].av) := by
 rcases h with ⟨rfl,_⟩ | ⟨b,rfl⟩
 ·simp at hi
 ·exact ⟨b,fun K=>by simp [hi]⟩
theorem IntsV.at {v : AV} {l : List Int} (h : IntsV v l) {i : Nat} (hi : i < l.length) : ∃ b,∀ K : AV → Prop,aindexAddr Tryz.prog 38 v (.int .i64 (i : Int)) K = K (.pv (.stat b) (.int .i64 l[i])) := by
 rcases h with ⟨rfl,_⟩ | ⟨b,rfl⟩
 ·simp at hi
 ·exact ⟨b,fun K=>by simp [hi]⟩
theorem ListsV.at {v : AV} {l : To} (h : ListsV v l) {i : Nat} (hi : i < l.length) : ∃ b rv,RepL rv l[i] ∧ ∀ K : AV → Prop,aindexAddr Tryz.prog 49 v (.int .i64 (i : Int)) K = K (.pv (.stat b) rv) := by
 rcases h with ⟨rfl,_⟩ | ⟨b,rows,rfl,hr⟩
 ·simp at hi
 ·obtain ⟨rv,h1,h2⟩:=hr.get (List.getElem?_eq_getElem hi)
  exact ⟨b,rv,h2,fun K=>by simp [h1]⟩
theorem FsV.at {v : AV} {l : List F} (h : FsV v l) {i : Nat} (hi : i < l.length) : ∃ b fv,FV fv l[i] ∧ ∀ K : AV → Prop,aindexAddr Tryz.prog 25 v (.int .i64 (i : Int)) K = K (.pv (.stat b) fv) := by
 rcases h with ⟨rfl,_⟩ | ⟨b,rows,rfl,hr⟩
 ·simp at hi
 ·obtain ⟨fv,h1,h2⟩:=hr.get (List.getElem?_eq_getElem hi)
  exact ⟨b,fv,h2,fun K=>by simp [h1]⟩
end Go.Proofs.YthejpoplbllcbaaGreatDoor
set_option linter.unusedSimpArgs false
set_option linter.unusedVariables false
namespace Go.Proofs.YthejpoplbllcbaaGreatDoor
open Go Go.Abs
def OutG (τ : AS) (base sz : Nat) (v : AV) (ys : List AV) : Prop := (ys = [] ∧ v = .nilsl) ∨ ∃ g,v = .sl (.fam g false) sz ys ∧ base ≤ g ∧ g < τ.nf ∧ τ.F g = .alive
theorem OutG.keep {τ τ' : AS} {base sz : Nat} {v : AV} {ys : List AV} (h : OutG τ base sz v ys) (A : Adds τ τ') : OutG τ' base sz v ys := by
 rcases h with h | ⟨g,rfl,h1,h2,h3⟩
 ·exact .inl h
 ·have:=A.nf
  exact .inr ⟨g,rfl,h1,by omega,(A.fam g h2).trans h3⟩
def CpI (sz : Nat) (v : AV) (xs : List AV) (σ : AS) (a : Nat → AV) (τ : AS) : Prop := ∃ i : Nat,i ≤ xs.length ∧ a 0 = v ∧ a 4 = .int .i64 (i : Int) ∧ OutG τ σ.nf sz (a 3) (xs.take i) ∧ Adds σ τ
theorem take_snoc {α : Type} {l : List α} {i : Nat} {x : α} (h : l[i]? = some x) : l.take (i + 1) = l.take i ++ [x] := by
 obtain ⟨hi,rfl⟩:=List.getElem?_eq_some_iff.1 h
 exact List.take_succ_eq_append_getElem hi
theorem copyInts_calls {G : Env} {v : AV} {l : List Int} {σ : AS} {R : Out → AS → Prop} (hv : IntsV v l) (hl : l.length ≤ 2 ^ 40) (h : ∀ v' σ',IntsV v' l → Adds σ σ' → R (.ret v') σ') : ACalls Tryz.prog G 113 [v] σ R := by
 refine freezing (calls113 rfl ?_)
 have v1:=hv.one
 have v2:=hv.len
 simp [pc113]
 refine aloop (CpI 1 v (l.map (.int .i64)) σ) (MU 4 (l.length + 1)) ⟨0,by omega,by simp,by simp,.inl ⟨by simp,by simp⟩,.refl _⟩ fun a τ hI=>?_
 obtain ⟨i,hi,a0,a4,hO,hA⟩:=hI
 have hi : i ≤ l.length:=by simpa using hi
 by_cases hlt : i < l.length
 ·obtain ⟨b,hix⟩:=hv.at hlt
  have hget : (l.map (AV.int .i64))[i]? = some (.int .i64 l[i]):=by simp [hlt]
  have w1 : IntKind.wrap .i64 ((i : Int) + 1) = ((i + 1 : Nat) : Int):=by rw [wrap_i64] <;> omega
  have htl : (l.take i).length = i:=by simp; omega
  have ts:=take_snoc hget
  generalize l[i] = x at *
  rcases hO with ⟨he,h3⟩ | ⟨g,h3,h4,h5,h6⟩
  ·simp [pc113_l1,a0,a4,v1,v2,hlt,hix,h3,w1]
   refine ⟨⟨i + 1,by simp; omega,by simp [a0],by simp,.inr ⟨τ.nf,?_,hA.nf,by simp,by simp⟩,hA.newF⟩,?_⟩
   ·rw [ts,he]; simp
   ·simp only [MU,a4]; simp; omega
  ·simp [pc113_l1,a0,a4,v1,v2,hlt,hix,h3,w1,h6]
   have hgn:=hA.nf
   refine ⟨by omega,⟨i + 1,by simp; omega,by simp [a0],by simp,.inr ⟨τ.nf,?_,hgn,by simp,by simp⟩,?_⟩,?_⟩
   ·rw [ts]; simp
   ·exact ⟨by simpa using hA.no,by simp; omega,fun o ho=>by simpa using hA.obj o ho,fun f hf=>by
     have : f ≠ g:=by omega
     simp [this]
     rw [if_neg (by omega)]
     exact hA.fam f hf⟩
   ·simp only [MU,a4]; simp; omega
 ·have he : i = l.length:=by omega
  have hlt' : ¬ (i : Int) < (l.length : Int):=by omega
  have htk : (l.map (AV.int .i64)).take i = l.map (AV.int .i64):=List.take_of_length_le (by simp; omega)
  rw [htk] at hO
  rcases hO with ⟨hn,h3⟩ | ⟨g,h3,h4,h5,h6⟩
  ·simp [pc113_l1,pc113_r1,a0,a4,v1,v2,hlt,h3]
   exact .inl (h _ _ (.inl ⟨by simpa using hn,rfl⟩) hA)
  ·simp [pc113_l1,pc113_r1,a0,a4,v1,v2,hlt,h3]
   refine .froze g (fun _=>false) h6 ?_
   have:=h (.sl (.stat false) 1 (l.map (.int .i64))) (τ.frz g fun _=>false) (.inr ⟨_,rfl⟩) (hA.frz h4 fun _ _=>rfl)
   simpa [Function.comp_def] using this
theorem copyWs_calls {G : Env} {v : AV} {l : List W} {σ : AS} {R : Out → AS → Prop} (hv : RepL v l) (hl : l.length ≤ 2 ^ 40) (h : ∀ v' σ',RepL v' l → Adds σ σ' → R (.ret v') σ') : ACalls Tryz.prog G 130 [v] σ R := by
 refine freezing (calls130 rfl ?_)
 have v1:=hv.one
 have v2:=hv.len
 simp [pc130]
 refine aloop (CpI 6 v (l.map W.av) σ) (MU 4 (l.length + 1)) ⟨0,by omega,by simp,by simp,.inl ⟨by simp,by simp⟩,.refl _⟩ fun a τ hI=>?_
 obtain ⟨i,hi,a0,a4,hO,hA⟩:=hI
 have hi : i ≤ l.length:=by simpa using hi
 by_cases hlt : i < l.length
 ·obtain ⟨b,hix⟩:=hv.at hlt
  have hget : (l.map W.av)[i]? = some l[i].av:=by simp [hlt]
  have w1 : IntKind.wrap .i64 ((i : Int) + 1) = ((i + 1 : Nat) : Int):=by rw [wrap_i64] <;> omega
  have ts:=take_snoc hget
  generalize l[i] = x at *
  rcases hO with ⟨he,h3⟩ | ⟨g,h3,h4,h5,h6⟩
  ·simp [pc130_l1,a0,a4,v1,v2,hlt,hix,h3,w1,W.av,W.cs]
   refine ⟨⟨i + 1,by simp; omega,by simp [a0],by simp,.inr ⟨τ.nf,?_,hA.nf,by simp,by simp⟩,hA.newF⟩,?_⟩
   ·rw [ts,he]; simp [W.av,W.cs]
   ·simp only [MU,a4]; simp; omega
  ·have htl : ((l.map W.av).take i).length = i:=by simp; omega
   generalize (l.map W.av).take i = done at *
   simp [pc130_l1,a0,a4,v1,v2,hlt,hix,h3,w1,h6,W.av,W.cs]
   have hgn:=hA.nf
   refine ⟨by omega,⟨i + 1,by simp; omega,by simp [a0],by simp,.inr ⟨τ.nf,?_,hgn,by simp,by simp⟩,?_⟩,?_⟩
   ·rw [ts]; simp [W.av,W.cs]
   ·exact ⟨by simpa using hA.no,by simp; omega,fun o ho=>by simpa using hA.obj o ho,fun f hf=>by
     have : f ≠ g:=by omega
     simp [this]
     rw [if_neg (by omega)]
     exact hA.fam f hf⟩
   ·simp only [MU,a4]; simp; omega
 ·have he : i = l.length:=by omega
  have hlt' : ¬ (i : Int) < (l.length : Int):=by omega
  have htk : (l.map W.av).take i = l.map W.av:=List.take_of_length_le (by simp; omega)
  rw [htk] at hO
  rcases hO with ⟨hn,h3⟩ | ⟨g,h3,h4,h5,h6⟩
  ·simp [pc130_l1,pc130_r1,a0,a4,v1,v2,hlt,h3]
   exact .inl (h _ _ (.inl ⟨by simpa using hn,rfl⟩) hA)
  ·simp [pc130_l1,pc130_r1,a0,a4,v1,v2,hlt,h3]
   refine .froze g (fun _=>false) h6 ?_
   have:=h (.sl (.stat false) 6 (l.map W.av)) (τ.frz g fun _=>false) (.inr ⟨_,rfl⟩) (hA.frz h4 fun _ _=>rfl)
   rw [frz_sl_fam,if_pos rfl,frz_Ws]
   exact this
def CpL (v : AV) (l : To) (σ : AS) (a : Nat → AV) (τ : AS) : Prop := ∃ (i : Nat) (rows : List AV),i ≤ l.length ∧ a 0 = v ∧ a 4 = .int .i64 (i : Int) ∧ All2 RepL rows (l.take i) ∧ OutG τ σ.nf 1 (a 3) rows ∧ Adds σ τ
theorem copyLists_calls {G : Env} {v : AV} {l : To} {σ : AS} {R : Out → AS → Prop} (hv : ListsV v l) (hl : l.length ≤ 2 ^ 40) (hr : ∀ r ∈ l,r.length ≤ 2 ^ 40) (h : ∀ v' σ',ListsV v' l → Adds σ σ' → R (.ret v') σ') : ACalls Tryz.prog G 114 [v] σ R := by
 refine freezing (calls114 rfl ?_)
 have v1:=hv.one
 have v2:=hv.len
 simp [pc114]
 refine aloop (CpL v l σ) (MU 4 (l.length + 1)) ⟨0,[],by omega,by simp,by simp,by simpa using All2.nil,.inl ⟨rfl,by simp⟩,.refl _⟩ fun a τ hI=>?_
 obtain ⟨i,rows,hi,a0,a4,hR,hO,hA⟩:=hI
 by_cases hlt : i < l.length
 ·obtain ⟨b,rv,hrv,hix⟩:=hv.at hlt
  have hget : l[i]? = some l[i]:=List.getElem?_eq_getElem hlt
  have w1 : IntKind.wrap .i64 ((i : Int) + 1) = ((i + 1 : Nat) : Int):=by rw [wrap_i64] <;> omega
  have ts:=take_snoc hget
  have hrl:=hr _ (List.getElem_mem hlt)
  generalize l[i] = row at *
  have r1:=hrv.one
  have hlen : rows.length = i:=by rw [hR.length]; simp; omega
  simp [pc114_l1,a0,a4,v1,v2,hlt,hix,r1]
  refine copyWs_calls hrv hrl fun rv' σ1 hrv' A1=>?_
  have q1:=hrv'.one
  have hO1:=hO.keep A1
  have hA1:=hA.trans A1
  have hR1 : All2 RepL (rows ++ [rv']) (l.take (i + 1)):=by rw [ts]; exact hR.append (.cons hrv' .nil)
  have hgn:=hA1.nf
  rcases hO1 with ⟨rfl,h3⟩ | ⟨g,h3,h4,h5,h6⟩
  ·simp [q1,h3,w1,a4]
   refine ⟨⟨i + 1,[rv'],by omega,by simp [a0],by simp,by simpa using hR1,.inr ⟨σ1.nf,by simp,hgn,by simp,by simp⟩,hA1.newF⟩,?_⟩
   simp only [MU,a4]; simp; omega
  ·simp [q1,h3,w1,h6,a4]
   refine ⟨by omega,⟨i + 1,rows ++ [rv'],by omega,by simp [a0],by simp,hR1,.inr ⟨σ1.nf,by simp,hgn,by simp,by simp⟩,?_⟩,?_⟩
   ·exact ⟨by simpa using hA1.no,by simp; omega,fun o ho=>by simpa using hA1.obj o ho,fun f hf=>by
     have : f ≠ g:=by omega
     simp [this]
     rw [if_neg (by omega)]
     exact hA1.fam f hf⟩
   ·simp only [MU,a4]; simp; omega
 ·have hlt' : ¬ (i : Int) < (l.length : Int):=by omega
  have htk : l.take i = l:=List.take_of_length_le (by omega)
  rw [htk] at hR
  rcases hO with ⟨rfl,h3⟩ | ⟨g,h3,h4,h5,h6⟩
  ·simp [pc114_l1,pc114_r1,a0,a4,v1,v2,hlt,h3]
   have hn : l = []:=by have:=hR.length; exact List.length_eq_zero_iff.1 (by simpa using this.symm)
   exact .inl (h _ _ (.inl ⟨hn,rfl⟩) hA)
  ·simp [pc114_l1,pc114_r1,a0,a4,v1,v2,hlt,h3]
   refine .froze g (fun _=>false) h6 ?_
   have:=h (.sl (.stat false) 1 rows) (τ.frz g fun _=>false) (.inr ⟨_,_,rfl,hR⟩) (hA.frz h4 fun _ _=>rfl)
   rw [frz_sl_fam,if_pos rfl,frz_rows hR]
   exact this
theorem copyF_calls {G : Env} {v : AV} {f : F} {σ : AS} {R : Out → AS → Prop} (hv : FV v f) (h1 : f.params.length ≤ 2 ^ 40) (h2 : f.locals.length ≤ 2 ^ 40) (h3 : f.lists.length ≤ 2 ^ 40) (h4 : ∀ r ∈ f.lists,r.length ≤ 2 ^ 40) (h : ∀ v' σ',FV v' f → Adds σ σ' → R (.ret v') σ') : ACalls Tryz.prog G 90 [v] σ R := by
 refine calls90 rfl ?_
 obtain ⟨pv,lv,tv,rfl,hp,hl,ht⟩:=hv
 have p1:=hp.one
 have l1:=hl.one
 have t1:=ht.one
 simp [pc90,p1,l1,t1]
 have o1 : ((σ.newO [AV.str f.name,pv,lv,AV.int IntKind.i64 f.type,tv]).newO [AV.str [],AV.nilsl,AV.nilsl,AV.int IntKind.i64 0,AV.nilsl]).objs σ.no = some [AV.str f.name,pv,lv,AV.int IntKind.i64 f.type,tv]:=by simp
 have o2 : ((σ.newO [AV.str f.name,pv,lv,AV.int IntKind.i64 f.type,tv]).newO [AV.str [],AV.nilsl,AV.nilsl,AV.int IntKind.i64 0,AV.nilsl]).objs (σ.no + 1) = some [AV.str [],AV.nilsl,AV.nilsl,AV.int IntKind.i64 0,AV.nilsl]:=by simp
 have n1 : ((σ.newO [AV.str f.name,pv,lv,AV.int IntKind.i64 f.type,tv]).newO [AV.str [],AV.nilsl,AV.nilsl,AV.int IntKind.i64 0,AV.nilsl]).no = σ.no + 2:=by simp
 have A1 : Adds σ ((σ.newO [AV.str f.name,pv,lv,AV.int IntKind.i64 f.type,tv]).newO [AV.str [],AV.nilsl,AV.nilsl,AV.int IntKind.i64 0,AV.nilsl]):=(Adds.refl σ).newO.newO
 generalize (σ.newO [AV.str f.name,pv,lv,AV.int IntKind.i64 f.type,tv]).newO [AV.str [],AV.nilsl,AV.nilsl,AV.int IntKind.i64 0,AV.nilsl] = σ1 at *
 refine copyInts_calls hp h1 fun pv' σ2 hp' A2=>?_
 have p2:=hp'.one
 have o1:=(A2.obj _ (by omega)).trans o1
 have o2:=(A2.obj _ (by omega)).trans o2
 have n2:=A2.no
 have A2:=A1.trans A2
 simp [p2,o1,l1,splice]
 have o1 : (σ2.setO σ.no [AV.str f.name,pv',lv,AV.int IntKind.i64 f.type,tv]).objs σ.no = some [AV.str f.name,pv',lv,AV.int IntKind.i64 f.type,tv]:=by simp
 have o2 : (σ2.setO σ.no [AV.str f.name,pv',lv,AV.int IntKind.i64 f.type,tv]).objs (σ.no + 1) = some [AV.str [],AV.nilsl,AV.nilsl,AV.int IntKind.i64 0,AV.nilsl]:=by simp [o2]
 have n3 : (σ2.setO σ.no [AV.str f.name,pv',lv,AV.int IntKind.i64 f.type,tv]).no = σ2.no:=by simp
 have A3 : Adds σ (σ2.setO σ.no [AV.str f.name,pv',lv,AV.int IntKind.i64 f.type,tv]):=A2.setO (Nat.le_refl _)
 generalize σ2.setO σ.no [AV.str f.name,pv',lv,AV.int IntKind.i64 f.type,tv] = σ3 at *
 refine copyInts_calls hl h2 fun lv' σ4 hl' A4=>?_
 have l2:=hl'.one
 have o1:=(A4.obj _ (by omega)).trans o1
 have o2:=(A4.obj _ (by omega)).trans o2
 have n4:=A4.no
 have A4:=A3.trans A4
 simp [p2,l2,o1,t1,splice]
 have o1 : (σ4.setO σ.no [AV.str f.name,pv',lv',AV.int IntKind.i64 f.type,tv]).objs σ.no = some [AV.str f.name,pv',lv',AV.int IntKind.i64 f.type,tv]:=by simp
 have o2 : (σ4.setO σ.no [AV.str f.name,pv',lv',AV.int IntKind.i64 f.type,tv]).objs (σ.no + 1) = some [AV.str [],AV.nilsl,AV.nilsl,AV.int IntKind.i64 0,AV.nilsl]:=by simp [o2]
 have n5 : (σ4.setO σ.no [AV.str f.name,pv',lv',AV.int IntKind.i64 f.type,tv]).no = σ4.no:=by simp
 have A5 : Adds σ (σ4.setO σ.no [AV.str f.name,pv',lv',AV.int IntKind.i64 f.type,tv]):=A4.setO (Nat.le_refl _)
 generalize σ4.setO σ.no [AV.str f.name,pv',lv',AV.int IntKind.i64 f.type,tv] = σ5 at *
 refine copyLists_calls ht h3 h4 fun tv' σ6 ht' A6=>?_
 have t2:=ht'.one
 have o1:=(A6.obj _ (by omega)).trans o1
 have o2:=(A6.obj _ (by omega)).trans o2
 have n6:=A6.no
 have A6:=A5.trans A6
 simp [p2,l2,t2,o1,o2,splice]
 exact h _ _ ⟨pv',lv',tv',rfl,hp',hl',ht'⟩ ((A6.setO (Nat.le_refl _)).setO (by omega))
def CpF (v : AV) (l : List F) (σ : AS) (a : Nat → AV) (τ : AS) : Prop := ∃ (i : Nat) (rows : List AV),i ≤ l.length ∧ a 0 = v ∧ a 4 = .int .i64 (i : Int) ∧ All2 FV rows (l.take i) ∧ OutG τ σ.nf 5 (a 3) rows ∧ Adds σ τ
theorem frz_fs {rows : List AV} {l : List F} (h : All2 FV rows l) (g : Nat) : rows.map (frz g) = rows := by
 induction h with
 | nil=>rfl
 | cons h r ih=>simp [h.frz g,ih]
theorem copyFs_calls {G : Env} {v : AV} {l : List F} {σ : AS} {R : Out → AS → Prop} (hv : FsV v l) (hl : l.length ≤ 2 ^ 40) (h1 : ∀ f ∈ l,f.params.length ≤ 2 ^ 40) (h2 : ∀ f ∈ l,f.locals.length ≤ 2 ^ 40) (h3 : ∀ f ∈ l,f.lists.length ≤ 2 ^ 40) (h4 : ∀ f ∈ l,∀ r ∈ f.lists,r.length ≤ 2 ^ 40)
  (h : ∀ v' σ',FsV v' l → Adds σ σ' → R (.ret v') σ') : ACalls Tryz.prog G 50 [v] σ R:=by
 refine freezing (calls50 rfl ?_)
 have v1:=hv.one
 have v2:=hv.len
 simp [pc50]
 refine aloop (CpF v l σ) (MU 4 (l.length + 1)) ⟨0,[],by omega,by simp,by simp,by simpa using All2.nil,.inl ⟨rfl,by simp⟩,.refl _⟩ fun a τ hI=>?_
 obtain ⟨i,rows,hi,a0,a4,hR,hO,hA⟩:=hI
 by_cases hlt : i < l.length
 ·obtain ⟨b,rv,hrv,hix⟩:=hv.at hlt
  have hget : l[i]? = some l[i]:=List.getElem?_eq_getElem hlt
  have w1 : IntKind.wrap .i64 ((i : Int) + 1) = ((i + 1 : Nat) : Int):=by rw [wrap_i64] <;> omega
  have ts:=take_snoc hget
  have hm:=List.getElem_mem hlt
  have b1:=h1 _ hm
  have b2:=h2 _ hm
  have b3:=h3 _ hm
  have b4:=h4 _ hm
  generalize l[i] = f at *
  have hlen : rows.length = i:=by rw [hR.length]; simp; omega
  have hrv0:=hrv
  obtain ⟨pv,lv,tv,rfl,hp,hll,ht⟩:=hrv
  have p1:=hp.one
  have l1:=hll.one
  have t1:=ht.one
  simp [pc50_l1,a0,a4,v1,v2,hlt,hix,p1,l1,t1]
  refine copyF_calls hrv0 b1 b2 b3 b4 fun rv' σ1 hrv' A1=>?_
  have hO1:=hO.keep A1
  have hA1:=hA.trans A1
  have hR1 : All2 FV (rows ++ [rv']) (l.take (i + 1)):=by rw [ts]; exact hR.append (.cons hrv' .nil)
  have hgn:=hA1.nf
  obtain ⟨pv',lv',tv',rfl,hp',hl',ht'⟩:=hrv'
  have p2:=hp'.one
  have l2:=hl'.one
  have t2:=ht'.one
  rcases hO1 with ⟨rfl,h3⟩ | ⟨g,h3,h4,h5,h6⟩
  ·simp [p2,l2,t2,h3,w1,a4]
   refine ⟨⟨i + 1,_,by omega,by simp [a0],by simp,by simpa using hR1,.inr ⟨σ1.nf,by simp,hgn,by simp,by simp⟩,hA1.newF⟩,?_⟩
   simp only [MU,a4]; simp; omega
  ·simp [p2,l2,t2,h3,w1,h6,a4]
   refine ⟨by omega,⟨i + 1,_,by omega,by simp [a0],by simp,hR1,.inr ⟨σ1.nf,by simp,hgn,by simp,by simp⟩,?_⟩,?_⟩
   ·exact ⟨by simpa using hA1.no,by simp; omega,fun o ho=>by simpa using hA1.obj o ho,fun f hf=>by
     have : f ≠ g:=by omega
     simp [this]
     rw [if_neg (by omega)]
     exact hA1.fam f hf⟩
   ·simp only [MU,a4]; simp; omega
 ·have hlt' : ¬ (i : Int) < (l.length : Int):=by omega
  have htk : l.take i = l:=List.take_of_length_le (by omega)
  rw [htk] at hR
  rcases hO with ⟨rfl,h3⟩ | ⟨g,h3,h4,h5,h6⟩
  ·simp [pc50_l1,pc50_r1,a0,a4,v1,v2,hlt,h3]
   have hn : l = []:=by have:=hR.length; exact List.length_eq_zero_iff.1 (by simpa using this.symm)
   exact .inl (h _ _ (.inl ⟨hn,rfl⟩) hA)
  ·simp [pc50_l1,pc50_r1,a0,a4,v1,v2,hlt,h3]
   refine .froze g (fun _=>false) h6 ?_
   have:=h (.sl (.stat false) 5 rows) (τ.frz g fun _=>false) (.inr ⟨_,_,rfl,hR⟩) (hA.frz h4 fun _ _=>rfl)
   rw [frz_sl_fam,if_pos rfl,frz_fs hR]
   exact this
theorem copyM_calls {G : Env} {mv : AV} {m : M} {σ : AS} {R : Out → AS → Prop} (hm : MV mv m) (hl : m.funcs.length ≤ 2 ^ 40) (h1 : ∀ f ∈ m.funcs,f.params.length ≤ 2 ^ 40) (h2 : ∀ f ∈ m.funcs,f.locals.length ≤ 2 ^ 40) (h3 : ∀ f ∈ m.funcs,f.lists.length ≤ 2 ^ 40) (h4 : ∀ f ∈ m.funcs,∀ r ∈ f.lists,r.length ≤ 2 ^ 40)
  (h : ∀ v' σ',MV v' m → Adds σ σ' → R (.ret v') σ') : ACalls Tryz.prog G 21 [mv] σ R:=by
 refine calls21 rfl ?_
 obtain ⟨fv,rfl,hfs⟩:=hm
 have f1:=hfs.one
 simp [pc21,f1]
 refine copyFs_calls hfs hl h1 h2 h3 h4 fun fv' σ2 hfs' A2=>?_
 have f2:=hfs'.one
 have o1:=A2.obj σ.no (by simp; omega)
 have o2:=A2.obj (σ.no + 1) (by simp)
 have hn:=A2.no
 simp at o1 o2
 simp at hn
 simp [f2,o1,o2,splice]
 have A : Adds σ σ2:=(Adds.refl σ).newO.newO.trans A2
 exact h _ _ ⟨fv',rfl,hfs'⟩ ((A.setO (Nat.le_refl _)).setO (by omega))
end Go.Proofs.YthejpoplbllcbaaGreatDoor
set_option linter.unusedSimpArgs false
set_option linter.unusedVariables false
namespace Go.Proofs.YthejpoplbllcbaaGreatDoor
open Go Go.Abs
theorem Adds.mk1 {σ : AS} {c1 c2} : Adds σ ((σ.newO c1).setO σ.no c2) := ((Adds.refl σ).newO).setO (Nat.le_refl _)
def SlW (σ : AS) (v : AV) (l : List W) : Prop := (l = [] ∧ v = .nilsl) ∨ ∃ φ,v = .sl φ 6 (l.map W.av) ∧ Readable σ.F φ
theorem aeqW (w u : W) : aeq Tryz.prog 73 (.agg [.int .i64 w.op,.int .i64 w.ty,.int .i64 w.n,.int .i64 w.body,.int .i64 w.other,.str w.name]) (.agg [.int .i64 u.op,.int .i64 u.ty,.int .i64 u.n,.int .i64 u.body,.int .i64 u.other,.str u.name]) = some (decide (w = u)) := by
 simp [aeq,aeqFs]
 have key : (w = u) ↔ (w.op = u.op ∧ w.ty = u.ty ∧ w.n = u.n ∧ w.body = u.body ∧ w.other = u.other ∧ w.name = u.name):=by
  constructor
  ·rintro rfl; simp
  ·rintro ⟨h1,h2,h3,h4,h5,h6⟩
   cases w; cases u; simp_all
 by_cases h1 : w.op = u.op <;> by_cases h2 : w.ty = u.ty <;> by_cases h3 : w.n = u.n <;> by_cases h4 : w.body = u.body <;> by_cases h5 : w.other = u.other <;> by_cases h6 : w.name = u.name <;> simp [key,h1,h2,h3,h4,h5,h6]
def SI (va vb : AV) (a b : List W) (σ : AS) (f : Nat → AV) (τ : AS) : Prop := ∃ i : Nat,i ≤ a.length ∧ f 0 = va ∧ f 1 = vb ∧ f 5 = .int .i64 (i : Int) ∧ a.take i = b.take i ∧ τ = σ
def SM (a : List W) (f : Nat → AV) (_ : AS) : Nat := match f 5 with
 | .int _ n=>a.length - n.toNat
 | _=>0
theorem same_calls {G : Env} {va vb : AV} {a b : List W} {σ : AS} {R : Out → AS → Prop} (ha : SlW σ va a) (hb : SlW σ vb b) (hl : a.length ≤ 2 ^ 30) (h : R (.ret (.bool (decide (a = b)))) σ) : ACalls Tryz.prog G 120 [va,vb] σ R := by
 refine calls120 rfl ?_
 by_cases hab : a.length = b.length
 ·have loop : ∀ f,f 0 = va → f 1 = vb → f 5 = .int .i64 0 → ALoop Tryz.prog G 27 pc120_l1 (ablock 0 (athen (avc Tryz.prog G 27 pc120_r1 (afin Tryz.prog [.tmp 4] R)) (afin Tryz.prog [.tmp 4] R))) f σ:=by
   intro f f0 f1 f5
   refine aloop (SI va vb a b σ) (SM a) ⟨0,Nat.zero_le _,f0,f1,by simpa using f5,by simp,rfl⟩ fun f τ ⟨i,hi,f0,f1,f5,ht,hτ⟩=>?_
   subst hτ
   have hmu : SM a f τ = a.length - i:=by simp [SM,f5]
   by_cases hlt : i < a.length
   ·have hltb : i < b.length:=by omega
    obtain ⟨φ,rfl,hφ⟩ : ∃ φ,va = .sl φ 6 (a.map W.av) ∧ Readable τ.F φ:=by
     rcases ha with ⟨rfl,_⟩ | ha
     ·simp at hlt
     ·exact ha
    obtain ⟨ψ,rfl,hψ⟩ : ∃ φ,vb = .sl φ 6 (b.map W.av) ∧ Readable τ.F φ:=by
     rcases hb with ⟨rfl,_⟩ | hb
     ·simp at hltb
     ·exact hb
    have hw2 : IntKind.wrap .i64 ((i : Int) + 1) = (i : Int) + 1:=by rw [wrap_i64] <;> omega
    have ea : a.take (i + 1) = a.take i ++ [a[i]]:=by simp
    have eb : b.take (i + 1) = b.take i ++ [b[i]]:=by simp
    by_cases hw : a[i] = b[i]
    ·simp [pc120_l1,f0,f1,f5,hlt,hltb,W.av,W.cs,hφ,hψ,aeqW,hw,hw2]
     refine ⟨⟨i + 1,hlt,by simp [f0,W.av,W.cs],by simp [f1,W.av,W.cs],by simp,by rw [ea,eb,ht,hw],rfl⟩,?_⟩
     rw [hmu]
     have : ((i : Int) + 1).toNat = i + 1:=by omega
     simp [SM,this]; omega
    ·have hne : ¬ a = b:=fun e=>hw (by subst e; rfl)
     simp [hne] at h
     simp [pc120_l1,f0,f1,f5,hlt,hltb,W.av,W.cs,hφ,hψ,aeqW,hw,hw2,h]
   ·have he : i = a.length:=by omega
    subst he
    have e : a = b:=by rw [List.take_length,hab,List.take_length] at ht; exact ht
    have hla : a.length = b.length:=hab
    simp [e] at h
    rcases ha with ⟨rfl,rfl⟩ | ⟨φ,rfl,hφ⟩
    ·simp [pc120_l1,pc120_r1,f0,f1,f5,h]
    ·simp [pc120_l1,pc120_r1,f0,f1,f5,h]
  rcases ha with ⟨rfl,rfl⟩ | ⟨φ,rfl,hφ⟩ <;> rcases hb with ⟨rfl,rfl⟩ | ⟨ψ,rfl,hψ⟩
  ·simp [pc120]
   refine loop _ ?_ ?_ ?_ <;> simp
  ·simp at hab
   simp [pc120,← hab]
   refine loop _ ?_ ?_ ?_ <;> simp
  ·simp at hab
   subst hab
   simp [pc120]
   refine loop _ ?_ ?_ ?_ <;> simp
  ·simp [pc120,hab]
   refine loop _ ?_ ?_ ?_ <;> simp
 ·have hne : ¬ a = b:=fun e=>hab (by rw [e])
  have hi : ¬ (a.length : Int) = b.length:=by omega
  simp [hne] at h
  rcases ha with ⟨rfl,rfl⟩ | ⟨φ,rfl,hφ⟩ <;> rcases hb with ⟨rfl,rfl⟩ | ⟨ψ,rfl,hψ⟩
  ·simp at hab
  ·simp at hab
   have hi' : ¬ (0 : Int) = b.length:=by simpa using hi
   simp [pc120,hi',h]
  ·simp at hab
   have hi' : ¬ (a.length : Int) = 0:=by simpa using hi
   simp [pc120,hab,h]
  ·simp [pc120,hi,h]
end Go.Proofs.YthejpoplbllcbaaGreatDoor
set_option linter.unusedSimpArgs false
set_option linter.unusedVariables false
namespace Go.Proofs.YthejpoplbllcbaaGreatDoor.Al
open Go Go.Abs Go.Proofs.YthejpoplbllcbaaGreatDoor
def Rd (σ : AS) : Go.Abs.Own → Prop
 | .stat _=>True
 | .fam f _=>f < σ.nf ∧ σ.F f = .alive
theorem Rd.read {σ φ} (h : Rd σ φ) : Readable σ.F φ := by
 cases φ with
 | stat b=>exact trivial
 | fam f b=>exact h.2
theorem Rd.keep {σ σ' φ} (h : Rd σ φ) (A : Adds σ σ') : Rd σ' φ := by
 cases φ with
 | stat b=>exact trivial
 | fam f b=>exact ⟨by have:=A.nf; have:=h.1; omega,(A.fam f h.1).trans h.2⟩
def IntsO (σ : AS) (v : AV) (l : List Int) : Prop := (l = [] ∧ v = .nilsl) ∨ ∃ φ,v = .sl φ 1 (l.map (.int .i64)) ∧ Rd σ φ
def RepO (σ : AS) (v : AV) (l : List W) : Prop := (l = [] ∧ v = .nilsl) ∨ ∃ φ,v = .sl φ 6 (l.map W.av) ∧ Rd σ φ
def LstO (σ : AS) (v : AV) (l : To) : Prop := (l = [] ∧ v = .nilsl) ∨ ∃ φ rows,v = .sl φ 1 rows ∧ Rd σ φ ∧ All2 (RepO σ) rows l
def FVO (σ : AS) (v : AV) (f : F) : Prop := ∃ pv lv tv,v = .agg [.str f.name,pv,lv,.int .i64 f.type,tv] ∧ IntsO σ pv f.params ∧ IntsO σ lv f.locals ∧ LstO σ tv f.lists
def FsO (σ : AS) (v : AV) (l : List F) : Prop := (l = [] ∧ v = .nilsl) ∨ ∃ φ rows,v = .sl φ 5 rows ∧ Rd σ φ ∧ All2 (FVO σ) rows l
def MO (σ : AS) (v : AV) (m : M) : Prop := ∃ fv,v = .agg [fv,.int .i64 m.memory,.int .i64 m.main] ∧ FsO σ fv m.funcs
theorem IntsO.one {σ v l} (h : IntsO σ v l) : v.known = true ∧ v.one = true ∧ v.cells = [v] := by rcases h with ⟨_,rfl⟩ | ⟨b,rfl,_⟩ <;> simp
theorem RepO.one {σ v l} (h : RepO σ v l) : v.known = true ∧ v.one = true ∧ v.cells = [v] := by rcases h with ⟨_,rfl⟩ | ⟨b,rfl,_⟩ <;> simp
theorem LstO.one {σ v l} (h : LstO σ v l) : v.known = true ∧ v.one = true ∧ v.cells = [v] := by rcases h with ⟨_,rfl⟩ | ⟨b,_,rfl,_⟩ <;> simp
theorem FsO.one {σ v l} (h : FsO σ v l) : v.known = true ∧ v.one = true ∧ v.cells = [v] := by rcases h with ⟨_,rfl⟩ | ⟨b,_,rfl,_⟩ <;> simp
theorem IntsO.keep {σ σ' v l} (h : IntsO σ v l) (A : Adds σ σ') : IntsO σ' v l := by
 rcases h with h | ⟨φ,h,r⟩
 ·exact .inl h
 ·exact .inr ⟨φ,h,r.keep A⟩
theorem RepO.keep {σ σ' v l} (h : RepO σ v l) (A : Adds σ σ') : RepO σ' v l := by
 rcases h with h | ⟨φ,h,r⟩
 ·exact .inl h
 ·exact .inr ⟨φ,h,r.keep A⟩
theorem all2_mono {α β : Type} {R S : α → β → Prop} {xs ys} (h : All2 R xs ys) (hs : ∀ x y,R x y → S x y) : All2 S xs ys := by
 induction h with
 | nil=>exact .nil
 | cons h r ih=>exact .cons (hs _ _ h) ih
theorem LstO.keep {σ σ' v l} (h : LstO σ v l) (A : Adds σ σ') : LstO σ' v l := by
 rcases h with h | ⟨φ,rows,h,r,k⟩
 ·exact .inl h
 ·exact .inr ⟨φ,rows,h,r.keep A,all2_mono k fun _ _ q=>q.keep A⟩
theorem FVO.keep {σ σ' v l} (h : FVO σ v l) (A : Adds σ σ') : FVO σ' v l := by
 obtain ⟨pv,lv,tv,h,a,b,c⟩:=h
 exact ⟨pv,lv,tv,h,a.keep A,b.keep A,c.keep A⟩
theorem FsO.keep {σ σ' v l} (h : FsO σ v l) (A : Adds σ σ') : FsO σ' v l := by
 rcases h with h | ⟨φ,rows,h,r,k⟩
 ·exact .inl h
 ·exact .inr ⟨φ,rows,h,r.keep A,all2_mono k fun _ _ q=>q.keep A⟩
theorem MO.keep {σ σ' v m} (h : MO σ v m) (A : Adds σ σ') : MO σ' v m := by
 obtain ⟨fv,h,k⟩:=h
 exact ⟨fv,h,k.keep A⟩
theorem IntsO.len {σ v l} (h : IntsO σ v l) (K : AV → Prop) : alen Tryz.prog 38 v K = K (.int .i64 (l.length : Int)) := by rcases h with ⟨rfl,rfl⟩ | ⟨b,rfl,_⟩ <;> simp
theorem LstO.len {σ v l} (h : LstO σ v l) (K : AV → Prop) : alen Tryz.prog 49 v K = K (.int .i64 (l.length : Int)) := by
 rcases h with ⟨rfl,rfl⟩ | ⟨b,rows,rfl,_,hr⟩
 ·simp
 ·simp [hr.length]
theorem FsO.len {σ v l} (h : FsO σ v l) (K : AV → Prop) : alen Tryz.prog 25 v K = K (.int .i64 (l.length : Int)) := by
 rcases h with ⟨rfl,rfl⟩ | ⟨b,rows,rfl,_,hr⟩
 ·simp
 ·simp [hr.length]
theorem IntsO.at {σ v l} (h : IntsO σ v l) {i : Nat} (hi : i < l.length) : ∃ φ,Rd σ φ ∧ ∀ K : AV → Prop,aindexAddr Tryz.prog 38 v (.int .i64 (i : Int)) K = K (.pv φ (.int .i64 l[i])) := by
 rcases h with ⟨rfl,_⟩ | ⟨φ,rfl,r⟩
 ·simp at hi
 ·exact ⟨φ,r,fun K=>by simp [hi]⟩
theorem LstO.at {σ v l} (h : LstO σ v l) {i : Nat} (hi : i < l.length) : ∃ φ rv,Rd σ φ ∧ RepO σ rv l[i] ∧ ∀ K : AV → Prop,aindexAddr Tryz.prog 49 v (.int .i64 (i : Int)) K = K (.pv φ rv) := by
 rcases h with ⟨rfl,_⟩ | ⟨φ,rows,rfl,r,hr⟩
 ·simp at hi
 ·obtain ⟨rv,h1,h2⟩:=hr.get (List.getElem?_eq_getElem hi)
  exact ⟨φ,rv,r,h2,fun K=>by simp [h1]⟩
theorem FsO.at {σ v l} (h : FsO σ v l) {i : Nat} (hi : i < l.length) : ∃ φ rv,Rd σ φ ∧ FVO σ rv l[i] ∧ ∀ K : AV → Prop,aindexAddr Tryz.prog 25 v (.int .i64 (i : Int)) K = K (.pv φ rv) := by
 rcases h with ⟨rfl,_⟩ | ⟨φ,rows,rfl,r,hr⟩
 ·simp at hi
 ·obtain ⟨rv,h1,h2⟩:=hr.get (List.getElem?_eq_getElem hi)
  exact ⟨φ,rv,r,h2,fun K=>by simp [h1]⟩
def EI (va vb : AV) (n : Nat) (σ : AS) (a : Nat → AV) (τ : AS) : Prop := ∃ i : Nat,i ≤ n ∧ a 0 = va ∧ a 1 = vb ∧ a 5 = .int .i64 (i : Int) ∧ Adds σ τ
theorem eqInts_calls {G : Env} {σ : AS} {R : Out → AS → Prop} {va vb : AV} {l : List Int} (ha : IntsO σ va l) (hb : IntsO σ vb l) (hl : l.length ≤ 2 ^ 40) (h : ∀ σ',Adds σ σ' → R (.ret (.bool true)) σ') : ACalls Tryz.prog G 104 [va,vb] σ R := by
 refine calls104 rfl ?_
 have hal:=ha.len
 have hbl:=hb.len
 simp [pc104,hal,hbl]
 refine aloop (EI va vb l.length σ) (MU 5 (l.length + 1)) ⟨0,by omega,by simp,by simp,by simp,.refl _⟩ fun a τ hI=>?_
 obtain ⟨i,hi,a0,a1,a5,A⟩:=hI
 by_cases hlt : i < l.length
 ·obtain ⟨φ,r1,hx1⟩:=(ha.keep A).at hlt
  obtain ⟨ψ,r2,hx2⟩:=(hb.keep A).at hlt
  have q1:=r1.read
  have q2:=r2.read
  have w5 : IntKind.wrap .i64 ((i : Int) + 1) = ((i + 1 : Nat) : Int):=by rw [wrap_i64] <;> omega
  simp [pc104_l1,a0,a1,a5,hal,hlt,hx1,hx2,w5,q1,q2]
  refine ⟨⟨i + 1,by omega,by simp [a0],by simp [a1],by simp,A⟩,?_⟩
  simp only [MU,a5]; simp; omega
 ·simp [pc104_l1,pc104_r1,a0,a1,a5,hal,hlt]
  exact h _ A
theorem eqLists_calls {G : Env} {σ : AS} {R : Out → AS → Prop} {va vb : AV} {l : To} (ha : LstO σ va l) (hb : LstO σ vb l) (hl : l.length ≤ 2 ^ 40) (hr : ∀ r ∈ l,r.length ≤ 2 ^ 30) (h : ∀ σ',Adds σ σ' → R (.ret (.bool true)) σ') : ACalls Tryz.prog G 105 [va,vb] σ R := by
 refine calls105 rfl ?_
 have hal:=ha.len
 have hbl:=hb.len
 simp [pc105,hal,hbl]
 refine aloop (EI va vb l.length σ) (MU 5 (l.length + 1)) ⟨0,by omega,by simp,by simp,by simp,.refl _⟩ fun a τ hI=>?_
 obtain ⟨i,hi,a0,a1,a5,A⟩:=hI
 by_cases hlt : i < l.length
 ·obtain ⟨φ,rv1,r1,e1,hx1⟩:=(ha.keep A).at hlt
  obtain ⟨ψ,rv2,r2,e2,hx2⟩:=(hb.keep A).at hlt
  have q1:=r1.read
  have q2:=r2.read
  have o1:=e1.one
  have o2:=e2.one
  have hrl:=hr _ (List.getElem_mem hlt)
  have w5 : IntKind.wrap .i64 ((i : Int) + 1) = ((i + 1 : Nat) : Int):=by rw [wrap_i64] <;> omega
  have sl : ∀ {v : AV} {r : List W},RepO τ v r → SlW τ v r:=fun h=>by
   rcases h with ⟨h1,h2⟩ | ⟨φ,h1,h2⟩
   ·exact .inl ⟨h1,h2⟩
   ·exact .inr ⟨φ,h1,h2.read⟩
  simp [pc105_l1,a0,a1,a5,hal,hlt,hx1,hx2,q1,q2,o1,o2]
  refine same_calls (sl e1) (sl e2) hrl ?_
  simp [w5,a5]
  refine ⟨⟨i + 1,by omega,by simp [a0],by simp [a1],by simp,A⟩,?_⟩
  simp only [MU,a5]; simp; omega
 ·simp [pc105_l1,pc105_r1,a0,a1,a5,hal,hlt]
  exact h _ A
structure SzE (f : F) : Prop where
 params : f.params.length ≤ 2 ^ 40
 locals : f.locals.length ≤ 2 ^ 40
 lists : f.lists.length ≤ 2 ^ 40
 rows : ∀ r ∈ f.lists,r.length ≤ 2 ^ 30
theorem eqF_calls {G : Env} {σ : AS} {R : Out → AS → Prop} {va vb : AV} {f : F} (ha : FVO σ va f) (hb : FVO σ vb f) (hs : SzE f) (h : ∀ σ',Adds σ σ' → R (.ret (.bool true)) σ') : ACalls Tryz.prog G 76 [va,vb] σ R := by
 refine calls76 rfl ?_
 obtain ⟨pa,la,ta,rfl,hpa,hla,hta⟩:=ha
 obtain ⟨pb,lb,tb,rfl,hpb,hlb,htb⟩:=hb
 have a1:=hpa.one
 have a2:=hla.one
 have a3:=hta.one
 have b1:=hpb.one
 have b2:=hlb.one
 have b3:=htb.one
 simp [pc76,a1,a2,a3,b1,b2,b3]
 have A1 : Adds σ ((σ.newO [AV.str f.name,pa,la,AV.int IntKind.i64 f.type,ta]).newO [AV.str f.name,pb,lb,AV.int IntKind.i64 f.type,tb]):=(Adds.refl σ).newO.newO
 have oa : ((σ.newO [AV.str f.name,pa,la,AV.int IntKind.i64 f.type,ta]).newO [AV.str f.name,pb,lb,AV.int IntKind.i64 f.type,tb]).objs σ.no = some [AV.str f.name,pa,la,AV.int IntKind.i64 f.type,ta]:=by simp
 have ob : ((σ.newO [AV.str f.name,pa,la,AV.int IntKind.i64 f.type,ta]).newO [AV.str f.name,pb,lb,AV.int IntKind.i64 f.type,tb]).objs (σ.no + 1) = some [AV.str f.name,pb,lb,AV.int IntKind.i64 f.type,tb]:=by simp
 have n1 : ((σ.newO [AV.str f.name,pa,la,AV.int IntKind.i64 f.type,ta]).newO [AV.str f.name,pb,lb,AV.int IntKind.i64 f.type,tb]).no = σ.no + 2:=by simp
 generalize (σ.newO [AV.str f.name,pa,la,AV.int IntKind.i64 f.type,ta]).newO [AV.str f.name,pb,lb,AV.int IntKind.i64 f.type,tb] = σ1 at *
 refine eqInts_calls (hpa.keep A1) (hpb.keep A1) hs.params fun σ2 A2=>?_
 have oa2:=(A2.obj _ (by omega)).trans oa
 have ob2:=(A2.obj _ (by omega)).trans ob
 have n2:=A2.no
 have B2:=A1.trans A2
 simp [oa2,ob2,a1,a2,a3,b1,b2,b3]
 refine eqInts_calls (hla.keep B2) (hlb.keep B2) hs.locals fun σ3 A3=>?_
 have oa3:=(A3.obj _ (by omega)).trans oa2
 have ob3:=(A3.obj _ (by omega)).trans ob2
 have B3:=B2.trans A3
 simp [oa3,ob3,a1,a2,a3,b1,b2,b3]
 refine eqLists_calls (hta.keep B3) (htb.keep B3) hs.lists hs.rows fun σ4 A4=>?_
 simp
 exact h _ (B3.trans A4)
theorem eqFs_calls {G : Env} {σ : AS} {R : Out → AS → Prop} {va vb : AV} {l : List F} (ha : FsO σ va l) (hb : FsO σ vb l) (hl : l.length ≤ 2 ^ 40) (hs : ∀ f ∈ l,SzE f) (h : ∀ σ',Adds σ σ' → R (.ret (.bool true)) σ') : ACalls Tryz.prog G 35 [va,vb] σ R := by
 refine calls35 rfl ?_
 have hal:=ha.len
 have hbl:=hb.len
 simp [pc35,hal,hbl]
 refine aloop (EI va vb l.length σ) (MU 5 (l.length + 1)) ⟨0,by omega,by simp,by simp,by simp,.refl _⟩ fun a τ hI=>?_
 obtain ⟨i,hi,a0,a1,a5,A⟩:=hI
 by_cases hlt : i < l.length
 ·obtain ⟨φ,rv1,r1,e1,hx1⟩:=(ha.keep A).at hlt
  obtain ⟨ψ,rv2,r2,e2,hx2⟩:=(hb.keep A).at hlt
  have q1:=r1.read
  have q2:=r2.read
  have hsz:=hs _ (List.getElem_mem hlt)
  generalize l[i] = f at *
  have w5 : IntKind.wrap .i64 ((i : Int) + 1) = ((i + 1 : Nat) : Int):=by rw [wrap_i64] <;> omega
  have f1:=e1
  have f2:=e2
  obtain ⟨pa,la,ta,rfl,hpa,hla,hta⟩:=e1
  obtain ⟨pb,lb,tb,rfl,hpb,hlb,htb⟩:=e2
  have o1:=hpa.one
  have o2:=hla.one
  have o3:=hta.one
  have o4:=hpb.one
  have o5:=hlb.one
  have o6:=htb.one
  simp [pc35_l1,a0,a1,a5,hal,hlt,hx1,hx2,q1,q2,o1,o2,o3,o4,o5,o6]
  refine eqF_calls f1 f2 hsz fun σ2 A2=>?_
  simp [w5,a5]
  refine ⟨⟨i + 1,by omega,by simp [a0],by simp [a1],by simp,A.trans A2⟩,?_⟩
  simp only [MU,a5]; simp; omega
 ·simp [pc35_l1,pc35_r1,a0,a1,a5,hal,hlt]
  exact h _ A
theorem eqM_calls {G : Env} {σ : AS} {R : Out → AS → Prop} {va vb : AV} {m : M} (ha : MO σ va m) (hb : MO σ vb m) (hl : m.funcs.length ≤ 2 ^ 40) (hs : ∀ f ∈ m.funcs,SzE f) (h : ∀ σ',Adds σ σ' → R (.ret (.bool true)) σ') : ACalls Tryz.prog G 10 [va,vb] σ R := by
 refine calls10 rfl ?_
 obtain ⟨fa,rfl,hfa⟩:=ha
 obtain ⟨fb,rfl,hfb⟩:=hb
 have a1:=hfa.one
 have b1:=hfb.one
 simp [pc10,a1,b1]
 have A1 : Adds σ ((σ.newO [fa,AV.int IntKind.i64 m.memory,AV.int IntKind.i64 m.main]).newO [fb,AV.int IntKind.i64 m.memory,AV.int IntKind.i64 m.main]):=(Adds.refl σ).newO.newO
 refine eqFs_calls (hfa.keep A1) (hfb.keep A1) hl hs fun σ2 A2=>?_
 simp
 exact h _ (A1.trans A2)
theorem rep_o {σ : AS} {v l} (h : RepL v l) : RepO σ v l := by
 rcases h with h | ⟨b,h⟩
 ·exact .inl h
 ·exact .inr ⟨_,h,trivial⟩
theorem ints_o {σ : AS} {v l} (h : IntsV v l) : IntsO σ v l := by
 rcases h with h | ⟨b,h⟩
 ·exact .inl h
 ·exact .inr ⟨_,h,trivial⟩
theorem lists_o {σ : AS} {v l} (h : ListsV v l) : LstO σ v l := by
 rcases h with h | ⟨b,rows,h,k⟩
 ·exact .inl h
 ·exact .inr ⟨_,rows,h,trivial,all2_mono k fun _ _ q=>rep_o q⟩
theorem m_o {σ : AS} {v m} (h : MV v m) : MO σ v m := by
 obtain ⟨fv,rfl,hf⟩:=h
 refine ⟨fv,rfl,?_⟩
 rcases hf with h | ⟨b,rows,h,k⟩
 ·exact .inl h
 ·refine .inr ⟨_,rows,h,trivial,all2_mono k fun _ _ q=>?_⟩
  obtain ⟨pv,lv,tv,h,a,b,c⟩:=q
  exact ⟨pv,lv,tv,h,ints_o a,ints_o b,lists_o c⟩
end Go.Proofs.YthejpoplbllcbaaGreatDoor.Al
set_option linter.unusedSimpArgs false
set_option linter.unusedVariables false
namespace Go.Proofs.YthejpoplbllcbaaGreatDoor
open Go Go.Abs
def NewB (σ σ' : AS) (v : AV) (bs : List UInt8) : Prop := OutG σ' σ.nf 1 v (B bs) ∧ Adds σ σ'
section
variable {G : Env} {σ : AS} {R : Out → AS → Prop}
def UnI (n0 : Int) (σ : AS) (a : Nat → AV) (τ : AS) : Prop := ∃ (k : Nat) (n : Int) (bs : List UInt8),1 ≤ k ∧ k ≤ 10 ∧ n < 128 ^ k ∧ bs ++ uF k n = uI n0 ∧ bs.length + k ≤ 10 ∧ a 0 = .int .i64 n ∧ ((bs = [] ∧ a 3 = .nilsl) ∨ ∃ g,a 3 = .sl (.fam g false) 1 (B bs) ∧ σ.nf ≤ g ∧ g < τ.nf ∧ τ.F g = .alive) ∧ Adds σ τ
def MUn (r : Nat) (a : Nat → AV) (_ : AS) : Nat := match a r with | .int _ i => i.toNat | _ => 0
theorem u_calls {n : Int} (hn : n < 2 ^ 63) (h : ∀ v σ',NewB σ σ' v (uI n) → R (.ret v) σ') : ACalls Tryz.prog G 15 [.int .i64 n] σ R := by
 refine calls15 rfl ?_
 simp [pc15]
 refine aloop (UnI n σ) (MUn 0) ⟨10,n,[],by omega,by omega,by omega,rfl,by simp,by simp,.inl ⟨rfl,by simp⟩,.refl _⟩ fun a τ hI=>?_
 obtain ⟨k,m,bs,h1,h2,h3,h4,h5,a0,hO,hA⟩:=hI
 obtain ⟨k,rfl⟩ : ∃ j,k = j + 1:=⟨k - 1,by omega⟩
 rw [uF] at h4
 by_cases hm : m ≤ 127
 ·rw [if_pos hm] at h4
  have hm' : ¬ 127 < m:=by omega
  have hbl : (B bs).length = bs.length:=by simp [B]
  have hBa : B bs ++ [AV.int .u8 ((byteI m).toNat : Int)] = B (bs ++ [byteI m]):=by simp [B]
  rcases hO with ⟨rfl,a3⟩ | ⟨g,a3,g1,g2,g3⟩
  ·simp [pc15_l1,pc15_r1,a0,a3,hm',wrap_u8]
   refine h _ _ ⟨.inr ⟨τ.nf,?_,hA.nf,by simp,by simp⟩,hA.newF⟩
   rw [← h4]; simp [B]
  ·simp [pc15_l1,pc15_r1,a0,a3,hm',wrap_u8,g3]
   refine ⟨by omega,?_⟩
   refine h _ _ ⟨.inr ⟨τ.nf,?_,hA.nf,by simp,by simp⟩,(hA.setF g1).newF (σ':=τ.setF g .dead)⟩
   rw [← h4]; simp [B]
 ·rw [if_neg hm] at h4
  have hm' : 127 < m:=by omega
  have hk : 1 ≤ k:=by
   rcases Nat.eq_zero_or_pos k with rfl | h
   ·simp at h3; omega
   ·exact h
  have hlt : m / 128 < 128 ^ k:=by
   rw [Int.pow_succ] at h3
   omega
  rcases hO with ⟨rfl,a3⟩ | ⟨g,a3,g1,g2,g3⟩
  ·simp [pc15_l1,a0,a3,hm',wrap_u8,or_u8,shr7]
   refine ⟨⟨k,m / 128,[byteI m ||| 128],hk,by omega,hlt,by rw [← h4]; simp,by simp at h5 ⊢; omega,by simp,.inr ⟨τ.nf,by simp [B],hA.nf,by simp,by simp⟩,hA.newF⟩,?_⟩
   simp only [MUn,a0]; simp; omega
  ·simp [pc15_l1,a0,a3,hm',wrap_u8,or_u8,shr7,g3]
   have hgn:=hA.nf
   refine ⟨by omega,⟨k,m / 128,bs ++ [byteI m ||| 128],hk,by omega,hlt,by rw [← h4]; simp,by simp at h5 ⊢; omega,by simp,.inr ⟨τ.nf,by simp [B],hgn,by simp,by simp⟩,(hA.setF g1).newF (σ':=τ.setF g .dead)⟩,?_⟩
   simp only [MUn,a0]; simp; omega
def SnI (n0 : Int) (σ : AS) (a : Nat → AV) (τ : AS) : Prop := ∃ (k : Nat) (n : Int) (bs : List UInt8),k ≤ 9 ∧ -(64 * 128 ^ k) ≤ n ∧ n < 64 * 128 ^ k ∧ bs ++ sF (k + 1) n = sI n0 ∧ bs.length + k + 1 ≤ 10 ∧ a 0 = .int .i64 n ∧ ((bs = [] ∧ a 3 = .nilsl) ∨ ∃ g,a 3 = .sl (.fam g false) 1 (B bs) ∧ σ.nf ≤ g ∧ g < τ.nf ∧ τ.F g = .alive) ∧ Adds σ τ
def MUs (r : Nat) (a : Nat → AV) (_ : AS) : Nat := match a r with | .int _ i => i.natAbs | _ => 0
theorem s_calls {n : Int} (hn : -(2 ^ 63) ≤ n ∧ n < 2 ^ 63) (h : ∀ v σ',NewB σ σ' v (sI n) → R (.ret v) σ') : ACalls Tryz.prog G 13 [.int .i64 n] σ R := by
 refine calls13 rfl ?_
 simp [pc13]
 refine aloop (SnI n σ) (MUs 0) ⟨9,n,[],by omega,by omega,by omega,rfl,by simp,by simp,.inl ⟨rfl,by simp⟩,.refl _⟩ fun a τ hI=>?_
 obtain ⟨k,m,bs,h2,h3,h3',h4,h5,a0,hO,hA⟩:=hI
 rw [sF] at h4
 have fin : ∀ (x : Prop),x = (m < -64 ∨ 63 < m) → x = x:=fun _ _=>rfl
 by_cases hm : -64 ≤ m ∧ m ≤ 63
 ·rw [if_pos hm] at h4
  have hm1 : ¬ m < -64:=by omega
  have hm2 : ¬ 63 < m:=by omega
  rcases hO with ⟨rfl,a3⟩ | ⟨g,a3,g1,g2,g3⟩
  ·simp [pc13_l1,pc13_r1,a0,a3,hm1,hm2,wrap_u8,and_u8]
   refine h _ _ ⟨.inr ⟨τ.nf,?_,hA.nf,by simp,by simp⟩,hA.newF⟩
   rw [← h4]; simp [B]
  ·simp [pc13_l1,pc13_r1,a0,a3,hm1,hm2,wrap_u8,and_u8,g3]
   refine ⟨by omega,?_⟩
   refine h _ _ ⟨.inr ⟨τ.nf,?_,hA.nf,by simp,by simp⟩,(hA.setF g1).newF (σ':=τ.setF g .dead)⟩
   rw [← h4]; simp [B]
 ·rw [if_neg hm] at h4
  have hk : 1 ≤ k:=by
   rcases Nat.eq_zero_or_pos k with rfl | h
   ·simp at h3 h3'; omega
   ·exact h
  obtain ⟨k,rfl⟩ : ∃ j,k = j + 1:=⟨k - 1,by omega⟩
  have hlt : m / 128 < 64 * 128 ^ k:=by
   rw [Int.pow_succ] at h3'
   omega
  have hle : -(64 * 128 ^ k) ≤ m / 128:=by
   rw [Int.pow_succ] at h3
   omega
  have hgn:=hA.nf
  by_cases hm1 : m < -64
  ·rcases hO with ⟨rfl,a3⟩ | ⟨g,a3,g1,g2,g3⟩
   ·simp [pc13_l1,a0,a3,hm1,wrap_u8,or_u8,shr7]
    refine ⟨⟨k,m / 128,[byteI m ||| 128],by omega,hle,hlt,by rw [← h4]; simp,by simp at h5 ⊢; omega,by simp,.inr ⟨τ.nf,by simp [B],hA.nf,by simp,by simp⟩,hA.newF⟩,?_⟩
    simp only [MUs,a0]; simp; omega
   ·simp [pc13_l1,a0,a3,hm1,wrap_u8,or_u8,shr7,g3]
    refine ⟨by omega,⟨k,m / 128,bs ++ [byteI m ||| 128],by omega,hle,hlt,by rw [← h4]; simp,by simp at h5 ⊢; omega,by simp,.inr ⟨τ.nf,by simp [B],hgn,by simp,by simp⟩,(hA.setF g1).newF (σ':=τ.setF g .dead)⟩,?_⟩
    simp only [MUs,a0]; simp; omega
  ·have hm2 : 63 < m:=by omega
   rcases hO with ⟨rfl,a3⟩ | ⟨g,a3,g1,g2,g3⟩
   ·simp [pc13_l1,a0,a3,hm1,hm2,wrap_u8,or_u8,shr7]
    refine ⟨⟨k,m / 128,[byteI m ||| 128],by omega,hle,hlt,by rw [← h4]; simp,by simp at h5 ⊢; omega,by simp,.inr ⟨τ.nf,by simp [B],hA.nf,by simp,by simp⟩,hA.newF⟩,?_⟩
    simp only [MUs,a0]; simp; omega
   ·simp [pc13_l1,a0,a3,hm1,hm2,wrap_u8,or_u8,shr7,g3]
    refine ⟨by omega,⟨k,m / 128,bs ++ [byteI m ||| 128],by omega,hle,hlt,by rw [← h4]; simp,by simp at h5 ⊢; omega,by simp,.inr ⟨τ.nf,by simp [B],hgn,by simp,by simp⟩,(hA.setF g1).newF (σ':=τ.setF g .dead)⟩,?_⟩
    simp only [MUs,a0]; simp; omega
end
end Go.Proofs.YthejpoplbllcbaaGreatDoor
set_option linter.unusedSimpArgs false
set_option linter.unusedVariables false
namespace Go.Proofs.YthejpoplbllcbaaGreatDoor
open Go Go.Abs
def BytO (σ : AS) (v : AV) (bs : List UInt8) : Prop := (bs = [] ∧ v = .nilsl) ∨ ∃ φ,v = .sl φ 1 (B bs) ∧ Al.Rd σ φ
theorem BytO.one {σ v bs} (h : BytO σ v bs) : v.known = true ∧ v.one = true ∧ v.cells = [v] := by rcases h with ⟨_,rfl⟩ | ⟨b,rfl,_⟩ <;> simp
theorem BytO.keep {σ σ' v bs} (h : BytO σ v bs) (A : Adds σ σ') : BytO σ' v bs := by
 rcases h with h | ⟨b,h,r⟩
 ·exact .inl h
 ·exact .inr ⟨b,h,r.keep A⟩
theorem BytO.len {σ v bs} (h : BytO σ v bs) (K : AV → Prop) : alen Tryz.prog 22 v K = K (.int .i64 (bs.length : Int)) := by
 rcases h with ⟨rfl,rfl⟩ | ⟨b,rfl,_⟩ <;> simp
theorem NewB.byt {σ σ' v bs} (h : NewB σ σ' v bs) : BytO σ' v bs := by
 rcases h.1 with ⟨h1,h2⟩ | ⟨g,h1,h2,h3,h4⟩
 ·exact .inl ⟨by simpa [B] using h1,h2⟩
 ·exact .inr ⟨_,h1,h3,h4⟩
theorem B_one (bs : List UInt8) : ∀ y,y ∈ B bs → y.cells.length = 1 ∧ ∀ c,c ∈ y.cells → c.one = true := by
 intro y hy
 simp only [B,List.mem_map] at hy
 obtain ⟨b,_,rfl⟩:=hy
 simp
theorem NewB.behind {σ σ1 σ2 v bs} (A : Adds σ σ1) (h : NewB σ1 σ2 v bs) : NewB σ σ2 v bs := by
 refine ⟨?_,A.trans h.2⟩
 rcases h.1 with h1 | ⟨g,h1,h2,h3,h4⟩
 ·exact .inl h1
 ·exact .inr ⟨g,h1,Nat.le_trans A.nf h2,h3,h4⟩
section
variable {G : Env} {σ : AS} {R : Out → AS → Prop}
theorem grow_calls {n : Nat} (hn : n < 2 ^ 40) (g0 : n = 0 → R (.ret .nilsl) σ) (g1 : 0 < n → R (.ret (.sl (.fam σ.nf false) 1 [])) σ.newF) : ACalls Tryz.prog G 83 [.nilsl,.int .i64 (n : Int)] σ R := by
 refine calls83 rfl ?_
 have w5 : IntKind.wrap .i64 0 = 0:=rfl
 have w2 : IntKind.wrap .i64 (n : Int) = (n : Int):=by rw [wrap_i64] <;> omega
 have n2 : ¬ (n : Int) < 0:=by omega
 cases n with
 | zero =>
  simp [pc83,w5]
  exact g0 rfl
 | succ n =>
  have hz' : (0 : Int) < ((n + 1 : Nat) : Int):=by omega
  have e1 : (((n + 1 : Nat) : Int)).toNat = n + 1:=by omega
  simp only [Int.natCast_add,Int.natCast_one] at *
  simp [pc83,w5,w2,n2,hz',e1,List.replicate_succ,bounds,optInt]
  exact ⟨by omega,by omega,by omega,by omega,g1 (by omega)⟩
def sumB (l : List (List UInt8)) : Nat := (l.map List.length).sum
theorem sumB_flat (l : List (List UInt8)) : l.flatten.length = sumB l := by simp [sumB,List.length_flatten]
theorem sumB_take {l : List (List UInt8)} {i : Nat} {b : List UInt8} (h : l[i]? = some b) : sumB (l.take (i + 1)) = sumB (l.take i) + b.length := by
 rw [take_snoc h]; simp [sumB]
theorem sumB_le (l : List (List UInt8)) (i : Nat) : sumB (l.take i) ≤ sumB l := by
 have e : sumB (l.take i ++ l.drop i) = sumB (l.take i) + sumB (l.drop i):=by simp only [sumB,List.map_append,List.sum_append]
 rw [List.take_append_drop] at e
 omega
end
def BysO (σ : AS) (v : AV) (l : List (List UInt8)) : Prop := (l = [] ∧ v = .nilsl) ∨ ∃ φ rows,v = .sl φ 1 rows ∧ Al.Rd σ φ ∧ All2 (BytO σ) rows l
theorem BysO.one {σ v l} (h : BysO σ v l) : v.known = true ∧ v.one = true ∧ v.cells = [v] := by rcases h with ⟨_,rfl⟩ | ⟨b,_,rfl,_⟩ <;> simp
theorem BysO.keep {σ σ' v l} (h : BysO σ v l) (A : Adds σ σ') : BysO σ' v l := by
 rcases h with h | ⟨φ,rows,h,r,k⟩
 ·exact .inl h
 ·exact .inr ⟨φ,rows,h,r.keep A,Al.all2_mono k fun _ _ q=>q.keep A⟩
theorem BysO.len {σ v l} (h : BysO σ v l) (K : AV → Prop) : alen Tryz.prog 65 v K = K (.int .i64 (l.length : Int)) := by
 rcases h with ⟨rfl,rfl⟩ | ⟨b,rows,rfl,_,hr⟩
 ·simp
 ·simp [hr.length]
theorem BysO.at {σ v l} (h : BysO σ v l) {i : Nat} (hi : i < l.length) : ∃ φ rv,Al.Rd σ φ ∧ BytO σ rv l[i] ∧ ∀ K : AV → Prop,aindexAddr Tryz.prog 65 v (.int .i64 (i : Int)) K = K (.pv φ rv) := by
 rcases h with ⟨rfl,_⟩ | ⟨φ,rows,rfl,r,hr⟩
 ·simp at hi
 ·obtain ⟨rv,h1,h2⟩:=hr.get (List.getElem?_eq_getElem hi)
  exact ⟨φ,rv,r,h2,fun K=>by simp [h1]⟩
theorem BysO.lit {σ b vs l} (h : All2 (BytO σ) vs l) : BysO σ (.sl (.stat b) 1 vs) l := .inr ⟨_,_,rfl,trivial,h⟩
section
variable {G : Env} {σ : AS} {R : Out → AS → Prop}
def CI1 (v : AV) (l : List (List UInt8)) (σ : AS) (a : Nat → AV) (τ : AS) : Prop := ∃ i : Nat,i ≤ l.length ∧ a 0 = v ∧ a 9 = v ∧ a 10 = .int .i64 (l.length : Int) ∧ a 11 = .int .i64 (i : Int) ∧ a 3 = .int .i64 ((sumB (l.take i) : Nat) : Int) ∧ τ = σ
def CI2 (v : AV) (l : List (List UInt8)) (σ : AS) (a : Nat → AV) (τ : AS) : Prop := ∃ i : Nat,i ≤ l.length ∧ a 25 = v ∧ a 26 = .int .i64 (l.length : Int) ∧ a 27 = .int .i64 (i : Int) ∧ Adds σ τ ∧
 ((sumB l = 0 ∧ a 6 = .nilsl) ∨ ∃ g,a 6 = .sl (.fam g false) 1 (B (l.take i).flatten) ∧ σ.nf ≤ g ∧ g < τ.nf ∧ τ.F g = .alive)
set_option maxHeartbeats 1000000 in
theorem concatB_calls {v : AV} {l : List (List UInt8)} (hv : BysO σ v l) (hs : sumB l < 2 ^ 40) (hl : l.length ≤ 2 ^ 40) (h : ∀ v σ',NewB σ σ' v l.flatten → R (.ret v) σ') : ACalls Tryz.prog G 41 [v] σ R := by
 refine calls41 rfl ?_
 have hlen:=hv.len
 have hon:=hv.one
 simp [pc41,hlen,hon]
 refine aloop (CI1 v l σ) (MU 11 (l.length + 1)) ⟨0,by omega,by simp,by simp,by simp,by simp,by simp [sumB],rfl⟩ fun a τ hI=>?_
 obtain ⟨i,hi,a0,a9,a10,a11,a3,rfl⟩:=hI
 by_cases hlt : i < l.length
 ·have hlt' : (i : Int) < (l.length : Int):=by omega
  have hg:=List.getElem?_eq_getElem hlt
  obtain ⟨φ0,x,hr0,hb,hx⟩:=hv.at hlt
  have hr0:=hr0.read
  have hst:=sumB_take hg
  have hsl:=sumB_le l (i + 1)
  generalize l[i] = y at *
  have x1:=hb.one
  have x2:=hb.len
  have w1 : IntKind.wrap .i64 ((i : Int) + 1) = ((i + 1 : Nat) : Int):=by rw [wrap_i64] <;> omega
  have w2 : IntKind.wrap .i64 (((sumB (l.take i) : Nat) : Int) + (y.length : Int)) = ((sumB (l.take i) + y.length : Nat) : Int):=by rw [wrap_i64] <;> omega
  have n2 : ¬ ((sumB (l.take i) : Nat) : Int) + (y.length : Int) < 0:=by omega
  simp [pc41_l1,a0,a9,a10,a11,a3,hlt',hx,hr0,x1,x2,w1,w2,n2]
  refine ⟨⟨i + 1,by omega,by simp [a0],by simp [a9],by simp [a10],by simp,by simp [hst],rfl⟩,?_⟩
  simp only [MU,a11]; simp; omega
 ·have hie : i = l.length:=by omega
  subst hie
  rw [List.take_length] at a3
  have ht:=sumB_flat l
  simp [pc41_l1,pc41_r1,pc41_r2,a0,a9,a10,a11,a3]
  refine grow_calls hs (fun hz=>?_) (fun hz=>?_)
  ·simp [hlen,a0]
   refine aloop (CI2 v l τ) (MU 27 (l.length + 1)) ⟨0,by omega,by simp [a0],by simp,by simp,.refl _,.inl ⟨hz,by simp⟩⟩ fun a2 τ2 hI2=>?_
   obtain ⟨i,hi,b25,b26,b27,hA,hO⟩:=hI2
   by_cases hlt : i < l.length
   ·have hlt' : (i : Int) < (l.length : Int):=by omega
    have hg:=List.getElem?_eq_getElem hlt
    obtain ⟨φ0,x,hr0,hb,hx⟩:=(hv.keep hA).at hlt
    have hr0:=hr0.read
    have hst:=sumB_take hg
    have hsl:=sumB_le l (i + 1)
    have htk:=take_snoc hg
    generalize l[i] = y at *
    have x1:=hb.one
    have hfl:=sumB_flat (l.take i)
    have w1 : IntKind.wrap .i64 ((i : Int) + 1) = ((i + 1 : Nat) : Int):=by rw [wrap_i64] <;> omega
    have hgn:=hA.nf
    rcases hO with ⟨h0,b6⟩ | ⟨g,b6,g1,g2,g3⟩
    ·have hy : y = []:=List.length_eq_zero_iff.1 (by omega)
     subst hy
     rcases hb with ⟨_,rfl⟩ | ⟨φ,rfl,hr⟩
     ·simp [pc41_l2,b25,b26,b27,b6,hlt',hx,hr0,w1]
      refine ⟨⟨i + 1,by omega,by simp [b25],by simp [b26],by simp,hA,.inl ⟨h0,by simp⟩⟩,?_⟩
      simp only [MU,b27]; simp; omega
     ·have hr':=hr.read
      simp [pc41_l2,b25,b26,b27,b6,hlt',hx,hr0,w1,hr',B]
      refine ⟨⟨i + 1,by omega,by simp [b25],by simp [b26],by simp,hA,.inl ⟨h0,by simp⟩⟩,?_⟩
      simp only [MU,b27]; simp; omega
    ·rcases hb with ⟨rfl,rfl⟩ | ⟨φ,rfl,hr⟩
     ·simp [pc41_l2,b25,b26,b27,b6,hlt',hx,hr0,w1,g3]
      have hsm : (List.take i (List.map List.length l)).sum = sumB (l.take i):=by rw [← List.map_take]; rfl
      refine ⟨by omega,⟨i + 1,by omega,by simp [b25],by simp [b26],by simp,(hA.setF g1).newF (σ':=τ2.setF g .dead),.inr ⟨τ2.nf,by rw [htk]; simp,hgn,by simp,by simp⟩⟩,?_⟩
      simp only [MU,b27]; simp; omega
     ·have hr':=hr.read
      simp [pc41_l2,b25,b26,b27,b6,hlt',hx,hr0,w1,g3,hr']
      have hsm : (List.take i (List.map List.length l)).sum = sumB (l.take i):=by rw [← List.map_take]; rfl
      refine ⟨B_one y,by omega,⟨i + 1,by omega,by simp [b25],by simp [b26],by simp,(hA.setF g1).newF (σ':=τ2.setF g .dead),.inr ⟨τ2.nf,by rw [htk]; simp,hgn,by simp,by simp⟩⟩,?_⟩
      simp only [MU,b27]; simp; omega
   ·have hie : i = l.length:=by omega
    subst hie
    rw [List.take_length] at hO
    rcases hO with ⟨h0,b6⟩ | ⟨g,b6,g1,g2,g3⟩
    ·simp [pc41_l2,pc41_r1,b26,b27,b6]
     exact h _ _ ⟨.inl ⟨by have : l.flatten = []:=List.length_eq_zero_iff.1 (by omega); rw [this]; rfl,rfl⟩,hA⟩
    ·simp [pc41_l2,pc41_r1,b26,b27,b6]
     exact h _ _ ⟨.inr ⟨g,rfl,g1,g2,g3⟩,hA⟩
  ·simp [hlen,a0]
   refine aloop (CI2 v l τ) (MU 27 (l.length + 1)) ⟨0,by omega,by simp [a0],by simp,by simp,(Adds.refl τ).newF,.inr ⟨τ.nf,by simp [B],by simp,by simp,by simp⟩⟩ fun a2 τ2 hI2=>?_
   obtain ⟨i,hi,b25,b26,b27,hA,hO⟩:=hI2
   by_cases hlt : i < l.length
   ·have hlt' : (i : Int) < (l.length : Int):=by omega
    have hg:=List.getElem?_eq_getElem hlt
    obtain ⟨φ0,x,hr0,hb,hx⟩:=(hv.keep hA).at hlt
    have hr0:=hr0.read
    have hst:=sumB_take hg
    have hsl:=sumB_le l (i + 1)
    have htk:=take_snoc hg
    generalize l[i] = y at *
    have x1:=hb.one
    have hfl:=sumB_flat (l.take i)
    have w1 : IntKind.wrap .i64 ((i : Int) + 1) = ((i + 1 : Nat) : Int):=by rw [wrap_i64] <;> omega
    have hgn:=hA.nf
    rcases hO with ⟨h0,b6⟩ | ⟨g,b6,g1,g2,g3⟩
    ·have hy : y = []:=List.length_eq_zero_iff.1 (by omega)
     subst hy
     rcases hb with ⟨_,rfl⟩ | ⟨φ,rfl,hr⟩
     ·simp [pc41_l2,b25,b26,b27,b6,hlt',hx,hr0,w1]
      refine ⟨⟨i + 1,by omega,by simp [b25],by simp [b26],by simp,hA,.inl ⟨h0,by simp⟩⟩,?_⟩
      simp only [MU,b27]; simp; omega
     ·have hr':=hr.read
      simp [pc41_l2,b25,b26,b27,b6,hlt',hx,hr0,w1,hr',B]
      refine ⟨⟨i + 1,by omega,by simp [b25],by simp [b26],by simp,hA,.inl ⟨h0,by simp⟩⟩,?_⟩
      simp only [MU,b27]; simp; omega
    ·rcases hb with ⟨rfl,rfl⟩ | ⟨φ,rfl,hr⟩
     ·simp [pc41_l2,b25,b26,b27,b6,hlt',hx,hr0,w1,g3]
      have hsm : (List.take i (List.map List.length l)).sum = sumB (l.take i):=by rw [← List.map_take]; rfl
      refine ⟨by omega,⟨i + 1,by omega,by simp [b25],by simp [b26],by simp,(hA.setF g1).newF (σ':=τ2.setF g .dead),.inr ⟨τ2.nf,by rw [htk]; simp,hgn,by simp,by simp⟩⟩,?_⟩
      simp only [MU,b27]; simp; omega
     ·have hr':=hr.read
      simp [pc41_l2,b25,b26,b27,b6,hlt',hx,hr0,w1,g3,hr']
      have hsm : (List.take i (List.map List.length l)).sum = sumB (l.take i):=by rw [← List.map_take]; rfl
      refine ⟨B_one y,by omega,⟨i + 1,by omega,by simp [b25],by simp [b26],by simp,(hA.setF g1).newF (σ':=τ2.setF g .dead),.inr ⟨τ2.nf,by rw [htk]; simp,hgn,by simp,by simp⟩⟩,?_⟩
      simp only [MU,b27]; simp; omega
   ·have hie : i = l.length:=by omega
    subst hie
    rw [List.take_length] at hO
    rcases hO with ⟨h0,b6⟩ | ⟨g,b6,g1,g2,g3⟩
    ·simp [pc41_l2,pc41_r1,b26,b27,b6]
     exact h _ _ ⟨.inl ⟨by have : l.flatten = []:=List.length_eq_zero_iff.1 (by omega); rw [this]; rfl,rfl⟩,hA⟩
    ·simp [pc41_l2,pc41_r1,b26,b27,b6]
     exact h _ _ ⟨.inr ⟨g,rfl,g1,g2,g3⟩,hA⟩
end
end Go.Proofs.YthejpoplbllcbaaGreatDoor
set_option linter.unusedSimpArgs false
set_option linter.unusedVariables false
namespace Go.Proofs.YthejpoplbllcbaaGreatDoor
open Go Go.Abs
def sizedL (bs : List UInt8) : List UInt8 := uI bs.length ++ bs
def sectionL (n : UInt8) (bs : List UInt8) : List UInt8 := n :: sizedL bs
def rowL (l : List (List UInt8)) : List UInt8 := uI l.length ++ l.flatten
theorem uI_len (n : Int) : (uI n).length ≤ 10 := uF_len 10 n
theorem sI_len (n : Int) : (sI n).length ≤ 10 := sF_len 10 n
theorem uF_ne {k : Nat} {n : Int} : uF (k + 1) n ≠ [] := by rw [uF]; split <;> simp
theorem uI_ne (n : Int) : uI n ≠ [] := uF_ne
section
variable {G : Env} {σ : AS} {R : Out → AS → Prop}
theorem app_calls {σ1 : AS} {v1 v2 : AV} {x y : List UInt8} {K : AV → AS → Prop} (h1 : NewB σ σ1 v1 x) (hx : x ≠ []) (h2 : BytO σ1 v2 y) (hl : x.length + y.length ≤ 2 ^ 42) (h : ∀ v σ',NewB σ σ' v (x ++ y) → K v σ') : aappend Tryz.prog 22 22 v1 v2 σ1 K := by
 obtain ⟨ho,hA⟩:=h1
 rcases ho with ⟨h0,_⟩ | ⟨g,rfl,g1,g2,g3⟩
 ·exact absurd (by simpa [B] using h0) hx
 have hgn:=hA.nf
 rcases h2 with ⟨rfl,rfl⟩ | ⟨φ,rfl,hr⟩
 ·simp [g3]
  exact ⟨by omega,h _ _ ⟨.inr ⟨σ1.nf,by simp,hgn,by simp,by simp⟩,(hA.setF g1).newF (σ':=σ1.setF g .dead)⟩⟩
 ·have hr':=hr.read
  simp [g3,hr']
  exact ⟨B_one y,by omega,h _ _ ⟨.inr ⟨σ1.nf,by simp,hgn,by simp,by simp⟩,(hA.setF g1).newF (σ':=σ1.setF g .dead)⟩⟩
theorem app_go {σ1 : AS} {v1 v2 : AV} {x y : List UInt8} {K : AV → AS → Prop} (h1 : NewB σ σ1 v1 x) (hx : x ≠ []) (h2 : BytO σ1 v2 y) (hl : x.length + y.length ≤ 2 ^ 42) (h : ∀ v σ',NewB σ σ' v (x ++ y) → K v σ') :
  asource Tryz.prog 22 (.int .u8 0) 1 v2 σ1.F fun ys=>(∀ y,y ∈ ys → y.cells.length = 1 ∧ ∀ c,c ∈ y.cells → c.one = true) ∧ grown 1 1 v1 ys σ1 K:=by
 have:=app_calls h1 hx h2 hl h
 simp at this
 exact this
theorem lit_go {σ1 : AS} {v2 : AV} {xs : List AV} {x y : List UInt8} {K : AV → AS → Prop} (hA : Adds σ σ1) (e : xs = B x) (hx : x ≠ []) (h2 : BytO σ1 v2 y) (hl : x.length + y.length ≤ 2 ^ 42) (h : ∀ v σ',NewB σ σ' v (x ++ y) → K v σ') (hy : y ≠ []) :
  asource Tryz.prog 22 (.int .u8 0) 1 v2 σ1.F fun ys=>(∀ y,y ∈ ys → y.cells.length = 1 ∧ ∀ c,c ∈ y.cells → c.one = true) ∧ grown 1 1 (.sl (.stat true) 1 xs) ys σ1 K:=by
 subst e
 have hgn:=hA.nf
 rcases h2 with ⟨rfl,rfl⟩ | ⟨φ,rfl,hr⟩
 ·exact absurd rfl hy
 ·have hr':=hr.read
  obtain ⟨c,y,rfl⟩:=List.exists_cons_of_ne_nil hy
  have e1 : B (c :: y) = AV.int .u8 (c.toNat : Int) :: B y:=rfl
  rw [e1]
  simp [hr']
  have:=B_one (c :: y)
  rw [e1] at this
  exact ⟨fun z hz=>B_one y z hz,by simp at hl; omega,h _ _ ⟨.inr ⟨σ1.nf,by simp [B],hgn,by simp,by simp⟩,hA.newF⟩⟩
theorem sized_calls {v : AV} {bs : List UInt8} (hv : BytO σ v bs) (hl : bs.length < 2 ^ 40) (h : ∀ v' σ',NewB σ σ' v' (sizedL bs) → R (.ret v') σ') : ACalls Tryz.prog G 42 [v] σ R := by
 refine calls42 rfl ?_
 have v1:=hv.one
 have v2:=hv.len
 simp [pc42,v1,v2]
 refine u_calls (by omega) fun u σ1 hu=>?_
 have hv1:=hv.keep hu.2
 have hul:=uI_len bs.length
 simp
 refine app_go hu (uI_ne _) hv1 (by omega) fun v' σ' h'=>?_
 simp
 exact h _ _ h'
theorem section_calls {n : UInt8} {v : AV} {l : List (List UInt8)} (hv : BysO σ v l) (hs : sumB l < 2 ^ 39) (hl : l.length ≤ 2 ^ 40) (h : ∀ v' σ',NewB σ σ' v' (sectionL n l.flatten) → R (.ret v') σ') : ACalls Tryz.prog G 45 [.int .u8 (n.toNat : Int),v] σ R := by
 refine calls45 rfl ?_
 have hon:=hv.one
 simp [pc45,hon]
 refine concatB_calls hv (by omega) hl fun c σ1 hc=>?_
 have hsl:=sumB_flat l
 simp
 refine sized_calls hc.byt (by omega) fun d σ2 hd=>?_
 simp
 have hsz : (sizedL l.flatten).length ≤ l.flatten.length + 10:=by simp only [sizedL,List.length_append]; have:=uI_len l.flatten.length; omega
 refine lit_go (x:=[n]) (hc.2.trans hd.2) rfl (by simp) hd.byt (by have : ([n] : List UInt8).length = 1:=rfl; omega) (fun v' σ' h'=>?_) (by simp [sizedL,uI_ne])
 simp
 exact h _ _ h'
theorem row_calls {v : AV} {l : List (List UInt8)} (hv : BysO σ v l) (hs : sumB l < 2 ^ 39) (hl : l.length ≤ 2 ^ 40) (h : ∀ v' σ',NewB σ σ' v' (rowL l) → R (.ret v') σ') : ACalls Tryz.prog G 46 [v] σ R := by
 refine calls46 rfl ?_
 have hlen:=hv.len
 have hon:=hv.one
 simp [pc46,hlen,hon]
 refine u_calls (by omega) fun u σ1 hu=>?_
 have hul:=uI_len l.length
 have hsl:=sumB_flat l
 simp
 have hv1:=hv.keep hu.2
 refine concatB_calls hv1 (by omega) hl fun c σ2 hc=>?_
 simp
 have hu2 : NewB σ σ2 u (uI l.length):=⟨hu.1.keep hc.2,hu.2.trans hc.2⟩
 refine app_go hu2 (uI_ne _) hc.byt (by omega) fun v' σ' h'=>?_
 simp
 exact h _ _ h'
def typesL (l : List Int) : List UInt8 := uI l.length ++ l.map fun t => byteI (128 - t)
def TyI (v : AV) (l : List Int) (σ : AS) (a : Nat → AV) (τ : AS) : Prop := ∃ i : Nat,i ≤ l.length ∧ a 9 = v ∧ a 10 = .int .i64 (l.length : Int) ∧ a 11 = .int .i64 (i : Int) ∧ NewB σ τ (a 3) (uI l.length ++ (l.take i).map fun t => byteI (128 - t))
theorem types_calls {v : AV} {l : List Int} (hv : Al.IntsO σ v l) (hl : l.length ≤ 2 ^ 39) (h : ∀ v' σ',NewB σ σ' v' (typesL l) → R (.ret v') σ') : ACalls Tryz.prog G 81 [v] σ R := by
 refine calls81 rfl ?_
 have v1:=hv.one
 have v2:=hv.len
 simp [pc81,v1,v2]
 refine u_calls (by omega) fun u σ1 hu=>?_
 have hul:=uI_len l.length
 simp [v2]
 refine aloop (TyI v l σ) (MU 11 (l.length + 1)) ⟨0,by omega,by simp,by simp,by simp,by simpa using hu⟩ fun a τ hI=>?_
 obtain ⟨i,hi,a9,a10,a11,hO⟩:=hI
 by_cases hlt : i < l.length
 ·have hlt' : (i : Int) < (l.length : Int):=by omega
  obtain ⟨φ,hr,hix⟩:=(hv.keep hO.2).at hlt
  have hr':=hr.read
  have hg:=List.getElem?_eq_getElem hlt
  have htk:=take_snoc hg
  generalize l[i] = t at *
  have w1 : IntKind.wrap .i64 ((i : Int) + 1) = ((i + 1 : Nat) : Int):=by rw [wrap_i64] <;> omega
  have w2 : IntKind.wrap .u8 (IntKind.wrap .i64 (128 - t)) = ((byteI (128 - t)).toNat : Int):=by
   rw [wrap_u8,byteI_nat,byteI_nat]
   simp [IntKind.wrap,IntKind.signed,IntKind.bits]
   omega
  obtain ⟨hq,hA⟩:=hO
  rcases hq with ⟨h0,_⟩ | ⟨g,b3,g1,g2,g3⟩
  ·have : uI l.length = []:=by
    have h0 : (B (uI l.length ++ (l.take i).map fun t=>byteI (128 - t))).length = 0:=by rw [h0]; rfl
    rw [B_len,List.length_append] at h0
    exact List.length_eq_zero_iff.1 (by omega)
   exact absurd this (uI_ne _)
  have hgn:=hA.nf
  simp [pc81_l1,a9,a10,a11,hlt',hix,hr',b3,w1,w2,g3]
  refine ⟨by omega,⟨i + 1,by omega,by simp [a9],by simp [a10],by simp,.inr ⟨τ.nf,by rw [htk]; simp [B],hgn,by simp,by simp⟩,(hA.setF g1).newF (σ':=τ.setF g .dead)⟩,?_⟩
  simp only [MU,a11]; simp; omega
 ·have hie : i = l.length:=by omega
  subst hie
  rw [List.take_length] at hO
  simp [pc81_l1,pc81_r1,a10,a11]
  exact h _ _ hO
def resultsL (t : Int) : List UInt8 := if t = 0 then typesL [] else typesL [t]
theorem results_calls {t : Int} (h : ∀ v' σ',NewB σ σ' v' (resultsL t) → R (.ret v') σ') : ACalls Tryz.prog G 82 [.int .i64 t] σ R := by
 refine calls82 rfl ?_
 by_cases ht : t = 0
 ·have e : resultsL t = typesL []:=if_pos ht
  rw [e] at h
  simp [pc82,ht]
  refine types_calls (l:=[]) (.inl ⟨rfl,rfl⟩) (by simp) fun v σ1 h1=>?_
  simp
  exact h _ _ h1
 ·have e : resultsL t = typesL [t]:=if_neg ht
  rw [e] at h
  simp [pc82,ht]
  refine types_calls (l:=[t]) (.inr ⟨.stat true,rfl,trivial⟩) (by simp) fun v σ1 h1=>?_
  simp
  exact h _ _ h1
def headL (takes : List Int) (gives : Int) : List UInt8 := 96 :: (typesL takes ++ resultsL gives)
theorem typesL_len (l : List Int) : (typesL l).length ≤ l.length + 10 := by
 have:=uI_len l.length
 simp [typesL]; omega
theorem resultsL_len (t : Int) : (resultsL t).length ≤ 11 := by
 unfold resultsL
 split
 ·exact Nat.le_trans (typesL_len []) (by simp)
 ·exact typesL_len [t]
theorem head_calls {v : AV} {l : List Int} {g : Int} (hv : Al.IntsO σ v l) (hl : l.length ≤ 2 ^ 38) (h : ∀ v' σ',NewB σ σ' v' (headL l g) → R (.ret v') σ') : ACalls Tryz.prog G 40 [v,.int .i64 g] σ R := by
 refine calls40 rfl ?_
 have v1:=hv.one
 have e0 : blitSl 22 [(0,Operand.const (.int .u8 96))] = false:=by decide
 simp [pc40,v1,e0]
 refine types_calls hv (by omega) fun t σ1 ht=>?_
 have ht1:=ht.byt
 simp
 refine results_calls fun r σ2 hr=>?_
 have t1:=(ht1.keep hr.2).one
 have r1:=hr.byt.one
 have hb : BytO σ2 (.sl (.stat true) 1 [.int .u8 96]) [96]:=.inr ⟨_,rfl,trivial⟩
 simp [t1,r1]
 have l1:=typesL_len l
 have l2:=resultsL_len g
 refine concatB_calls (l:=[[96],typesL l,resultsL g]) (BysO.lit (.cons hb (.cons (ht1.keep hr.2) (.cons hr.byt .nil)))) (by simp [sumB]; omega) (by simp) fun c σ3 hc=>?_
 simp
 have:=NewB.behind (ht.2.trans hr.2) hc
 simpa [headL] using h _ _ (by simpa [headL] using this)
theorem BytO.at {v : AV} {bs : List UInt8} (h : BytO σ v bs) {i : Nat} (hi : i < bs.length) : ∃ φ,Al.Rd σ φ ∧ ∀ K : AV → Prop,aindexAddr Tryz.prog 22 v (.int .i64 (i : Int)) K = K (.pv φ (.int .u8 (bs[i].toNat : Int))) := by
 rcases h with ⟨rfl,_⟩ | ⟨φ,rfl,r⟩
 ·simp at hi
 ·exact ⟨φ,r,fun K=>by simp [hi,B]⟩
def SbI (va vb : AV) (x y : List UInt8) (σ : AS) (a : Nat → AV) (τ : AS) : Prop := ∃ i : Nat,i ≤ x.length ∧ a 0 = va ∧ a 1 = vb ∧ a 5 = .int .i64 (i : Int) ∧ τ = σ ∧ x.take i = y.take i
theorem sameBytes_calls {va vb : AV} {x y : List UInt8} (ha : BytO σ va x) (hb : BytO σ vb y) (hl : x.length ≤ 2 ^ 40) (h : R (.ret (.bool (decide (x = y)))) σ) : ACalls Tryz.prog G 14 [va,vb] σ R := by
 refine calls14 rfl ?_
 have a1:=ha.one
 have a2:=ha.len
 have b1:=hb.one
 have b2:=hb.len
 by_cases hxy : x.length = y.length
 ·simp [pc14,a1,a2,b1,b2,hxy]
  refine aloop (SbI va vb x y σ) (MU 5 (x.length + 1)) ⟨0,by omega,by simp,by simp,by simp,rfl,by simp⟩ fun a τ hI=>?_
  obtain ⟨i,hi,c0,c1,c5,rfl,heq⟩:=hI
  by_cases hlt : i < x.length
  ·have hlt' : (i : Int) < (y.length : Int):=by omega
   obtain ⟨φ,hr,hix⟩:=ha.at hlt
   obtain ⟨ψ,hs,hiy⟩:=hb.at (show i < y.length by omega)
   have hr':=hr.read
   have hs':=hs.read
   have gx:=take_snoc (List.getElem?_eq_getElem hlt)
   have gy:=take_snoc (List.getElem?_eq_getElem (show i < y.length by omega))
   have w1 : IntKind.wrap .i64 ((i : Int) + 1) = ((i + 1 : Nat) : Int):=by rw [wrap_i64] <;> omega
   by_cases hc : x[i] = y[i]
   ·simp [pc14_l1,c0,c1,c5,a2,hxy,hlt',hix,hiy,hr',hs',hc,w1]
    refine ⟨⟨i + 1,by omega,by simp [c0],by simp [c1],by simp,rfl,by rw [gx,gy,heq,hc]⟩,?_⟩
    simp only [MU,c5]; simp; omega
   ·have hne : ¬ x = y:=fun e=>hc (by subst e; rfl)
    have hc' : ¬ ((x[i].toNat : Int) = (y[i].toNat : Int)):=fun e=>hc (UInt8.toNat_inj.1 (by exact_mod_cast e))
    simp [pc14_l1,c0,c1,c5,a2,hxy,hlt',hix,hiy,hr',hs',hc,hc']
    simpa [hne] using h
  ·have hie : i = x.length:=by omega
   subst hie
   have e : x = y:=by rw [List.take_length,hxy,List.take_length] at heq; exact heq
   simp [pc14_l1,pc14_r1,c0,c5,a2,hxy]
   simpa [e] using h
 ·have hne : ¬ x = y:=fun e=>hxy (by rw [e])
  have hxy' : ¬ ((x.length : Int) = (y.length : Int)):=by omega
  simp [pc14,a1,a2,b1,b2,hxy,hxy']
  simpa [hne] using h
theorem equal_calls {va vb : AV} {x y : List UInt8} (ha : BytO σ va x) (hb : BytO σ vb y) (h : R (.ret (.bool (decide (x = y)))) σ) : ACalls Tryz.prog G 33 [va,vb] σ R := by
 refine calls33 rfl ?_
 rcases ha with ⟨rfl,rfl⟩ | ⟨φ,rfl,hr⟩ <;> rcases hb with ⟨rfl,rfl⟩ | ⟨ψ,rfl,hs⟩
 ·simp [pc33]
  simpa using h
 ·have hs':=hs.read
  simp [pc33,hs']
  simpa using h
 ·have hr':=hr.read
  simp [pc33,hr']
  simpa using h
 ·have hs':=hs.read
  have hr':=hr.read
  simp [pc33,hr',hs']
  simpa using h
theorem und22 : Tryz.prog.underlying 22 = some (.slice 5) := by kernel_rfl
@[simp] theorem aeq22_nil : aeq Tryz.prog 22 .nilsl .nilsl = some true := by simp [aeq,aeq1,und22]
@[simp] theorem aeq22_sl (φ k l) : aeq Tryz.prog 22 (.sl φ k l) .nilsl = some false := by simp [aeq,aeq1,und22]
theorem clone_calls {v : AV} {bs : List UInt8} (hv : BytO σ v bs) (hl : bs.length ≤ 2 ^ 40) (h : ∀ v' σ',BytO σ' v' bs → Adds σ σ' → R (.ret v') σ') : ACalls Tryz.prog G 28 [v] σ R := by
 refine calls28 rfl ?_
 rcases hv with ⟨rfl,rfl⟩ | ⟨φ,rfl,hr⟩
 ·simp [pc28]
  exact h _ _ (.inl ⟨rfl,rfl⟩) (.refl _)
 ·have hr':=hr.read
  simp [pc28,hr']
  refine ⟨B_one bs,?_⟩
  cases bs with
  | nil =>
   have e1 : B [] = []:=rfl
   rw [e1]
   simp
   exact h _ _ (.inr ⟨.stat true,rfl,trivial⟩) (.refl _)
  | cons c y =>
   have e1 : B (c :: y) = AV.int .u8 (c.toNat : Int) :: B y:=rfl
   rw [e1]
   simp
   refine ⟨by simp at hl; omega,?_⟩
   exact h _ _ (.inr ⟨.fam σ.nf false,by simp [B],by simp,by simp⟩) (Adds.refl _).newF
end
end Go.Proofs.YthejpoplbllcbaaGreatDoor
set_option linter.unusedSimpArgs false
set_option linter.unusedVariables false
namespace Go.Proofs.YthejpoplbllcbaaGreatDoor
open Go Go.Abs
def signText : List UInt8 := [97,100,100,32,115,117,98,32,109,117,108,32,100,105,118,95,115,32,114,101,109,95,115,32,97,110,100,32,111,114,32,120,111,114,32,115,104,108,32,115,104,114,95,115,32,101,113,32,110,101,32,108,116,95,115,32,103,116,95,115,32,108,101,95,115,32,103,101,95,115]
def signNames : List (List UInt8) := [[97,100,100],[115,117,98],[109,117,108],[100,105,118,95,115],[114,101,109,95,115],[97,110,100],[111,114],[120,111,114],[115,104,108],[115,104,114,95,115],[101,113],[110,101],[108,116,95,115],[103,116,95,115],[108,101,95,115],[103,101,95,115]]
def isSpB (c : UInt8) : Bool := c == 32 || (9 ≤ c && c ≤ 13)
def spTab : List AV := (List.range 256).map fun c => .int .u8 (if isSpB (UInt8.ofNat c) then 1 else 0)
def ones : List UInt8 := [106,107,108,109,111,113,114,115,116,117,70,71,72,74,76,78]
def twos : List UInt8 := [124,125,126,127,129,131,132,133,134,135,81,82,83,85,87,89]
def pw (op ty n : Int) : W := { op := op,ty := ty,n := n,body := 0,other := 0,name := [] }
def plainT : List (UInt8 × W) := [(0x45,pw 5 1 0),(0x50,pw 5 2 0),(0xA7,pw 6 0 0),(0xAC,pw 7 0 0),(0x2C,pw 8 1 1),(0x28,pw 8 1 4),(0x29,pw 8 2 8),(0x3A,pw 9 1 1),(0x36,pw 9 1 4),(0x37,pw 9 2 8),(0x0F,pw 16 0 0),(0x00,pw 17 0 0),(0x1A,pw 18 0 0)]
def numT : List (UInt8 × W) := [(0x41,pw 1 1 0),(0x42,pw 1 2 0),(0x20,pw 2 0 0),(0x21,pw 3 0 0),(0x10,pw 10 0 0),(0x0C,pw 14 0 0),(0x0D,pw 15 0 0)]
def keysA (l : List (UInt8 × W)) : List AV := l.map fun p => .int .u8 (p.1.toNat : Int)
def valsA (l : List (UInt8 × W)) : List AV := l.map fun p => p.2.av
structure VarsB (G : Env) : Prop where
 bytes : G.g 0 = .pv (.stat true) (.agg [.str ones,.str twos])
 plain : ∃ l : List (UInt8 × W),l.Perm plainT ∧ G.g 1 = .pv (.stat true) (.mp (keysA l) (valsA l))
 nums : ∃ l : List (UInt8 × W),l.Perm numT ∧ G.g 2 = .pv (.stat true) (.mp (keysA l) (valsA l))
 space : G.g 3 = .pv (.stat true) (.agg spTab)
def fC : Nat → Nat × Bool × UInt8
 | 0=>(0,true,0)
 | i + 1=>let c:=signText.getD i 0; let p:=fC i; (p.1 + (if p.2.1 && !isSpB c then 1 else 0),isSpB c,p.2.2 ||| c)
def fS : Nat → Nat × Nat
 | 0=>(0,0)
 | i + 1=>if isSpB (signText.getD i 0) then (i + 1,(fS i).2 + 1) else fS i
theorem spTab_at (c : UInt8) : spTab[c.toNat]? = some (.int .u8 (if isSpB c then 1 else 0)) := by
 have h : c.toNat < 256:=c.toNat_lt
 have : ∀ k : Fin 256,spTab[k.1]? = some (.int .u8 (if isSpB (UInt8.ofNat k.1) then 1 else 0)):=by
  intro k; simp [spTab]
 have:=this ⟨c.toNat,h⟩
 simpa using this
theorem sb_small : ∀ k,(fC k).1 ≤ k := by
 intro k
 induction k with
 | zero=>simp [fC]
 | succ k ih=>simp only [fC]; split <;> omega
def fCells (k : Nat) : List AV := (signNames.take k).map AV.str ++ List.replicate (16 - k) (.str [])
theorem fS_fact : ∀ i : Fin 70,(isSpB (signText.getD i 0) = true → signNames[(fS i).2]? = some ((signText.take i).drop (fS i).1) ∧ (fS i).2 < 16 ∧ (fS i).1 ≤ i ∧ i.1 + 1 < 70 ∧ isSpB (signText.getD (i.1 + 1) 0) = false ∧ fS (i.1 + 1) = (i.1 + 1,(fS i).2 + 1)) ∧ (isSpB (signText.getD i 0) = false → fS (i.1 + 1) = fS i) := by decide
theorem fS_end : fS 70 = (66,15) := by decide
theorem fCells_step {k : Nat} {b : List UInt8} (h : signNames[k]? = some b) : splice (fCells k) k [.str b] = fCells (k + 1) := by
 have hk:=(List.getElem?_eq_some_iff.1 h).1
 have hl : signNames.length = 16:=rfl
 have ht:=take_snoc h
 have hA : ((signNames.take k).map AV.str).length = k:=by simp; omega
 unfold splice fCells
 rw [List.take_left' hA,ht,List.map_append]
 have e : 16 - k = (16 - (k + 1)) + 1:=by omega
 have hd : ((signNames.take k).map AV.str ++ List.replicate (16 - k) (AV.str [])).drop (k + [AV.str b].length) = List.replicate (16 - (k + 1)) (AV.str []):=by
  rw [List.drop_append,List.drop_eq_nil_of_le (by rw [hA]; simp),hA,e]
  simp
 rw [hd]
 simp
theorem amake_strs {σ : AS} {K : AV → AS → Prop} : amake Tryz.prog 66 (.int .i64 16) (.int .i64 16) σ K = K (.slm σ.no 0 1 16) (σ.newO (fCells 0)) := by
 have e1 : elOf Tryz.prog 66 = some 1:=by kernel_rfl
 have e2 : elBytes Tryz.prog 66 = some 16:=by kernel_rfl
 have e3 : elZero Tryz.prog 66 = some (.str []):=by kernel_rfl
 have e4 : (16 : Int).toNat = 16:=rfl
 simp [amake,e1,e2,e3,e4,AV.cells,AV.known]
 exact Iff.rfl
section
variable {G : Env} {σ : AS} {R : Out → AS → Prop}
def F1 (σ : AS) (a : Nat → AV) (τ : AS) : Prop := ∃ i : Nat,i ≤ signText.length ∧ a 0 = .str signText ∧ a 3 = .int .i64 ((fC i).1 : Nat) ∧ a 4 = .int .i64 (if (fC i).2.1 then 1 else 0) ∧ a 5 = .int .u8 ((fC i).2.2.toNat : Nat) ∧ a 6 = .int .i64 (i : Nat) ∧ τ = σ
def F4 (σ : AS) (x : Nat) (a : Nat → AV) (τ : AS) : Prop := ∃ i : Nat,i ≤ signText.length ∧ a 0 = .str signText ∧ a 9 = .slm x 0 1 16 ∧ a 10 = .int .i64 ((fS i).2 : Nat) ∧ a 11 = .int .i64 ((fS i).1 : Nat) ∧ a 12 = .int .i64 (i : Nat) ∧ Adds σ τ ∧ x < τ.no ∧ τ.objs x = some (fCells (fS i).2)
theorem fields_calls (V : VarsB G) (h : ∀ x σ',Adds σ σ' → σ.no ≤ x → x < σ'.no → σ'.objs x = some (signNames.map AV.str) → R (.ret (.slm x 0 1 16)) σ') : ACalls Tryz.prog G 107 [.str signText] σ R := by
 refine calls107 rfl ?_
 have v3:=V.space
 have hL : signText.length = 70:=rfl
 simp [pc107]
 refine aloop (F1 σ) (MU 6 (signText.length + 1)) ⟨0,by omega,by simp,by simp [fC],by simp [fC],by simp [fC],by simp,rfl⟩ fun a τ hI=>?_
 obtain ⟨i,hi,a0,a3,a4,a5,a6,rfl⟩:=hI
 by_cases hlt : i < signText.length
 ·have hlt' : (i : Int) < (signText.length : Int):=by omega
  have hg:=List.getElem?_eq_getElem hlt
  have hf : fC (i + 1) = ((fC i).1 + (if (fC i).2.1 && !isSpB signText[i] then 1 else 0),isSpB signText[i],(fC i).2.2 ||| signText[i]):=by simp [fC,hg]
  have hn:=sb_small i
  generalize signText[i] = c at *
  have hs:=spTab_at c
  have w1 : IntKind.wrap .i64 ((i : Int) + 1) = ((i + 1 : Nat) : Int):=by rw [wrap_i64] <;> omega
  have w0 : ∀ b : UInt8,bits2 .u8 (· ||| ·) (b.toNat : Int) (c.toNat : Int) = ((b ||| c).toNat : Int):=fun b=>bits2_u8 (· ||| ·) b c
  have c1 : (c.toNat : Int) < 256:=by have:=c.toNat_lt; omega
  generalize fC i = p at *
  obtain ⟨n,ws,b⟩:=p
  have w2 : IntKind.wrap .i64 ((n : Int) + 1) = ((n + 1 : Nat) : Int):=by rw [wrap_i64] <;> omega
  have w3 : IntKind.wrap .i64 (n : Int) = (n : Int):=by rw [wrap_i64] <;> omega
  have w4 : IntKind.wrap .i64 0 = 0:=rfl
  have w5 : IntKind.wrap .i64 1 = 1:=rfl
  have z0 : bits2 .i64 (· ^^^ ·) (-1) 0 = -1:=by decide
  have z1 : bits2 .i64 (· ^^^ ·) (-1) 1 = -2:=by decide
  have z2 : bits2 .i64 (· &&& ·) 1 (-1) = 1:=by decide
  have z3 : bits2 .i64 (· &&& ·) 1 (-2) = 0:=by decide
  have z4 : bits2 .i64 (· &&& ·) 0 (-1) = 0:=by decide
  have z5 : bits2 .i64 (· &&& ·) 0 (-2) = 0:=by decide
  have z6 : IntKind.signed .i64 = true:=rfl
  cases hsp : isSpB c <;> cases ws <;> simp only [hsp,if_true,if_false,Bool.false_eq_true] at hs hf a4 ⊢ <;> simp at hn a3 a5 <;> simp [pc107_l1,a0,a3,a4,a5,a6,hlt',hg,v3,hs,c1,w0,w1,w2,w3,w4,w5,z0,z1,z2,z3,z4,z5,z6,-UInt8.toNat_or] <;> refine ⟨⟨i + 1,by omega,by simp [a0],by simp [hf],by simp [hf,hsp],by simp [hf],by simp,rfl⟩,?_⟩ <;> simp only [MU,a6] <;> simp <;> omega
 ·have hie : i = signText.length:=by omega
  subst hie
  have e1 : fC signText.length = (16,false,(fC 70).2.2):=by decide
  have e2 : ¬ (128 : Int) ≤ ((fC 70).2.2.toNat : Nat):=by decide
  rw [e1] at a3 a4 a5
  simp [pc107_l1,pc107_r4,a0,a3,a4,a5,a6,e2,amake_strs]
  refine aloop (fun a2 τ2=>a2 0 = .str signText ∧ a2 9 = .slm τ.no 0 1 16 ∧ a2 10 = .int .i64 0 ∧ a2 12 = .int .i64 0 ∧ τ2 = τ.newO (fCells 0)) (fun _ _=>0) ⟨by simp [a0],by simp,by simp,by simp,rfl⟩ fun a2 τ2 hI2=>?_
  obtain ⟨b0,b9,b10,b12,rfl⟩:=hI2
  have w5 : 0 < signText.length:=by decide
  have g0 : signText[0]'w5 = 97:=rfl
  have g1 : UInt8.toNat 97 = 97:=rfl
  have t0 : spTab[97]? = some (.int .u8 0):=(spTab_at 97).trans (by rw [show isSpB 97 = false from rfl]; rfl)
  simp [pc107_l2,pc107_r3,b0,b9,b10,b12,g0,g1,t0,v3,w5]
  refine aloop (F4 τ τ.no) (MU 12 (signText.length + 1)) ⟨0,by omega,by simp [b0],by simp [b9],by simp [b10,fS],by simp [fS],by simp [b12],(Adds.refl τ).newO,by simp,by simp [fS]⟩ fun a3 τ3 hI3=>?_
  obtain ⟨i,hi,c0,c9,c10,c11,c12,hA,hx,ho⟩:=hI3
  by_cases hlt : i < signText.length
  ·have hlt' : (i : Int) < (signText.length : Int):=by omega
   have hg:=List.getElem?_eq_getElem hlt
   obtain ⟨f1,f2⟩:=fS_fact ⟨i,by omega⟩
   have hgd : signText.getD i 0 = signText[i]:=by simp [hg]
   simp only [hgd] at f1 f2
   have w1 : IntKind.wrap .i64 ((i : Int) + 1) = ((i + 1 : Nat) : Int):=by rw [wrap_i64] <;> omega
   generalize signText[i] = c at *
   have hs:=spTab_at c
   have c1 : (c.toNat : Int) < 256:=by have:=c.toNat_lt; omega
   cases hsp : isSpB c with
   | false =>
    rw [hsp] at hs
    have f2:=f2 hsp
    simp at hs
    simp [pc107_l4,c0,c9,c10,c11,c12,hlt',hg,v3,hs,c1,w1]
    refine ⟨⟨i + 1,by omega,by simp [c0],by simp [c9],by simp [c10,f2],by simp [c11,f2],by simp,hA,hx,by simp [ho,f2]⟩,?_⟩
    simp only [MU,c12]; simp; omega
   | true =>
    rw [hsp] at hs
    obtain ⟨g1,g2,g3,g4,g5,g6⟩:=f1 hsp
    simp at hs
    simp [pc107_l4,c0,c9,c10,c11,c12,hlt',hg,v3,hs,c1,w1,ho]
    have hlen : (fCells (fS i).2).length = 16:=by
     simp only [fCells,List.length_append,List.length_map,List.length_take,List.length_replicate]
     have : signNames.length = 16:=rfl
     omega
    refine ⟨g3,by omega,by omega,by omega,?_⟩
    refine aloop (fun b τ4=>b 0 = .str signText ∧ b 9 = .slm τ.no 0 1 16 ∧ b 10 = .int .i64 (((fS i).2 + 1 : Nat) : Int) ∧ b 12 = .int .i64 ((i + 1 : Nat) : Int) ∧ Adds τ τ4 ∧ τ.no < τ4.no ∧ τ4.objs τ.no = some (fCells ((fS i).2 + 1))) (fun _ _=>0) ⟨by simp [c0],by simp [c9],by simp; rw [wrap_i64] <;> omega,by simp,hA.setO (by omega),by simp; exact hx,by simp; exact fCells_step g1⟩ fun b τ4 hI4=>?_
    obtain ⟨d0,d9,d10,d12,hA4,hx4,ho4⟩:=hI4
    have hlt2 : (((i + 1 : Nat) : Int)) < (signText.length : Int):=by omega
    have hlt3 : i + 1 < signText.length:=by omega
    have hg2:=List.getElem?_eq_getElem hlt3
    have hgd2 : signText.getD (i + 1) 0 = signText[i + 1]:=by simp [hg2]
    simp only [hgd2] at g5
    generalize signText[i + 1] = c' at *
    have hs2:=spTab_at c'
    rw [g5] at hs2
    have c1' : (c'.toNat : Int) < 256:=by have:=c'.toNat_lt; omega
    simp at hs2
    simp only [Int.natCast_add,Int.natCast_one] at d12 hlt2
    simp [pc107_l3,pc107_r1,d0,d9,d10,d12,hlt2,hg2,v3,hs2,c1']
    refine ⟨by omega,⟨i + 1,by omega,by simp [d0],by simp [d9],by simp [d10,g6],by simp [g6],by simp [d12],hA4,hx4,by simp [ho4,g6]⟩,?_⟩
    simp only [MU,c12]; simp [d12]; omega
  ·have hie : i = signText.length:=by omega
   subst hie
   have e3 : fS signText.length = (66,15):=fS_end
   rw [e3] at c10 c11 ho
   have w6 : (66 : Int) < signText.length:=by decide
   have w7 : 66 < signText.length:=by decide
   have w8 : (signText.length : Int) - 66 = 4:=by decide
   have e4 : signText.drop 66 = [103,101,95,115]:=by decide
   simp at c10 c11 ho
   simp [pc107_l4,pc107_r2,c0,c9,c10,c11,c12,ho,w6,w7]
   refine ⟨by omega,by decide,?_⟩
   rw [fCells_step (k:=15) (b:=signText.drop 66) (by decide)]
   exact h τ.no _ (hA.setO (by omega)) (by omega) (by simpa using hx) (by simp; rfl)
end
end Go.Proofs.YthejpoplbllcbaaGreatDoor
set_option linter.unusedSimpArgs false
set_option linter.unusedVariables false
namespace Go.Proofs.YthejpoplbllcbaaGreatDoor
open Go Go.Abs
def signIx (s : List UInt8) : Option Nat := signNames.findIdx? (· == s)
def keyN (w : W) : Int := if w.op = 8 ∨ w.op = 9 then w.n else 0
def hitsW (w : W) (p : UInt8 × W) : Bool := decide (p.2.op = w.op) && (decide (p.2.n = keyN w) && (decide (p.2.ty = 0) || decide (p.2.ty = w.ty)))
def lookT (w : W) : UInt8 := (((plainT ++ numT).find? (hitsW w)).map (·.1)).getD 0
def codeL (w : W) : Option UInt8 := if w.op = 4 then (match signIx w.name with
  | some i=>if w.ty = 1 then ones[i]? else if w.ty = 2 then twos[i]? else none
  | none=>none) else some (lookT w)
def left (seen : List Nat) : Nat → Nat
 | 0=>0
 | n + 1=>left seen n + if n ∈ seen then 0 else 1
theorem left_le (seen : List Nat) (i : Nat) : ∀ n,left (seen ++ [i]) n ≤ left seen n
 | 0=>Nat.le_refl _
 | n + 1=>by
  have:=left_le seen i n
  simp only [left,List.mem_append,List.mem_singleton]
  by_cases h : n ∈ seen <;> simp [h]
  ·exact this
  ·split <;> omega
theorem left_lt {seen : List Nat} {i : Nat} (h : i ∉ seen) : ∀ n,i < n → left (seen ++ [i]) n < left seen n
 | 0,hi=>by omega
 | n + 1,hi=>by
  have h2:=left_le seen i n
  simp only [left,List.mem_append,List.mem_singleton]
  by_cases hn : i = n
  ·subst hn
   simp [h]
   omega
  ·have:=left_lt h n (by omega)
   by_cases h' : n ∈ seen
   ·simp [h']; exact this
   ·have : ¬ n = i:=fun e=>hn e.symm
    simp [h',this]; exact left_lt h n (by omega)
theorem hits_one (w : W) : ∀ p ∈ plainT ++ numT,∀ q ∈ plainT ++ numT,hitsW w p = true → hitsW w q = true → p = q := by
 have key : ∀ p ∈ plainT ++ numT,∀ q ∈ plainT ++ numT,p.2.op = q.2.op → p.2.n = q.2.n → (p.2.ty = q.2.ty ∨ p.2.ty = 0 ∨ q.2.ty = 0) → p.1 = q.1 ∧ p.2.op = q.2.op:=by decide
 have key2 : ∀ p ∈ plainT ++ numT,∀ q ∈ plainT ++ numT,p.1 = q.1 → p = q:=by decide
 intro p hp q hq h1 h2
 simp only [hitsW,Bool.and_eq_true,Bool.or_eq_true,decide_eq_true_eq] at h1 h2
 refine key2 p hp q hq (key p hp q hq (h1.1.trans h2.1.symm) (h1.2.1.trans h2.2.1.symm) ?_).1
 rcases h1.2.2 with h | h
 ·exact .inr (.inl h)
 ·rcases h2.2.2 with h' | h'
  ·exact .inr (.inr h')
  ·exact .inl (h.trans h'.symm)
theorem look_hit {w : W} {p : UInt8 × W} (hp : p ∈ plainT ++ numT) (h : hitsW w p = true) : lookT w = p.1 := by
 unfold lookT
 cases hq : (plainT ++ numT).find? (hitsW w) with
 | none=>exact absurd h (by simpa using List.find?_eq_none.1 hq p hp)
 | some q=>rw [hits_one w q (List.mem_of_find?_eq_some hq) p hp (List.find?_some hq) h]; rfl
theorem look_none {w : W} (h : ∀ p ∈ plainT ++ numT,hitsW w p = false) : lookT w = 0 := by
 unfold lookT
 rw [List.find?_eq_none.2 (fun p hp=>by simp [h p hp])]
 rfl
section
variable {G : Env} {σ : AS} {R : Out → AS → Prop}
def IxI (x : Nat) (s : List UInt8) (σ : AS) (a : Nat → AV) (τ : AS) : Prop := ∃ i : Nat,i ≤ 16 ∧ a 0 = .slm x 0 1 16 ∧ a 1 = .str s ∧ a 7 = .int .i64 16 ∧ a 8 = .int .i64 (i : Int) ∧ τ = σ ∧ ∀ j,j < i → signNames[j]? ≠ some s
theorem index_calls {x : Nat} {s : List UInt8} (ho : σ.objs x = some (signNames.map AV.str)) (h : ∀ i : Nat,signIx s = some i → i < 16 → R (.ret (.int .i64 (i : Int))) σ) (h0 : signIx s = none → R (.ret (.int .i64 (-1))) σ) : ACalls Tryz.prog G 106 [.slm x 0 1 16,.str s] σ R := by
 refine calls106 rfl ?_
 have hl : signNames.length = 16:=rfl
 simp [pc106]
 refine aloop (IxI x s σ) (MU 8 17) ⟨0,by omega,by simp,by simp,by simp,by simp,rfl,by simp⟩ fun a τ hI=>?_
 obtain ⟨i,hi,a0,a1,a7,a8,rfl,hn⟩:=hI
 by_cases hlt : i < 16
 ·have hlt' : (i : Int) < 16:=by omega
  have hg:=List.getElem?_eq_getElem (show i < signNames.length by omega)
  have w1 : IntKind.wrap .i64 ((i : Int) + 1) = ((i + 1 : Nat) : Int):=by rw [wrap_i64] <;> omega
  generalize signNames[i] = y at *
  by_cases he : s = y
  ·subst he
   simp [pc106_l1,a0,a1,a7,a8,hlt',ho,hg]
   refine h i ?_ hlt
   unfold signIx
   rw [List.findIdx?_eq_some_iff_getElem]
   obtain ⟨hb,he⟩:=List.getElem?_eq_some_iff.1 hg
   refine ⟨hb,by simp [he],fun j hj=>?_⟩
   have:=hn j hj
   rw [List.getElem?_eq_getElem (show j < signNames.length by omega)] at this
   simpa using this
  ·simp [pc106_l1,a0,a1,a7,a8,hlt',ho,hg,he,w1]
   refine ⟨⟨i + 1,by omega,by simp [a0],by simp [a1],by simp [a7],by simp,rfl,fun j hj hs=>?_⟩,?_⟩
   ·rcases Nat.lt_or_ge j i with h1 | h1
    ·exact hn j h1 hs
    ·have : j = i:=by omega
     subst this
     rw [hg] at hs
     exact he (by cases hs; rfl)
   ·simp only [MU,a8]; simp; omega
 ·have hie : i = 16:=by omega
  subst hie
  simp [pc106_l1,pc106_r1,a0,a1,a7,a8]
  refine h0 ?_
  unfold signIx
  rw [List.findIdx?_eq_none_iff]
  intro y hy
  obtain ⟨j,hj,rfl⟩:=List.getElem_of_mem hy
  have:=hn j (by omega)
  rw [List.getElem?_eq_getElem hj] at this
  simpa using this
def MpI (σ : AS) (l : List (UInt8 × W)) (w : W) (k n : Nat) (v33 : AV) (a : Nat → AV) (τ : AS) : Prop := ∃ f seen,a 1 = .ptr k 0 ∧ a 3 = .int .i64 (keyN w) ∧ a 33 = v33 ∧ a 34 = .int .i64 2 ∧ a 35 = .int .i64 (n : Int) ∧ a 40 = .itr f (keysA l) (valsA l) seen ∧ σ.nf ≤ f ∧ f < τ.nf ∧ τ.F f = .alive ∧ Adds σ τ ∧ k < τ.no ∧ τ.objs k = some w.cs ∧ ∀ i ∈ seen,∀ p,l[i]? = some p → hitsW w p = false
def MLf (n : Nat) (a : Nat → AV) (_ : AS) : Nat := match a 40 with
 | .itr _ _ _ seen=>left seen n
 | _=>0
def MpO (σ : AS) (ls : List (List (UInt8 × W))) (w : W) (k : Nat) (v33 : AV) (a : Nat → AV) (τ : AS) : Prop := ∃ n : Nat,n ≤ 2 ∧ a 1 = .ptr k 0 ∧ a 3 = .int .i64 (keyN w) ∧ a 33 = v33 ∧ a 34 = .int .i64 2 ∧ a 35 = .int .i64 (n : Int) ∧ Adds σ τ ∧ k < τ.no ∧ τ.objs k = some w.cs ∧ ∀ l ∈ ls.take n,∀ p ∈ l,hitsW w p = false
@[simp] theorem anext_itr (f ks vs seen) (K : AV → AV → AS → Prop) : anext (.itr f ks vs seen) σ K = (σ.F f = .alive ∧ ((∀ i,i < ks.length → i ∈ seen) → K (.itr f ks vs seen) (.tuple [.bool false]) σ) ∧
   ∀ i k x,ks[i]? = some k → vs[i]? = some x → i ∉ seen → K (.itr σ.nf ks vs (seen ++ [i])) (.tuple [.bool true,k,x]) (σ.setF f .dead).newF):=rfl
@[simp] theorem cells_undef : AV.undef.cells = [.undef] := rfl
@[simp] theorem arange_mp (ks vs) (K : AV → AS → Prop) : arange Tryz.prog 125 (.mp ks vs) σ K = K (.itr σ.nf ks vs []) σ.newF := by
 have h : Tryz.prog.underlying 125 = some (.map 5 73):=by kernel_rfl
 simp [arange,h]
@[simp] theorem aentry_itr (f ks vs seen) (K : AV → Prop) : aentry (.itr f ks vs seen) σ K = (σ.F f = .alive ∧ bindO seen.getLast? fun i => bindO ks[i]? fun k => bindO vs[i]? fun x => K (.tuple [k,x])) := by
 simp only [aentry,bindO]
 refine propext ⟨fun ⟨h,i,k,x,h1,h2,h3,h4⟩=>⟨h,i,h1,k,h2,x,h3,h4⟩,fun ⟨h,i,h1,k,h2,x,h3,h4⟩=>⟨h,i,k,x,h1,h2,h3,h4⟩⟩
theorem keysA_at {l : List (UInt8 × W)} {i : Nat} {k x : AV} (hk : (keysA l)[i]? = some k) (hv : (valsA l)[i]? = some x) : ∃ p,l[i]? = some p ∧ k = .int .u8 (p.1.toNat : Int) ∧ x = p.2.av := by
 simp only [keysA,valsA,List.getElem?_map,Option.map_eq_some_iff] at hk hv
 obtain ⟨p,h1,rfl⟩:=hk
 obtain ⟨q,h2,rfl⟩:=hv
 rw [h1] at h2
 cases h2
 exact ⟨p,h1,rfl,rfl⟩
theorem code_body {l1 l2 : List (UInt8 × W)} {w : W} {k : Nat} (p1 : ∀ p,p ∈ l1 ↔ p ∈ plainT) (p2 : ∀ p,p ∈ l2 ↔ p ∈ numT) (h : ∀ σ',Adds σ σ' → R (.ret (.int .u8 ((lookT w).toNat : Int))) σ') {a : Nat → AV} {τ : AS}
  (hI : MpO σ [l1,l2] w k (.sl (.stat true) 1 [.mp (keysA l1) (valsA l1),.mp (keysA l2) (valsA l2)]) a τ) :
  avc Tryz.prog G 71 pc84_l2 (athen (fun a' σ'=>MpO σ [l1,l2] w k (.sl (.stat true) 1 [.mp (keysA l1) (valsA l1),.mp (keysA l2) (valsA l2)]) a' σ' ∧ MU 35 3 a' σ' < MU 35 3 a τ)
   (ablock 0 (athen (avc Tryz.prog G 71 pc84_r2 (afin Tryz.prog [.tmp 2] R)) (afin Tryz.prog [.tmp 2] R)))) a τ:=by
 obtain ⟨n,hn,a1,a3,a33,a34,a35,hA,hk,ho,hno⟩:=hI
 rcases Nat.lt_or_ge n 2 with hlt | hge
 ·have hlt' : (n : Int) < 2:=by omega
  have w1 : IntKind.wrap .i64 ((n : Int) + 1) = ((n + 1 : Nat) : Int):=by rw [wrap_i64] <;> omega
  obtain ⟨l,hl,hlx,hsub⟩ : ∃ l,[AV.mp (keysA l1) (valsA l1),.mp (keysA l2) (valsA l2)][n]? = some (.mp (keysA l) (valsA l)) ∧ ([l1,l2] : List _)[n]? = some l ∧ ∀ p ∈ l,p ∈ plainT ++ numT:=by
   rcases Nat.lt_or_ge n 1 with h1 | h1
   ·have : n = 0:=by omega
    subst this
    exact ⟨l1,rfl,rfl,fun p hp=>List.mem_append.2 (.inl ((p1 p).1 hp))⟩
   ·have : n = 1:=by omega
    subst this
    exact ⟨l2,rfl,rfl,fun p hp=>List.mem_append.2 (.inr ((p2 p).1 hp))⟩
  have htk:=take_snoc hlx
  simp [pc84_l2,a1,a3,a33,a34,a35,hlt',hl]
  have hnf:=hA.nf
  refine aloop (MpI σ l w k n (.sl (.stat true) 1 [.mp (keysA l1) (valsA l1),.mp (keysA l2) (valsA l2)])) (MLf l.length) ⟨τ.nf,[],by simp [a1],by simp [a3],by simp [a33],by simp [a34],by simp [a35],by simp,hnf,by simp,by simp,hA.newF,by simpa using hk,by simpa using ho,by simp⟩ fun b τ2 hI2=>?_
  obtain ⟨f,seen,b1,b3,b33,b34,b35,b40,f1,f2,f3,hA2,hk2,ho2,hs⟩:=hI2
  simp [pc84_l1,b40,f3]
  refine ⟨fun hall=>?_,fun i k' x' hk' hx' hni=>?_⟩
  ·simp [pc84_r1,b1,b3,b33,b34,b35,w1]
   refine ⟨⟨n + 1,by omega,by simp [b1],by simp [b3],by simp [b33],by simp [b34],by simp,hA2,hk2,ho2,fun l' hl' q hq=>?_⟩,?_⟩
   ·rw [htk] at hl'
    rcases List.mem_append.1 hl' with h1 | h1
    ·exact hno l' h1 q hq
    ·simp only [List.mem_singleton] at h1
     subst h1
     obtain ⟨i,hi,rfl⟩:=List.getElem_of_mem hq
     exact hs i (hall i (by simpa [keysA] using hi)) _ (List.getElem?_eq_getElem hi)
   ·simp only [MU,a35]; simp; omega
  ·obtain ⟨p,hp,rfl,rfl⟩:=keysA_at hk' hx'
   have hks : (keysA l)[i]? = some (.int .u8 (p.1.toNat : Int)):=hk'
   have hnf2:=hA2.nf
   have hmem:=hsub p (List.mem_of_getElem? hp)
   have kne : ¬ k = τ2.no:=by omega
   have kne' : ¬ τ2.no = k:=by omega
   have hil : i < l.length:=(List.getElem?_eq_some_iff.1 hp).1
   have ho2':=ho2
   simp only [W.cs] at ho2'
   have hlk:=left_lt hni l.length hil
   have go : hitsW w p = false → ∀ b' : Nat → AV,(∀ r,r ∈ [1,3,33,34,35] → b' r = b r) → b' 40 = .itr τ2.nf (keysA l) (valsA l) (seen ++ [i]) →
     MpI σ l w k n (.sl (.stat true) 1 [.mp (keysA l1) (valsA l1),.mp (keysA l2) (valsA l2)]) b' (((τ2.setF f .dead).newF.newO [.int .i64 0,.int .i64 0,.int .i64 0,.int .i64 0,.int .i64 0,.str []]).setO τ2.no p.2.cs) ∧ MLf l.length b' (((τ2.setF f .dead).newF.newO [.int .i64 0,.int .i64 0,.int .i64 0,.int .i64 0,.int .i64 0,.str []]).setO τ2.no p.2.cs) < MLf l.length b τ2:=fun hh b' hb h40=>by
    refine ⟨⟨τ2.nf,seen ++ [i],by rw [hb 1 (by simp),b1],by rw [hb 3 (by simp),b3],by rw [hb 33 (by simp),b33],by rw [hb 34 (by simp),b34],by rw [hb 35 (by simp),b35],h40,by omega,by simp,by simp,?_,by simp; omega,by simp [kne]; exact ho2,fun j hj q hq=>?_⟩,?_⟩
    ·exact (((hA2.setF f1).newF (σ':=τ2.setF f .dead)).newO).setO hA2.no
    ·rcases List.mem_append.1 hj with h1 | h1
     ·exact hs j h1 q hq
     ·simp only [List.mem_singleton] at h1
      subst h1
      rw [hp] at hq
      cases hq
      exact hh
    ·simp only [MLf,h40,b40]
     exact hlk
   have fin : hitsW w p = true → ∀ σ',Adds σ σ' → R (.ret (.int .u8 (p.1.toNat : Int))) σ':=fun hh σ' A'=>by
    have:=h σ' A'
    rwa [look_hit hmem hh] at this
   have hAf : Adds σ (((τ2.setF f .dead).newF.newO [.int .i64 0,.int .i64 0,.int .i64 0,.int .i64 0,.int .i64 0,.str []]).setO τ2.no p.2.cs):=(((hA2.setF f1).newF (σ':=τ2.setF f .dead)).newO).setO hA2.no
   simp only [W.cs] at go hAf
   by_cases c1 : w.op = p.2.op
   ·by_cases c2 : keyN w = p.2.n
    ·by_cases c3 : p.2.ty = 0
     ·simp [b1,b3,b33,b34,b35,hk',hx',W.av,W.cs,splice,ho2',kne,kne',c1,c2,c3]
      refine fin (by simp [hitsW,c1,c2,c3]) _ ?_
      simpa [c3] using hAf
     ·by_cases c4 : w.ty = p.2.ty
      ·simp [b1,b3,b33,b34,b35,hk',hx',W.av,W.cs,splice,ho2',kne,kne',c1,c2,c3,c4]
       exact fin (by simp [hitsW,c1,c2,c3,c4]) _ hAf
      ·have c4' : ¬ p.2.ty = w.ty:=fun e=>c4 e.symm
       simp [b1,b3,b33,b34,b35,hk',hx',W.av,W.cs,splice,ho2',kne,kne',c1,c2,c3,c4,c4']
       refine go (by simp [hitsW,c3,c4']) _ (fun r hr=>?_) (by simp)
       simp at hr; rcases hr with rfl | rfl | rfl | rfl | rfl <;> simp
    ·have c2' : ¬ p.2.n = keyN w:=fun e=>c2 e.symm
     simp [b1,b3,b33,b34,b35,hk',hx',W.av,W.cs,splice,ho2',kne,kne',c1,c2,c2']
     refine go (by simp [hitsW,c2']) _ (fun r hr=>?_) (by simp)
     simp at hr; rcases hr with rfl | rfl | rfl | rfl | rfl <;> simp
   ·have c1' : ¬ p.2.op = w.op:=fun e=>c1 e.symm
    simp [b1,b3,b33,b34,b35,hk',hx',W.av,W.cs,splice,ho2',kne,kne',c1,c1']
    refine go (by simp [hitsW,c1']) _ (fun r hr=>?_) (by simp)
    simp at hr; rcases hr with rfl | rfl | rfl | rfl | rfl <;> simp
 ·have : n = 2:=by omega
  subst this
  have hz : lookT w = 0:=look_none fun p hp=>by
   rcases List.mem_append.1 hp with hp | hp
   ·exact hno l1 (by simp) p ((p1 p).2 hp)
   ·exact hno l2 (by simp) p ((p2 p).2 hp)
  simp [pc84_l2,pc84_r2,a34,a35]
  have:=h _ hA
  rw [hz] at this
  simpa using this
theorem code_calls (V : VarsB G) {w : W} {c : UInt8} (hc : codeL w = some c) (h : ∀ σ',Adds σ σ' → R (.ret (.int .u8 (c.toNat : Int))) σ') : ACalls Tryz.prog G 84 [w.av] σ R := by
 have v0:=V.bytes
 obtain ⟨l1,hp1,v1⟩:=V.plain
 obtain ⟨l2,hp2,v2⟩:=V.nums
 have A0 : Adds σ (σ.newO w.cs):=(Adds.refl σ).newO
 have hlook : w.op ≠ 4 → lookT w = c:=fun h4=>by
  unfold codeL at hc
  rw [if_neg h4] at hc
  simpa using hc
 by_cases h4 : w.op = 4
 ·unfold codeL at hc
  rw [if_pos h4] at hc
  cases hx : signIx w.name with
  | none=>rw [hx] at hc; cases hc
  | some i =>
   rw [hx] at hc
   simp only at hc
   have hi : i < 16:=by
    unfold signIx at hx
    rw [List.findIdx?_eq_some_iff_getElem] at hx
    exact hx.1
   have fin : ∀ (bs : List UInt8),bs.length = 16 → bs[i]? = some c → (w.ty = 1 ∧ bs = ones ∨ w.ty = 2 ∧ bs = twos) → ACalls Tryz.prog G 84 [w.av] σ R:=fun bs hbl hbi hty=>by
    refine calls84 rfl ?_
    have w1 : IntKind.wrap .i64 0 = 0:=rfl
    have w2 : IntKind.wrap .i64 1 = 1:=rfl
    have e1 : (1 : Int).toNat = 1:=rfl
    rcases hty with ⟨hty,rfl⟩ | ⟨hty,rfl⟩ <;>
    ·simp [pc84,W.av,W.cs,h4,v0,hty,w1,w2]
     refine fields_calls V fun x σ1 A1 hx0 hx1 hxo=>?_
     have o1:=(A1.obj σ.no (by simp)).trans (show _ = some w.cs by simp [W.cs,h4,hty])
     simp only [W.cs] at o1
     simp [o1,hty]
     refine index_calls hxo (fun i' hi' hl'=>?_) (fun hn=>by rw [hx] at hn; cases hn)
     have : i' = i:=by rw [hx] at hi'; cases hi'; rfl
     subst this
     simp [o1,hty,hbi]
     exact h _ ((by simpa [W.cs,h4,hty] using A0 : Adds σ _).trans A1)
   by_cases t1 : w.ty = 1
   ·rw [if_pos t1] at hc
    exact fin _ rfl hc (.inl ⟨t1,rfl⟩)
   ·rw [if_neg t1] at hc
    by_cases t2 : w.ty = 2
    ·rw [if_pos t2] at hc
     exact fin _ rfl hc (.inr ⟨t2,rfl⟩)
    ·rw [if_neg t2] at hc
     cases hc
 ·have hlook:=hlook h4
  refine calls84 rfl ?_
  have h' : ∀ σ',Adds σ σ' → R (.ret (.int .u8 ((lookT w).toNat : Int))) σ':=fun σ' A'=>by rw [hlook]; exact h σ' A'
  have q1 : ∀ p,p ∈ l1 ↔ p ∈ plainT:=fun p=>hp1.mem_iff
  have q2 : ∀ p,p ∈ l2 ↔ p ∈ numT:=fun p=>hp2.mem_iff
  have key : ∀ a' : Nat → AV,a' 1 = .ptr σ.no 0 → a' 3 = .int .i64 (keyN w) → a' 33 = .sl (.stat true) 1 [.mp (keysA l1) (valsA l1),.mp (keysA l2) (valsA l2)] → a' 34 = .int .i64 2 → a' 35 = .int .i64 0 →
    ALoop Tryz.prog G 71 pc84_l2 (ablock 0 (athen (avc Tryz.prog G 71 pc84_r2 (afin Tryz.prog [.tmp 2] R)) (afin Tryz.prog [.tmp 2] R))) a' (σ.newO w.cs):=fun a' e1 e3 e33 e34 e35 =>
   aloop (MpO σ [l1,l2] w σ.no (.sl (.stat true) 1 [.mp (keysA l1) (valsA l1),.mp (keysA l2) (valsA l2)])) (MU 35 3) ⟨0,by omega,e1,e3,e33,e34,by simpa using e35,A0,by simp,by simp,by simp⟩ fun b τ hI=>code_body q1 q2 h' hI
  simp only [W.cs] at key
  by_cases h8 : w.op = 8
  ·simp [pc84,W.av,W.cs,h4,h8,v1,v2]
   refine ?_
   simp only [← h8]
   exact key _ (by simp) (by simp [keyN,h8]) (by simp) (by simp) (by simp)
  ·by_cases h9 : w.op = 9
   ·simp [pc84,W.av,W.cs,h4,h8,h9,v1,v2]
    simp only [← h9]
    exact key _ (by simp) (by simp [keyN,h9]) (by simp) (by simp) (by simp)
   ·simp [pc84,W.av,W.cs,h4,h8,h9,v1,v2]
    exact key _ (by simp) (by simp [keyN,h8,h9]) (by simp) (by simp) (by simp)
end
end Go.Proofs.YthejpoplbllcbaaGreatDoor
set_option linter.unusedSimpArgs false
set_option linter.unusedVariables false
namespace Go.Proofs.YthejpoplbllcbaaGreatDoor
open Go Go.Abs
section
variable {G : Env} {σ : AS} {R : Out → AS → Prop}
theorem NewB.keep {σ τ τ' v x} (h : NewB σ τ v x) (A : Adds τ τ') : NewB σ τ' v x := ⟨h.1.keep A,h.2.trans A⟩
theorem grow_bytes {τ : AS} {v : AV} {ys : List AV} {x y : List UInt8} {K : AV → AS → Prop} (h1 : NewB σ τ v x) (e : ys = B y) (hl : x.length + y.length ≤ 2 ^ 42) (h : ∀ v' σ',NewB σ σ' v' (x ++ y) → K v' σ') : grown 1 1 v ys τ K := by
 subst e
 obtain ⟨ho,hA⟩:=h1
 have hgn:=hA.nf
 rcases ho with ⟨h0,rfl⟩ | ⟨g,rfl,g1,g2,g3⟩
 ·have hx : x = []:=by simpa [B] using h0
  subst hx
  cases y with
  | nil=>simp [B]; exact h _ _ ⟨.inl ⟨rfl,rfl⟩,hA⟩
  | cons c y =>
   have e1 : B (c :: y) = AV.int .u8 (c.toNat : Int) :: B y:=rfl
   rw [e1]
   simp
   refine ⟨by simp at hl; omega,?_⟩
   exact h _ _ ⟨.inr ⟨τ.nf,by simp [B],hgn,by simp,by simp⟩,hA.newF⟩
 ·simp [g3]
  exact ⟨by omega,h _ _ ⟨.inr ⟨τ.nf,by simp,hgn,by simp,by simp⟩,(hA.setF g1).newF (σ':=τ.setF g .dead)⟩⟩
def RowT (T : Nat → Nat) (τ : AS) (v : AV) (bs : List UInt8) : Prop := (bs = [] ∧ v = .nilsl) ∨ ∃ φ,v = .sl φ 1 (B bs) ∧ Al.Rd τ φ ∧ ∀ r b,φ = .fam r b → T r = 0
def GrowT (T : Nat → Nat) (i : Nat) (σ τ : AS) (v : AV) (l : List (List UInt8)) : Prop := (l = [] ∧ v = .nilsl) ∨ ∃ φ vs,v = .sl φ 1 vs ∧ (φ = .stat true ∨ ∃ g,φ = .fam g false ∧ σ.nf ≤ g ∧ g < τ.nf ∧ τ.F g = .alive ∧ T g = i) ∧ All2 (RowT T τ) vs l
def FreshT (T : Nat → Nat) (τ : AS) : Prop := ∀ f,τ.nf ≤ f → T f = 0
theorem RowT.keep {T τ τ' v bs} (h : RowT T τ v bs) (A : Adds τ τ') : RowT T τ' v bs := by
 rcases h with h | ⟨φ,h,r,k⟩
 ·exact .inl h
 ·exact .inr ⟨φ,h,r.keep A,k⟩
theorem GrowT.keep {T i σ τ τ' v l} (h : GrowT T i σ τ v l) (A : Adds τ τ') : GrowT T i σ τ' v l := by
 rcases h with h | ⟨φ,vs,h,r,k⟩
 ·exact .inl h
 ·refine .inr ⟨φ,vs,h,?_,Al.all2_mono k fun _ _ q=>q.keep A⟩
  rcases r with r | ⟨g,h1,h2,h3,h4,h5⟩
  ·exact .inl r
  ·exact .inr ⟨g,h1,h2,by have:=A.nf; omega,(A.fam g h3).trans h4,h5⟩
theorem RowT.byt {T τ v bs} (h : RowT T τ v bs) : BytO τ v bs := by
 rcases h with h | ⟨φ,h,r,_⟩
 ·exact .inl h
 ·exact .inr ⟨φ,h,r⟩
theorem GrowT.bys {T i σ τ v l} (h : GrowT T i σ τ v l) : BysO τ v l := by
 rcases h with h | ⟨φ,vs,h,r,k⟩
 ·exact .inl h
 ·refine .inr ⟨φ,vs,h,?_,Al.all2_mono k fun _ _ q=>q.byt⟩
  rcases r with rfl | ⟨g,rfl,h2,h3,h4,h5⟩
  ·exact trivial
  ·exact ⟨h3,h4⟩
theorem RowT.step {T τ1 v bs g i j} (h : RowT T τ1 v bs) (hg : T g = i) (hi : 1 ≤ i) : RowT (upd T τ1.nf j) (τ1.setF g .dead).newF v bs := by
 rcases h with h | ⟨φ,h,r,k⟩
 ·exact .inl h
 ·refine .inr ⟨φ,h,?_,fun r' b e=>?_⟩
  ·cases φ with
   | stat b=>exact trivial
   | fam f b =>
    have h0:=k f b rfl
    obtain ⟨h1,h2⟩:=r
    have hfg : f ≠ g:=fun e=>by rw [e] at h0; omega
    refine ⟨by simp; omega,?_⟩
    have : ¬ f = τ1.nf:=by omega
    simp [upd_at,this,hfg,h2]
  ·subst e
   have:=r.1
   have : ¬ r' = τ1.nf:=by omega
   simp [upd_at,this]
   exact k r' b rfl
theorem RowT.new {T τ1 v bs j} (h : RowT T τ1 v bs) : RowT (upd T τ1.nf j) τ1.newF v bs := by
 rcases h with h | ⟨φ,h,r,k⟩
 ·exact .inl h
 ·refine .inr ⟨φ,h,r.keep (Adds.refl _).newF,fun r' b e=>?_⟩
  subst e
  have:=r.1
  have : ¬ r' = τ1.nf:=by omega
  simp [upd_at,this]
  exact k r' b rfl
theorem GrowT.step {T σ τ1 v l g i j k} (h : GrowT T j σ τ1 v l) (hg : T g = i) (hi : 1 ≤ i) (hij : j ≠ i) : GrowT (upd T τ1.nf k) j σ (τ1.setF g .dead).newF v l := by
 rcases h with h | ⟨φ,vs,h,r,q⟩
 ·exact .inl h
 ·refine .inr ⟨φ,vs,h,?_,Al.all2_mono q fun _ _ q=>q.step hg hi⟩
  rcases r with r | ⟨f,h1,h2,h3,h4,h5⟩
  ·exact .inl r
  ·have hne : ¬ f = τ1.nf:=by omega
   have hfg : f ≠ g:=fun e=>by rw [e] at h5; omega
   exact .inr ⟨f,h1,h2,by simp; omega,by simp [upd_at,hne,hfg,h4],by simp [upd_at,hne,h5]⟩
theorem GrowT.new {T σ τ1 v l j k} (h : GrowT T j σ τ1 v l) : GrowT (upd T τ1.nf k) j σ τ1.newF v l := by
 rcases h with h | ⟨φ,vs,h,r,q⟩
 ·exact .inl h
 ·refine .inr ⟨φ,vs,h,?_,Al.all2_mono q fun _ _ q=>q.new⟩
  rcases r with r | ⟨f,h1,h2,h3,h4,h5⟩
  ·exact .inl r
  ·have hne : ¬ f = τ1.nf:=by omega
   exact .inr ⟨f,h1,h2,by simp; omega,by simp [upd_at,hne,h4],by simp [upd_at,hne,h5]⟩
theorem NewB.row {T τ τ1 v bs} (h : NewB τ τ1 v bs) (hT : FreshT T τ) : RowT T τ1 v bs := by
 rcases h.1 with ⟨h1,h2⟩ | ⟨g,h1,h2,h3,h4⟩
 ·exact .inl ⟨by simpa [B] using h1,h2⟩
 ·exact .inr ⟨_,h1,⟨h3,h4⟩,fun r b e=>by cases e; exact hT g h2⟩
theorem grow_row {T : Nat → Nat} {i : Nat} {τ : AS} {v row : AV} {l : List (List UInt8)} {bs : List UInt8} {K : AV → AS → Prop} (hi : 1 ≤ i) (hG : GrowT T i σ τ v l) (hN : RowT T τ row bs) (hT : FreshT T τ) (A : Adds σ τ) (hl : l.length < 2 ^ 40)
  (h : ∀ v' τ' T',GrowT T' i σ τ' v' (l ++ [bs]) → FreshT T' τ' → Adds σ τ' → (∀ j v2 l2,j ≠ i → GrowT T j σ τ v2 l2 → GrowT T' j σ τ' v2 l2) → K v' τ') : grown 24 1 v [row] τ K:=by
 have hgn:=A.nf
 have fr : FreshT (upd T τ.nf i) τ.newF:=fun f hf=>by
  have hf' : τ.nf + 1 ≤ f:=hf
  have : ¬ f = τ.nf:=by omega
  simp [upd_at,this]
  exact hT f (by omega)
 rcases hG with ⟨rfl,rfl⟩ | ⟨φ,vs,rfl,hφ,hv⟩
 ·simp
  refine h _ _ (upd T τ.nf i) (.inr ⟨_,[row],rfl,.inr ⟨τ.nf,rfl,hgn,by simp,by simp,by simp [upd_at]⟩,.cons hN.new .nil⟩) fr A.newF fun j v2 l2 hj h2=>h2.new
 ·have hvl:=hv.length
  rcases hφ with rfl | ⟨g,rfl,g1,g2,g3,g4⟩
  ·simp [grown]
   refine ⟨by omega,?_⟩
   exact h _ _ (upd T τ.nf i) (.inr ⟨_,_,rfl,.inr ⟨τ.nf,rfl,hgn,by simp,by simp,by simp [upd_at]⟩,(Al.all2_mono hv fun _ _ q=>q.new).append (.cons hN.new .nil)⟩) fr A.newF fun j v2 l2 hj h2=>h2.new
  ·simp [g3]
   refine ⟨by omega,?_⟩
   refine h _ _ (upd T τ.nf i) (.inr ⟨_,_,rfl,.inr ⟨τ.nf,rfl,hgn,by simp,by simp,by simp [upd_at]⟩,(Al.all2_mono hv fun _ _ q=>q.step g4 hi).append (.cons (hN.step g4 hi) .nil)⟩) (fun f hf=>fr f hf) ((A.setF g1).newF (σ':=τ.setF g .dead)) fun j v2 l2 hj h2=>h2.step g4 hi hj
end
end Go.Proofs.YthejpoplbllcbaaGreatDoor
set_option linter.unusedSimpArgs false
set_option linter.unusedVariables false
namespace Go.Proofs.YthejpoplbllcbaaGreatDoor
open Go Go.Abs
def runN (t : Int) : List Int → Nat
 | []=>0
 | x :: r=>if x = t then runN t r + 1 else 0
def localsRows : Nat → List Int → List (List UInt8)
 | 0,_=>[]
 | _ + 1,[]=>[]
 | k + 1,t :: r=>(uI ((runN t r + 1 : Nat) : Int) ++ [byteI (128 - t)]) :: localsRows k (r.drop (runN t r))
def localsL (l : List Int) : List UInt8 := rowL (localsRows l.length l)
theorem runN_le (t : Int) : ∀ l,runN t l ≤ l.length
 | []=>Nat.le_refl _
 | x :: r=>by
  have:=runN_le t r
  simp only [runN,List.length_cons]
  split <;> omega
theorem runN_at {t : Int} : ∀ {l : List Int} {i : Nat},i < runN t l → l[i]? = some t
 | [],i,h=>by simp [runN] at h
 | x :: r,i,h=>by
  simp only [runN] at h
  split at h
  ·rename_i e
   cases i with
   | zero=>simp [e]
   | succ i=>simp; exact runN_at (by omega)
  ·omega
theorem runN_end {t : Int} : ∀ {l : List Int},runN t l < l.length → l[runN t l]? ≠ some t
 | [],h=>by simp at h
 | x :: r,h=>by
  simp only [runN] at h ⊢
  split
  ·rename_i e
   simp only [e,if_true,List.length_cons] at h
   simp
   exact runN_end (by omega)
  ·rename_i e
   simp [e]
theorem localsRows_drop : ∀ (k j : Nat) (l : List Int),l.length ≤ k → l.length ≤ j → localsRows k l = localsRows j l
 | 0,j,[],_,_=>by cases j <;> rfl
 | k + 1,j,[],_,_=>by cases j <;> rfl
 | 0,_,t :: r,h,_=>by simp at h
 | k + 1,0,t :: r,_,h=>by simp at h
 | k + 1,j + 1,t :: r,h,h'=>by
  simp only [localsRows]
  simp at h h'
  rw [localsRows_drop k j _ (by simp; omega) (by simp; omega)]
theorem localsRows_len : ∀ (k : Nat) (l : List Int),(localsRows k l).length ≤ l.length ∧ sumB (localsRows k l) ≤ 11 * l.length
 | 0,l=>by simp [localsRows,sumB]
 | k + 1,[]=>by simp [localsRows,sumB]
 | k + 1,t :: r=>by
  have ih:=localsRows_len k (r.drop (runN t r))
  have hu:=uI_len ((runN t r + 1 : Nat) : Int)
  simp only [localsRows,List.length_cons,sumB,List.map_cons,List.sum_cons,List.length_append,List.length_nil] at *
  simp only [List.length_drop] at ih
  omega
theorem IntsO.drop {σ : AS} {v : AV} {l : List Int} {n : Nat} (h : Al.IntsO σ v l) (hl : l ≠ []) (hn : n ≤ l.length) : ∃ φ,v = .sl φ 1 (l.map (.int .i64)) ∧ Al.Rd σ φ := by
 rcases h with ⟨rfl,_⟩ | h
 ·exact absurd rfl hl
 ·exact h
section
variable {G : Env} {σ : AS} {R : Out → AS → Prop}
def LoI (σ : AS) (l0 : List Int) (a : Nat → AV) (τ : AS) : Prop := ∃ (l : List Int) (done : List (List UInt8)) (T : Nat → Nat),done ++ localsRows l.length l = localsRows l0.length l0 ∧ l.length ≤ l0.length ∧ done.length + l.length ≤ l0.length ∧ Al.IntsO σ (a 0) l ∧ GrowT T 1 σ τ (a 3) done ∧ FreshT T τ ∧ Adds σ τ
def MLo (a : Nat → AV) (_ : AS) : Nat := match a 0 with
 | .sl _ _ xs=>xs.length
 | _=>0
def LoJ (v0 v3 : AV) (τ0 : AS) (t : Int) (r : List Int) (a : Nat → AV) (τ : AS) : Prop := ∃ i : Nat,i ≤ runN t r ∧ a 0 = v0 ∧ a 3 = v3 ∧ a 4 = .int .i64 ((i + 1 : Nat) : Int) ∧ τ = τ0
theorem locals_calls {v : AV} {l : List Int} (hv : Al.IntsO σ v l) (hl : l.length ≤ 2 ^ 34) (h : ∀ v' σ',NewB σ σ' v' (localsL l) → R (.ret v') σ') : ACalls Tryz.prog G 43 [v] σ R := by
 refine calls43 rfl ?_
 have v1:=hv.one
 simp [pc43]
 refine aloop (LoI σ l) MLo ⟨l,[],fun _=>0,by simp,by omega,by simp,by simpa using hv,.inl ⟨rfl,by simp⟩,fun _ _=>rfl,.refl _⟩ fun a τ hI=>?_
 obtain ⟨l',done,T,he,hl',hdl,hi0,hG,hT,hA⟩:=hI
 have hi:=hi0.keep hA
 have i1:=hi.one
 have i2:=hi.len
 cases l' with
 | nil =>
  simp at i2
  simp [pc43_l2,pc43_r2,i1,i2]
  have hd : done = localsRows l.length l:=by simpa [localsRows] using he
  subst hd
  obtain ⟨r1,r2⟩:=localsRows_len l.length l
  have g1:=hG.bys.one
  simp [g1]
  refine row_calls hG.bys (by omega) (by omega) fun v' σ' h'=>?_
  simp
  exact h _ _ ⟨h'.1.imp (fun q=>q) (fun ⟨g,q1,q2,q3⟩=>⟨g,q1,by have:=hA.nf; omega,q3⟩),hA.trans h'.2⟩
 | cons t r =>
  obtain ⟨φ,hvs,hrd0⟩:=IntsO.drop (n:=0) hi0 (by simp) (by simp)
  have hrd:=hrd0.keep hA
  have hr':=hrd.read
  have g1:=hG.bys.one
  simp [pc43_l2,hvs]
  refine aloop (LoJ (a 0) (a 3) τ t r) (MU 4 (r.length + 2)) ⟨0,by omega,by simp,by simp,by simp,rfl⟩ fun b τ2 hJ=>?_
  obtain ⟨i,hi1,b0,b3,b4,rfl⟩:=hJ
  have hrl:=runN_le t r
  rw [hvs] at b0
  have w1 : IntKind.wrap .i64 ((i : Int) + 1 + 1) = ((i + 1 + 1 : Nat) : Int):=by rw [wrap_i64] <;> simp at hl' <;> omega
  have hz : IntKind.wrap .i64 0 = 0:=rfl
  simp only [Int.natCast_add,Int.natCast_one] at b4
  have hout : ∀ c : Nat → AV,c 0 = .sl φ 1 ((t :: r).map (.int .i64)) → c 3 = a 3 → c 4 = .int .i64 ((runN t r : Int) + 1) →
    avc Tryz.prog G 41 pc43_r1 (ablock 1 (athen (fun a' σ'=>LoI σ l a' σ' ∧ MLo a' σ' < MLo a τ2) (ablock 0 (athen (avc Tryz.prog G 41 pc43_r2 (afin Tryz.prog [.tmp 2] R)) (afin Tryz.prog [.tmp 2] R))))) c τ2:=fun c c0 c3 c4=>by
   have hwt : IntKind.wrap .u8 (IntKind.wrap .i64 (128 - t)) = ((byteI (128 - t)).toNat : Int):=by
    rw [wrap_u8,byteI_nat,byteI_nat]
    simp [IntKind.wrap,IntKind.signed,IntKind.bits]
    omega
   simp [pc43_r1,c0,c3,c4,hr',hwt,g1]
   have hl3 : (r.length : Int) + 1 ≤ 2 ^ 34:=by simp at hl'; omega
   refine ⟨u_calls (by omega) fun u σ1 hu=>?_,u_calls (by omega) fun u σ1 hu=>?_⟩ <;>
   ·have hr1:=(hrd.keep hu.2).read
    have u1:=hu.byt.one
    have hul:=uI_len ((runN t r : Int) + 1)
    simp [hr1,u1,hwt]
    refine grow_bytes (y:=[byteI (128 - t)]) hu rfl (by simp; omega) fun v' τ3 h3=>?_
    have q1:=h3.byt.one
    have g3:=(hG.keep h3.2).bys.one
    have hfr3 : FreshT T τ3:=fun f hf=>hT f (by have:=h3.2.nf; omega)
    simp [q1,g3]
    refine grow_row (by omega) (hG.keep h3.2) (h3.row hT) hfr3 (hA.trans h3.2) (by simp at hdl; omega) fun v4 τ4 T4 hG4 hT4 hA4 _=>?_
    have hcut : cut φ φ.full = φ:=by cases φ <;> rfl
    have htk : List.take r.length (List.map (AV.int .i64) r) = r.map (.int .i64):=List.take_of_length_le (by simp)
    simp [c0,c4,hcut,htk]
    refine ⟨by omega,hrl,⟨r.drop (runN t r),done ++ [uI ((runN t r + 1 : Nat) : Int) ++ [byteI (128 - t)]],T4,?_,?_,?_,?_,?_,hT4,hA4⟩,?_⟩
    ·rw [← he]
     simp only [localsRows,List.length_cons,List.append_assoc,List.singleton_append]
     rw [localsRows_drop _ r.length _ (Nat.le_refl _) (by simp)]
    ·simp at hl' ⊢; omega
    ·simp at hdl ⊢; omega
    ·exact .inr ⟨φ,by simp,hrd0⟩
    ·simpa using hG4
    ·simp only [MLo,hvs]; simp; omega
  by_cases hir : i < runN t r
  ·have hx:=runN_at hir
   have hlt : (i : Int) + 1 < (r.length : Int) + 1:=by omega
   have hlt2 : (i : Int) < (r.length : Int):=by omega
   simp [pc43_l1,b0,b3,b4,hr',hx,w1,hlt,hlt2,hz]
   refine ⟨by omega,⟨i + 1,by omega,by simp [b0,hvs],by simp [b3],by simp,rfl⟩,?_⟩
   simp only [MU,b4]; simp; omega
  ·have hie : i = runN t r:=by omega
   by_cases hend : i = r.length
   ·have hlt : ¬ (i : Int) + 1 < (r.length : Int) + 1:=by omega
    have hlt2 : ¬ (i : Int) < (r.length : Int):=by omega
    simp [pc43_l1,b0,b3,b4,hr',w1,hlt,hlt2,hz]
    exact hout _ (by simp [b0]) (by simp [b3]) (by simp [b4,hie])
   ·have hlt : (i : Int) + 1 < (r.length : Int) + 1:=by omega
    have hlt2 : (i : Int) < (r.length : Int):=by omega
    have hx:=runN_end (t:=t) (l:=r) (by omega)
    have hg:=List.getElem?_eq_getElem (show i < r.length by omega)
    rw [← hie,hg] at hx
    have hne : ¬ r[i] = t:=fun e=>hx (by rw [e])
    simp [pc43_l1,b0,b3,b4,hr',hg,hne,w1,hlt,hlt2,hz]
    exact ⟨by omega,hout _ (by simp [b0]) (by simp [b3]) (by simp [b4,hie])⟩
end
end Go.Proofs.YthejpoplbllcbaaGreatDoor
set_option linter.unusedSimpArgs false
set_option linter.unusedVariables false
namespace Go.Proofs.YthejpoplbllcbaaGreatDoor
open Go Go.Abs
def tailW (w : W) : List UInt8 :=
 if w.op = 1 then sI w.n
 else if w.op = 2 ∨ w.op = 3 ∨ w.op = 10 ∨ w.op = 14 ∨ w.op = 15 then uI w.n
 else if w.op = 8 ∨ w.op = 9 then [0,0] else []
def codeS (w : W) : Option UInt8 := if w.op = 4 then codeL w else ((plainT ++ numT).find? (hitsW w)).map (·.1)
theorem codeS_code {w : W} {c : UInt8} (h : codeS w = some c) : codeL w = some c := by
 unfold codeS at h
 split at h
 ·exact h
 ·rename_i h4
  rw [codeL,if_neg h4,lookT,h]
  rfl
def nestW (w : W) : Bool := decide (w.op = 11) || decide (w.op = 12) || decide (w.op = 13)
def encW (rec : Int → Option (List UInt8)) (w : W) : Option (List UInt8) :=
 if nestW w = true then
  (rec w.body).bind fun b =>
   if w.op = 13 ∧ 0 ≤ w.other then (rec w.other).map fun o=>byteI (w.op - 9) :: 64 :: (b ++ 5 :: (o ++ [11]))
   else some (byteI (w.op - 9) :: 64 :: (b ++ [11]))
 else (codeS w).map fun c=>c :: tailW w
def encWs (rec : Int → Option (List UInt8)) : List W → Option (List UInt8)
 | []=>some []
 | w :: r=>(encW rec w).bind fun a=>(encWs rec r).map (a ++ ·)
def encL (ls : To) : Nat → Int → Option (List UInt8)
 | 0,_=>none
 | k + 1,at_=>if at_ < 0 then none else match ls[at_.toNat]? with
  | none=>none
  | some ws=>encWs (encL ls k) ws
def codeF (f : F) : Option (List UInt8) := (encL f.lists f.lists.length ((f.lists.length : Int) - 1)).map fun b => sizedL (localsL f.locals ++ b ++ [11])
def codesF : List F → Option (List (List UInt8))
 | []=>some []
 | f :: r=>(codeF f).bind fun a=>(codesF r).map (a :: ·)
def importL (s : List UInt8) (i : UInt8) : List UInt8 := sizedL [101,110,118] ++ sizedL s ++ [0,i]
def importsL : List (List UInt8) := [importL [105,110] 0,importL [111,117,116] 1,importL [116,114,97,112] 2]
def headsL (fs : List F) : List (List UInt8) := [headL [] 2,headL [2] 0,headL [1] 0] ++ fs.map fun f => headL f.params f.type
def numsF : Int → List F → List (List UInt8)
 | _,[]=>[]
 | i,_ :: r=>uI i :: numsF (i + 1) r
def namesF : Int → List F → List (List UInt8)
 | _,[]=>[]
 | i,f :: r=>(uI i ++ sizedL f.name) :: namesF (i + 1) r
def magicL : List UInt8 := [0,97,115,109,1,0,0,0]
def mainL (m : M) : Int := IntKind.wrap .i64 (m.main + 3)
def encM (m : M) : Option (List UInt8) := (codesF m.funcs).map fun codes =>
 magicL ++ (sectionL 1 (rowL (headsL m.funcs)) ++ (sectionL 2 (rowL importsL) ++ (sectionL 3 (rowL (numsF 3 m.funcs)) ++ (sectionL 5 [1,0,1] ++
  (sectionL 6 ([1,127,0,65] ++ sI m.memory ++ [11]) ++ (sectionL 7 ([1] ++ sizedL [109,97,105,110] ++ [0] ++ uI (mainL m)) ++ (sectionL 10 (rowL codes) ++
   sectionL 0 (sizedL [110,97,109,101] ++ [1] ++ sizedL (rowL (namesF 3 m.funcs))))))))))
structure Rs where
 b : List UInt8
 ls : To
 n : Nat
def takeP (n : Int) (s : Rs) : Option (List UInt8 × Rs) := if 0 ≤ n ∧ n ≤ s.b.length then some (s.b.take n.toNat,{ s with b := s.b.drop n.toNat }) else none
def byteP (s : Rs) : Option (UInt8 × Rs) := match s.b with
 | []=>none
 | c :: r=>some (c,{ s with b:=r })
def i64U (u : Nat) : Int := IntKind.wrap .i64 (u : Int)
def orS (u : Nat) (x : Nat) (k : Nat) : Nat := (u ||| (x <<< k)) % 2 ^ 64
def numG (signed : Bool) : Nat → Nat → Nat → List UInt8 → Option (Int × List UInt8)
 | 0,_,_,_=>none
 | _ + 1,_,_,[]=>none
 | k + 1,sh,u,c :: r =>
  let v:=orS u (c.toNat % 128) sh
  if c.toNat < 128 then some (i64U (if signed = true ∧ 64 ≤ c.toNat ∧ sh < 57 then orS v (2 ^ 64 - 1) (sh + 7) else v),r)
  else numG signed k (sh + 7) v r
def formN (sg : Bool) (n : Int) : List UInt8 := if sg = true then sI n else uI n
def numP (st sg : Bool) (s : Rs) : Option (Int × Rs) := (numG sg 10 0 0 s.b).bind fun p =>
 if st = true ∧ (s.b ≠ formN sg p.1 ++ p.2 ∨ (sg = false ∧ p.1 < 0)) then none else some (p.1,{ s with b:=p.2 })
def repP {α : Type} (f : Rs → Option (α × Rs)) : Nat → Rs → Option (List α × Rs)
 | 0,s=>some ([],s)
 | n + 1,s=>(f s).bind fun p=>(repP f n p.2).map fun q=>(p.1 :: q.1,q.2)
def typeP (st : Bool) (s : Rs) : Option (Int × Rs) := (byteP s).bind fun p => if st = true ∧ p.1 ≠ 126 ∧ p.1 ≠ 127 then none else some (128 - (p.1.toNat : Int),p.2)
def typesP (st : Bool) (s : Rs) : Option (List Int × Rs) := (numP st false s).bind fun p => repP (typeP st) p.1.toNat p.2
def sectionP (n : UInt8) (s : Rs) : Option Rs := (byteP s).bind fun p => if p.1 = n then (numP false false p.2).map (·.2) else none
def findT (l : List (UInt8 × W)) (c : UInt8) : Option W := (l.find? (fun p => p.1 == c)).map (·.2)
def signW (ty : Int) (i : Nat) : W := { op := 4,ty := ty,n := 0,body := 0,other := 0,name := signNames.getD i [] }
def signP (c : UInt8) : Option W := match ones.findIdx? (· == c) with
 | some i=>some (signW 1 i)
 | none=>match twos.findIdx? (· == c) with
  | some i=>some (signW 2 i)
  | none=>none
def nestP (op b o : Int) : W := { op := op,ty := 0,n := 0,body := b,other := o,name := [] }
abbrev RecP := Nat → Rs → Option ((Int × UInt8) × Rs)
def withinP (rec : RecP) (d : Nat) (c : UInt8) (s : Rs) : Option (W × Rs) := (byteP s).bind fun p => (rec (d + 1) p.2).bind fun q =>
 if c.toNat = 4 then
  if q.1.2 = 5 then (rec (d + 1) q.2).map fun r=>(nestP 13 q.1.1 r.1.1,r.2) else some (nestP 13 q.1.1 (-1),q.2)
 else some (nestP ((c.toNat : Int) + 9) q.1.1 0,q.2)
def leafP (st : Bool) (c : UInt8) (s : Rs) : Option (W × Rs) := match findT numT c with
 | some w=>(numP st (decide (w.op = 1)) s).map fun p=>({ w with n:=p.1 },p.2)
 | none=>match findT plainT c with
  | some w=>if w.op = 8 ∨ w.op = 9 then (takeP 2 s).map fun p=>(w,p.2) else some (w,s)
  | none=>(signP c).map fun w=>(w,s)
def instrP (st : Bool) (rec : RecP) (d : Nat) (c : UInt8) (s : Rs) : Option (W × Rs) :=
 if 2 ≤ c.toNat ∧ c.toNat ≤ 4 then if d < 400 then withinP rec d c s else none else leafP st c s
def listP (st : Bool) : Nat → Nat → List W → Rs → Option ((Int × UInt8) × Rs)
 | 0,_,_,_=>none
 | k + 1,d,l,s=>(byteP s).bind fun p =>
  if p.1 = 11 ∨ p.1 = 5 then some (((p.2.ls.length : Int),p.1),{ p.2 with ls:=p.2.ls ++ [l] })
  else (instrP st (fun d s=>listP st k d [] s) d p.1 p.2).bind fun q=>listP st k d (l ++ [q.1]) q.2
def groupP (st : Bool) (s : Rs) : Option (List Int × Rs) := (numP st false s).bind fun p =>
 if 0 ≤ p.1 ∧ p.1 ≤ 65536 - (p.2.n : Int) then (typeP st { p.2 with n:=p.2.n + p.1.toNat }).map fun q=>(List.replicate p.1.toNat q.1,q.2) else none
def functionP (st : Bool) (f : F) (s : Rs) : Option (F × Rs) := (numP st false s).bind fun p => (numP st false p.2).bind fun q => (repP (groupP st) q.1.toNat q.2).bind fun l =>
 (listP st (l.2.b.length + 1) 0 [] { l.2 with ls:=[] }).map fun r=>({ f with locals:=f.locals ++ l.1.flatten,lists:=r.2.ls },r.2)
def headP (st : Bool) (s : Rs) : Option (F × Rs) := (byteP s).bind fun p => (typesP st p.2).bind fun q => (typesP st q.2).map fun r =>
 ({ name:=[],params:=q.1,locals:=[],type:=r.1.headD 0,lists:=[] },r.2)
def headsP (s : Rs) : Option (List F × Rs) := (sectionP 1 s).bind fun s => (numP false false s).bind fun p => (repP (headP false) p.1.toNat p.2).bind fun q =>
 if 3 ≤ q.1.length then some (q.1.drop 3,q.2) else none
def skipP (n : Int) (s : Rs) : Option Rs := (takeP n s).map (·.2)
def functionsP (st : Bool) : List F → Rs → Option (List F × Rs)
 | [],s=>some ([],s)
 | f :: r,s=>(functionP st f s).bind fun p=>(functionsP st r p.2).map fun q=>(p.1 :: q.1,q.2)
def namesP (st : Bool) : List F → Rs → Option (List F × Rs)
 | [],s=>some ([],s)
 | f :: r,s=>(numP st false s).bind fun p=>(numP st false p.2).bind fun q=>(takeP q.1 q.2).bind fun t=>(namesP st r t.2).map fun u=>({ f with name:=t.1 } :: u.1,u.2)
def frontP (s : Rs) : Option ((List F × Int × Int) × Rs) := (skipP 8 s).bind fun s => (headsP s).bind fun h => (sectionP 2 h.2).bind fun s => (skipP 1 s).bind fun s => (skipP 9 s).bind fun s => (skipP 10 s).bind fun s => (skipP 11 s).bind fun s =>
 (sectionP 3 s).bind fun s=>(numP false false s).bind fun p=>(repP (numP false false) p.1.toNat p.2).bind fun r=>(sectionP 5 r.2).bind fun s=>(skipP 3 s).bind fun s=>(sectionP 6 s).bind fun s=>(skipP 4 s).bind fun s =>
 (numP false true s).bind fun mem=>(skipP 1 mem.2).bind fun s=>(sectionP 7 s).bind fun s=>(skipP 7 s).bind fun s=>(numP false false s).map fun mn=>((h.1,mem.1,mn.1),mn.2)
def backP (h : List F) (s : Rs) : Option (List F × Rs) := (sectionP 10 s).bind fun s => (numP false false s).bind fun c =>
 if c.1 = h.length then (functionsP false h c.2).bind fun fs=>(sectionP 0 fs.2).bind fun s=>(skipP 6 s).bind fun s=>(numP false false s).bind fun x=>(numP false false x.2).bind fun y =>
  if y.1 = h.length then namesP false fs.1 y.2 else none
 else none
def moduleP (s : Rs) : Option (M × Rs) := (frontP s).bind fun p => (backP p.1.1 p.2).map fun q => ({ funcs := q.1,memory := p.1.2.1,main := IntKind.wrap .i64 (p.1.2.2 - 3) },q.2)
def oddT (t : Int) : Bool := decide (t ≠ 1) && decide (t ≠ 2)
def typedF (f : F) : Bool := !(f.params.any oddT || (f.locals.any oddT || (decide (f.type ≠ 0) && oddT f.type)))
def belowW (w : W) : Bool := decide (w.n < 0) && decide (w.op ≠ 1)
def rangedM (m : M) : Bool := decide (-3 ≤ m.main) && !(m.funcs.any fun f => f.lists.any fun l => l.any belowW)
def decodeP (b : List UInt8) : Option M := (moduleP ⟨b,[],0⟩).bind fun p => if p.2.b = [] ∧ p.1.funcs.all typedF = true ∧ rangedM p.1 = true ∧ encM p.1 = some b then some p.1 else none
end Go.Proofs.YthejpoplbllcbaaGreatDoor
set_option linter.unusedSimpArgs false
set_option linter.unusedVariables false
namespace Go.Proofs.YthejpoplbllcbaaGreatDoor
open Go Go.Abs
theorem wrap_congr {a b : Int} (h : a % 2 ^ 64 = b % 2 ^ 64) : IntKind.wrap .i64 a = IntKind.wrap .i64 b := by
 have h' : a % (2 ^ IntKind.i64.bits : Int) = b % (2 ^ IntKind.i64.bits : Int):=h
 unfold IntKind.wrap
 rw [h']
theorem orS_eq {u x k : Nat} (h : u < 2 ^ k) : orS u x k = (u + x * 2 ^ k) % 2 ^ 64 := by
 unfold orS
 rw [Nat.or_comm,← Nat.shiftLeft_add_eq_or_of_lt h,Nat.shiftLeft_eq,Nat.add_comm]
theorem byte_nat {m : Nat} (h : m ≤ 127) : (byteI (m : Int)).toNat = m := by
 have:=byteI_nat (m : Int)
 omega
set_option maxRecDepth 20000 in
theorem or128 (b : UInt8) : (b ||| 128).toNat = 128 + b.toNat % 128 := by
 have : ∀ k : Fin 256,(UInt8.ofNat k.1 ||| 128).toNat = 128 + k.1 % 128:=by decide
 have:=this ⟨b.toNat,b.toNat_lt⟩
 simpa using this
set_option maxRecDepth 20000 in
theorem and127 (b : UInt8) : (b &&& 127).toNat = b.toNat % 128 := by
 have : ∀ k : Fin 256,(UInt8.ofNat k.1 &&& 127).toNat = k.1 % 128:=by decide
 have:=this ⟨b.toNat,b.toNat_lt⟩
 simpa using this
theorem pow7 (k : Nat) : 2 ^ (k + 7) = 2 ^ k * 128 := by rw [Nat.pow_add]
theorem numG_u : ∀ (k sh u m : Nat) (rest : List UInt8),m < 128 ^ k → u < 2 ^ sh → 1 ≤ k → numG false k sh u (uF k (m : Int) ++ rest) = some (IntKind.wrap .i64 ((u + m * 2 ^ sh : Nat) : Int),rest)
 | 0,_,_,_,_,_,_,h=>by omega
 | k + 1,sh,u,m,rest,hm,hu,_=>by
  rw [uF]
  by_cases h : m ≤ 127
  ·have h' : (m : Int) ≤ 127:=by omega
   rw [if_pos h']
   have hb:=byte_nat h
   have hl : m < 128:=by omega
   have hm' : m % 128 = m:=Nat.mod_eq_of_lt hl
   simp only [List.cons_append,List.nil_append,numG,hb,hl,if_true,hm',i64U,Bool.false_eq_true,false_and,if_false]
   rw [orS_eq hu]
   congr 2
   exact wrap_congr (by omega)
  ·have h' : ¬ (m : Int) ≤ 127:=by omega
   rw [if_neg h']
   have hb : (byteI (m : Int) ||| 128).toNat = 128 + m % 128:=by
    rw [or128]
    have:=byteI_nat (m : Int)
    omega
   have hl : ¬ 128 + m % 128 < 128:=by omega
   have hm' : (128 + m % 128) % 128 = m % 128:=by omega
   have hd : (m : Int) / 128 = ((m / 128 : Nat) : Int):=by omega
   have hk : 1 ≤ k:=by
    rcases Nat.eq_zero_or_pos k with rfl | h
    ·simp at hm; omega
    ·exact h
   have hlt : m / 128 < 128 ^ k:=by
    rw [Nat.pow_succ] at hm
    exact Nat.div_lt_of_lt_mul (by rw [Nat.mul_comm]; exact hm)
   simp only [List.cons_append,numG,hb,hl,if_false,hm',hd]
   have hv : orS u (m % 128) sh < 2 ^ (sh + 7):=by
    rw [orS_eq hu]
    have hp:=pow7 sh
    refine Nat.lt_of_le_of_lt (Nat.mod_le _ _) ?_
    have : m % 128 * 2 ^ sh ≤ 127 * 2 ^ sh:=Nat.mul_le_mul_right _ (by omega)
    omega
   rw [numG_u k (sh + 7) _ (m / 128) rest hlt hv hk]
   congr 2
   refine wrap_congr ?_
   rw [orS_eq hu,pow7 sh]
   have e : m * 2 ^ sh = m % 128 * 2 ^ sh + m / 128 * (2 ^ sh * 128):=by
    conv=>lhs; rw [← Nat.mod_add_div m 128]
    rw [Nat.add_mul,Nat.mul_comm 128,Nat.mul_assoc,Nat.mul_comm 128]
   rw [e]
   clear hv hl hb hm' hd hm h h' hlt e
   generalize m % 128 * 2 ^ sh = x
   generalize m / 128 * (2 ^ sh * 128) = y
   omega
theorem numG_s : ∀ (k sh u : Nat) (n : Int) (rest : List UInt8),-(64 * 128 ^ k) ≤ n → n < 64 * 128 ^ k → u < 2 ^ sh → numG true (k + 1) sh u (sF (k + 1) n ++ rest) = some (IntKind.wrap .i64 ((u : Int) + n * 2 ^ sh),rest)
 | k,sh,u,n,rest,h1,h2,hu=>by
  rw [sF]
  by_cases h : -64 ≤ n ∧ n ≤ 63
  ·rw [if_pos h]
   have hb : ((byteI n &&& 127).toNat : Int) = n % 128:=by
    rw [and127]
    have:=byteI_nat n
    omega
   have hl : (byteI n &&& 127).toNat < 128:=by omega
   generalize hc : (byteI n &&& 127).toNat = c at *
   have hm' : c % 128 = c:=Nat.mod_eq_of_lt hl
   simp only [List.cons_append,List.nil_append,numG,hc,hl,if_true,hm',i64U,true_and]
   have hp : (0 : Int) < 2 ^ sh:=by exact_mod_cast Nat.two_pow_pos sh
   have he : ((2 ^ sh : Nat) : Int) = 2 ^ sh:=by simp
   by_cases hx : 64 ≤ c
   ·have hn : n = (c : Int) - 128:=by omega
    by_cases hs : sh < 57
    ·rw [if_pos ⟨hx,hs⟩]
     have hv : orS u c sh < 2 ^ (sh + 7):=by
      rw [orS_eq hu]
      have hp:=pow7 sh
      refine Nat.lt_of_le_of_lt (Nat.mod_le _ _) ?_
      have : c * 2 ^ sh ≤ 127 * 2 ^ sh:=Nat.mul_le_mul_right _ (by omega)
      omega
     congr 2
     refine wrap_congr ?_
     rw [orS_eq hv,orS_eq hu,pow7 sh,hn]
     have e : ((c : Int) - 128) * 2 ^ sh = ((c * 2 ^ sh : Nat) : Int) - ((2 ^ sh * 128 : Nat) : Int):=by
      have hP : (2 : Int) ^ sh = ((2 ^ sh : Nat) : Int):=by rw [Int.natCast_pow]; rfl
      rw [hP,Int.sub_mul,Int.natCast_mul c,Int.natCast_mul (2 ^ sh) 128,Int.mul_comm 128]
      rfl
     rw [e]
     generalize c * 2 ^ sh = x
     have e2 : (2 ^ 64 - 1) * (2 ^ sh * 128) + (2 ^ sh * 128) = 2 ^ 64 * (2 ^ sh * 128):=by omega
     generalize 2 ^ sh * 128 = y at *
     omega
    ·rw [if_neg (fun h=>hs h.2)]
     congr 2
     refine wrap_congr ?_
     rw [orS_eq hu,hn]
     obtain ⟨j,rfl⟩ : ∃ j,sh = 57 + j:=⟨sh - 57,by omega⟩
     have e0 : 128 * 2 ^ (57 + j) = 2 ^ 64 * 2 ^ j:=by
      rw [Nat.pow_add,← Nat.mul_assoc]
     have e : ((c : Int) - 128) * 2 ^ (57 + j) = ((c * 2 ^ (57 + j) : Nat) : Int) - ((2 ^ 64 * 2 ^ j : Nat) : Int):=by
      have hP : (2 : Int) ^ (57 + j) = ((2 ^ (57 + j) : Nat) : Int):=by rw [Int.natCast_pow]; rfl
      rw [hP,← e0,Int.sub_mul,Int.natCast_mul c,Int.natCast_mul 128]
      rfl
     rw [e]
     generalize c * 2 ^ (57 + j) = x
     generalize 2 ^ j = y at *
     omega
   ·rw [if_neg (fun h=>hx h.1)]
    have hn : n = (c : Int):=by omega
    congr 2
    refine wrap_congr ?_
    rw [orS_eq hu,hn]
    have hP : (2 : Int) ^ sh = ((2 ^ sh : Nat) : Int):=by rw [Int.natCast_pow]; rfl
    rw [hP,← Int.natCast_mul]
    generalize c * 2 ^ sh = x
    omega
  ·rw [if_neg h]
   obtain ⟨k,rfl⟩ : ∃ j,k = j + 1:=by
    cases k with
    | zero=>simp at h1 h2; omega
    | succ k=>exact ⟨k,rfl⟩
   have hb : ((byteI n ||| 128).toNat : Int) = 128 + n % 128:=by
    rw [or128]
    have:=byteI_nat n
    omega
   generalize hc : (byteI n ||| 128).toNat = c at *
   have hl : ¬ c < 128:=by omega
   have hlt : n / 128 < 64 * 128 ^ k:=by
    rw [Int.pow_succ] at h2
    omega
   have hle : -(64 * 128 ^ k) ≤ n / 128:=by
    rw [Int.pow_succ] at h1
    omega
   rw [List.cons_append,numG]
   simp only [hc,hl,if_false]
   have hv : orS u (c % 128) sh < 2 ^ (sh + 7):=by
    rw [orS_eq hu]
    have hp:=pow7 sh
    refine Nat.lt_of_le_of_lt (Nat.mod_le _ _) ?_
    have : c % 128 * 2 ^ sh ≤ 127 * 2 ^ sh:=Nat.mul_le_mul_right _ (by omega)
    omega
   rw [numG_s k (sh + 7) _ (n / 128) rest hle hlt hv]
   congr 2
   refine wrap_congr ?_
   rw [orS_eq hu]
   have hcm : ((c % 128 : Nat) : Int) = n % 128:=by omega
   have e : n * 2 ^ sh = ((c % 128 * 2 ^ sh : Nat) : Int) + n / 128 * 2 ^ (sh + 7):=by
    rw [Int.natCast_mul,hcm,Int.natCast_pow,Int.pow_add]
    conv=>lhs; rw [← Int.emod_add_mul_ediv n 128]
    rw [Int.add_mul,Int.mul_comm 128,Int.mul_assoc,Int.mul_comm 128]
    rfl
   rw [e]
   generalize c % 128 * 2 ^ sh = x
   generalize n / 128 * 2 ^ (sh + 7) = y
   omega
theorem wrap_nat {m : Nat} (h : m < 2 ^ 63) : IntKind.wrap .i64 (m : Int) = m := by rw [wrap_i64] <;> omega
theorem numP_u (st : Bool) {n : Int} (h0 : 0 ≤ n) (h : n < 2 ^ 63) {s : Rs} {rest : List UInt8} (hb : s.b = uI n ++ rest) : numP st false s = some (n,{ s with b := rest }) := by
 obtain ⟨m,rfl⟩ : ∃ m : Nat,n = m:=⟨n.toNat,by omega⟩
 have h128 : (128 : Nat) ^ 10 = 2 ^ 70:=by decide
 have:=numG_u 10 0 0 m rest (by rw [h128]; omega) (by omega) (by omega)
 have w : IntKind.wrap .i64 (m : Int) = m:=wrap_nat (by omega)
 simp only [Nat.zero_add,Nat.pow_zero,Nat.mul_one,w] at this
 unfold numP
 rw [hb]
 unfold uI
 rw [this]
 have hm : ¬ (m : Int) < 0:=by omega
 simp [formN,uI,hm]
theorem numP_s (st : Bool) {n : Int} (h0 : -(2 ^ 63) ≤ n) (h : n < 2 ^ 63) {s : Rs} {rest : List UInt8} (hb : s.b = sI n ++ rest) : numP st true s = some (n,{ s with b := rest }) := by
 have h128 : (128 : Int) ^ 9 = 2 ^ 63:=by decide
 have:=numG_s 9 0 0 n rest (by rw [h128]; omega) (by rw [h128]; omega) (by omega)
 have w : IntKind.wrap .i64 n = n:=by rw [wrap_i64] <;> omega
 simp only [Int.natCast_zero,Int.zero_add,Int.pow_zero,Int.mul_one,w] at this
 unfold numP
 rw [hb]
 unfold sI
 rw [this]
 simp [formN,sI]
end Go.Proofs.YthejpoplbllcbaaGreatDoor
set_option linter.unusedSimpArgs false
set_option linter.unusedVariables false
namespace Go.Proofs.YthejpoplbllcbaaGreatDoor
open Go Go.Abs
theorem byteP_some {s : Rs} {c : UInt8} {s' : Rs} (h : byteP s = some (c,s')) : s.b = c :: s'.b ∧ s'.ls = s.ls ∧ s'.n = s.n := by
 unfold byteP at h
 split at h
 ·cases h
 ·rename_i c' r hb
  cases h
  exact ⟨hb,rfl,rfl⟩
theorem takeP_some {n : Int} {s : Rs} {p : List UInt8} {s' : Rs} (h : takeP n s = some (p,s')) : s.b = p ++ s'.b ∧ s'.ls = s.ls ∧ s'.n = s.n := by
 unfold takeP at h
 split at h
 ·cases h
  exact ⟨by simp,rfl,rfl⟩
 ·cases h
theorem takeP_app {n : Int} {s : Rs} {p r : List UInt8} (h : s.b = p ++ r) (hn : n = p.length) : takeP n s = some (p,{ s with b := r }) := by
 subst hn
 unfold takeP
 rw [h]
 rw [if_pos ⟨by omega,by simp; omega⟩]
 simp
theorem wrap_range (n : Int) : -(2 ^ 63) ≤ IntKind.wrap .i64 n ∧ IntKind.wrap .i64 n < 2 ^ 63 := by
 have h : IntKind.wrap .i64 n = (if n % 2 ^ 64 ≥ 2 ^ 63 then n % 2 ^ 64 - 2 ^ 64 else n % 2 ^ 64):=by
  simp [IntKind.wrap,IntKind.signed,IntKind.bits]
 rw [h]
 split <;> omega
theorem numG_some : ∀ {sg : Bool} {k sh u : Nat} {b : List UInt8} {n : Int} {r : List UInt8},numG sg k sh u b = some (n,r) → (∃ x,x ≠ [] ∧ b = x ++ r) ∧ -(2 ^ 63) ≤ n ∧ n < 2 ^ 63
 | sg,0,_,_,_,_,_,h=>by simp [numG] at h
 | sg,k + 1,_,_,[],_,_,h=>by rw [numG] at h; cases h
 | sg,k + 1,sh,u,c :: b,n,r,h=>by
  rw [numG] at h
  split at h
  ·simp only [Option.some.injEq,Prod.mk.injEq] at h
   obtain ⟨h1,rfl⟩:=h
   refine ⟨⟨[c],by simp,by simp⟩,?_⟩
   rw [← h1]
   generalize (if sg = true ∧ 64 ≤ c.toNat ∧ sh < 57 then orS (orS u (c.toNat % 128) sh) (2 ^ 64 - 1) (sh + 7) else orS u (c.toNat % 128) sh) = v
   exact wrap_range _
  ·obtain ⟨⟨x,h1,h2⟩,h3⟩:=numG_some h
   exact ⟨⟨c :: x,by simp,by rw [h2]; rfl⟩,h3⟩
theorem numP_some {st sg : Bool} {s s' : Rs} {n : Int} (h : numP st sg s = some (n,s')) : (∃ x,x ≠ [] ∧ s.b = x ++ s'.b) ∧ s'.ls = s.ls ∧ s'.n = s.n ∧ -(2 ^ 63) ≤ n ∧ n < 2 ^ 63 ∧ (st = true → sg = false → 0 ≤ n) := by
 unfold numP at h
 cases hg : numG sg 10 0 0 s.b with
 | none=>rw [hg] at h; cases h
 | some p =>
  rw [hg] at h
  simp only [Option.bind_some] at h
  obtain ⟨m,r⟩:=p
  split at h
  ·cases h
  ·rename_i hno
   cases h
   obtain ⟨h1,h2,h3⟩:=numG_some hg
   refine ⟨h1,rfl,rfl,h2,h3,fun h4 h5=>?_⟩
   by_cases h0 : 0 ≤ m
   ·exact h0
   ·exact absurd ⟨h4,.inr ⟨h5,by simp only; omega⟩⟩ hno
theorem findT_mem {l : List (UInt8 × W)} {c : UInt8} {w : W} (h : findT l c = some w) : (c,w) ∈ l := by
 unfold findT at h
 rw [Option.map_eq_some_iff] at h
 obtain ⟨p,h1,rfl⟩:=h
 have h2:=List.find?_some h1
 have h3:=List.mem_of_find?_eq_some h1
 simp only [beq_iff_eq] at h2
 rw [← h2]; exact h3
set_option maxRecDepth 20000 in
theorem numT_fact : ∀ p ∈ numT,findT numT p.1 = some p.2 ∧ p.1 ≠ 11 ∧ p.1 ≠ 5 ∧ ¬ (2 ≤ p.1.toNat ∧ p.1.toNat ≤ 4) ∧ p.2.op ≠ 4 ∧ p.2.op ≠ 8 ∧ p.2.op ≠ 9 ∧ nestW p.2 = false ∧ codeS p.2 = some p.1 ∧ p.2.n = 0 ∧ (p.2.op = 1 ∨ (p.2.op = 2 ∨ p.2.op = 3 ∨ p.2.op = 10 ∨ p.2.op = 14 ∨ p.2.op = 15)) := by decide
set_option maxRecDepth 20000 in
theorem plainT_fact : ∀ p ∈ plainT,findT numT p.1 = none ∧ findT plainT p.1 = some p.2 ∧ p.1 ≠ 11 ∧ p.1 ≠ 5 ∧ ¬ (2 ≤ p.1.toNat ∧ p.1.toNat ≤ 4) ∧ nestW p.2 = false ∧ codeS p.2 = some p.1 ∧ tailW p.2 = (if p.2.op = 8 ∨ p.2.op = 9 then [0,0] else []) := by decide
def signT : List (UInt8 × W) := (List.range 16).map (fun i => (ones.getD i 0,signW 1 i)) ++ (List.range 16).map (fun i => (twos.getD i 0,signW 2 i))
set_option maxRecDepth 20000 in
theorem signP_mem : ∀ c : Fin 256,∀ w,signP (UInt8.ofNat c.1) = some w → (UInt8.ofNat c.1,w) ∈ signT := by
 have : ∀ c : Fin 256,(match signP (UInt8.ofNat c.1) with | some w=>decide ((UInt8.ofNat c.1,w) ∈ signT) | none=>true) = true:=by decide
 intro c w h
 have:=this c
 rw [h] at this
 simpa using this
set_option maxRecDepth 20000 in
theorem signT_fact : ∀ p ∈ signT,findT numT p.1 = none ∧ findT plainT p.1 = none ∧ signP p.1 = some p.2 ∧ p.1 ≠ 11 ∧ p.1 ≠ 5 ∧ ¬ (2 ≤ p.1.toNat ∧ p.1.toNat ≤ 4) ∧ nestW p.2 = false ∧ codeS p.2 = some p.1 ∧ tailW p.2 = [] := by decide
theorem codeS_num {p : UInt8 × W} (h : p ∈ numT) (n : Int) : codeS { p.2 with n := n } = some p.1 := by
 obtain ⟨_,_,_,_,h4,h8,h9,_,hl,hn,_⟩:=numT_fact p h
 have e : hitsW { p.2 with n:=n } = hitsW p.2:=by
  funext q
  have : keyN { p.2 with n:=n } = keyN p.2:=by simp [keyN,h8,h9]
  simp only [hitsW,this]
 unfold codeS at hl ⊢
 rw [if_neg h4] at hl
 rw [if_neg h4,e,hl]
theorem leafP_some {st : Bool} {c : UInt8} {s s' : Rs} {w : W} (h : leafP st c s = some (w,s')) : (∃ x,s.b = x ++ s'.b) ∧ s'.ls = s.ls ∧ s'.n = s.n ∧ nestW w = false ∧ codeS w = some c ∧ c ≠ 11 ∧ c ≠ 5 ∧ ¬ (2 ≤ c.toNat ∧ c.toNat ≤ 4) ∧
  (st = true → belowW w = false) ∧
  ∀ (st' : Bool) (t : Rs) (r : List UInt8),belowW w = false → t.b = tailW w ++ r → leafP st' c t = some (w,{ t with b:=r }):=by
 unfold leafP at h
 cases hf : findT numT c with
 | some w0 =>
  rw [hf] at h
  simp only [Option.map_eq_some_iff] at h
  obtain ⟨⟨n,s1⟩,hn,he⟩:=h
  cases he
  have hm:=findT_mem hf
  obtain ⟨_,h11,h5,h24,h4,h8,h9,hnest,_,_,hops⟩:=numT_fact _ hm
  simp only at h11 h5 h24 h4 h8 h9 hnest hops
  obtain ⟨⟨x,_,hx⟩,e1,e2,n1,n2,n3⟩:=numP_some hn
  refine ⟨⟨x,hx⟩,e1,e2,hnest,codeS_num hm n,h11,h5,h24,fun hst=>?_,fun st' t r hb ht=>?_⟩
  ·unfold belowW
   simp only [Bool.and_eq_false_iff,decide_eq_false_iff_not]
   by_cases h1 : w0.op = 1
   ·exact .inr (by simpa using h1)
   ·have:=n3 hst (by simpa using h1)
    exact .inl (by omega)
  ·unfold leafP
   rw [hf]
   simp only
   unfold belowW at hb
   simp only [Bool.and_eq_false_iff,decide_eq_false_iff_not] at hb
   by_cases h1 : w0.op = 1
   ·have : tailW { w0 with n:=n } = sI n:=by simp [tailW,h1]
    rw [this] at ht
    simp only [h1,decide_true]
    rw [numP_s st' n1 n2 ht]
    rfl
   ·have hops : w0.op = 2 ∨ w0.op = 3 ∨ w0.op = 10 ∨ w0.op = 14 ∨ w0.op = 15:=by rcases hops with h | h; exact absurd h h1; exact h
    have : tailW { w0 with n:=n } = uI n:=by simp only [tailW,h1,if_false,hops,if_true]
    rw [this] at ht
    have h0 : 0 ≤ n:=by
     rcases hb with h | h
     ·omega
     ·exact absurd h (by simpa using h1)
    simp only [h1,decide_false]
    rw [numP_u st' h0 n2 ht]
    rfl
 | none =>
  rw [hf] at h
  simp only at h
  cases hp : findT plainT c with
  | some w0 =>
   rw [hp] at h
   simp only at h
   have hm:=findT_mem hp
   obtain ⟨_,_,h11,h5,h24,hnest,hcode,htail⟩:=plainT_fact _ hm
   simp only at h11 h5 h24 hnest hcode htail
   have hz : ∀ p ∈ plainT,belowW p.2 = false:=by decide
   have hz:=hz _ hm
   by_cases h89 : w0.op = 8 ∨ w0.op = 9
   ·rw [if_pos h89,Option.map_eq_some_iff] at h
    obtain ⟨⟨p,s1⟩,hn,he⟩:=h
    cases he
    obtain ⟨e0,e1,e2⟩:=takeP_some hn
    refine ⟨⟨p,e0⟩,e1,e2,hnest,hcode,h11,h5,h24,fun _=>hz,fun st' t r hb ht=>?_⟩
    rw [htail,if_pos h89] at ht
    unfold leafP
    rw [hf,hp]
    simp only [h89,if_true]
    rw [takeP_app (n:=2) ht rfl]
    rfl
   ·rw [if_neg h89] at h
    cases h
    refine ⟨⟨[],by simp⟩,rfl,rfl,hnest,hcode,h11,h5,h24,fun _=>hz,fun st' t r hb ht=>?_⟩
    rw [htail,if_neg h89] at ht
    unfold leafP
    rw [hf,hp]
    simp only [h89,if_false]
    simp only [List.nil_append] at ht
    rw [← ht]
  | none =>
   rw [hp] at h
   simp only [Option.map_eq_some_iff] at h
   obtain ⟨w0,hn,he⟩:=h
   cases he
   have hm : (c,w) ∈ signT:=by
    have:=signP_mem ⟨c.toNat,c.toNat_lt⟩ w (by simpa using hn)
    simpa using this
   obtain ⟨_,_,_,h11,h5,h24,hnest,hcode,htail⟩:=signT_fact _ hm
   simp only at h11 h5 h24 hnest hcode htail
   have hz : ∀ p ∈ signT,belowW p.2 = false:=by decide
   have hz:=hz _ hm
   refine ⟨⟨[],by simp⟩,rfl,rfl,hnest,hcode,h11,h5,h24,fun _=>hz,fun st' t r hb ht=>?_⟩
   rw [htail] at ht
   unfold leafP
   rw [hf,hp]
   simp only [hn]
   simp only [List.nil_append] at ht
   rw [← ht]
   rfl
theorem sub_len {x y z : List UInt8} (h : x = y ++ z) : z.length ≤ x.length := by rw [h]; simp
theorem listP_ls : ∀ (st : Bool) (k d : Nat) (l : List W) (s : Rs) (n : Int) (e : UInt8) (s' : Rs),listP st k d l s = some ((n,e),s') →
  s.ls <+: s'.ls ∧ (s'.ls.length : Int) = n + 1 ∧ (s.ls.length : Int) ≤ n ∧ (∃ ws,s'.ls[n.toNat]? = some (l ++ ws)) ∧ (e = 11 ∨ e = 5) ∧ (∃ x,x ≠ [] ∧ s.b = x ++ s'.b) ∧ s'.n = s.n
 | st,0,_,_,_,_,_,_,h=>by simp [listP] at h
 | st,k + 1,d,l,s,n,e,s',h=>by
  rw [listP] at h
  cases hb : byteP s with
  | none=>rw [hb] at h; cases h
  | some p =>
   obtain ⟨c,s1⟩:=p
   rw [hb] at h
   simp only [Option.bind_some] at h
   obtain ⟨b1,b2,b3⟩:=byteP_some hb
   split at h
   ·rename_i hc
    cases h
    refine ⟨?_,?_,?_,⟨[],?_⟩,hc,⟨[_],by simp,b1⟩,b3⟩
    ·rw [b2]; exact List.prefix_append _ _
    ·simp
    ·rw [b2]; exact Int.le_refl _
    ·simp
   ·rename_i hc
    cases hi : instrP st (fun d s=>listP st k d [] s) d c s1 with
    | none=>rw [hi] at h; cases h
    | some q =>
     obtain ⟨w,s2⟩:=q
     rw [hi] at h
     simp only [Option.bind_some] at h
     obtain ⟨i1,i2,i3,⟨ws,i4⟩,i5,⟨x,hx0,i6⟩,i7⟩:=listP_ls st k d _ s2 n e s' h
     have hq : s1.ls <+: s2.ls ∧ (∃ x,s1.b = x ++ s2.b) ∧ s2.n = s1.n:=by
      unfold instrP at hi
      split at hi
      ·split at hi
       ·unfold withinP at hi
        cases hb1 : byteP s1 with
        | none=>rw [hb1] at hi; cases hi
        | some p1 =>
         obtain ⟨c1,s3⟩:=p1
         rw [hb1] at hi
         simp only [Option.bind_some] at hi
         obtain ⟨f1,f2,f3⟩:=byteP_some hb1
         cases hl1 : listP st k (d + 1) [] s3 with
         | none=>rw [hl1] at hi; cases hi
         | some q1 =>
          obtain ⟨⟨n1,e1⟩,s4⟩:=q1
          rw [hl1] at hi
          simp only [Option.bind_some] at hi
          obtain ⟨j1,j2,j3,j4,j5,⟨x1,_,j6⟩,j7⟩:=listP_ls st k (d + 1) [] s3 n1 e1 s4 hl1
          have base : s1.ls <+: s4.ls ∧ (∃ x,s1.b = x ++ s4.b) ∧ s4.n = s1.n:=⟨by rw [← f2]; exact j1,⟨c1 :: x1,by rw [f1,j6]; rfl⟩,by rw [j7,f3]⟩
          split at hi
          ·split at hi
           ·rw [Option.map_eq_some_iff] at hi
            obtain ⟨⟨⟨n2,e2⟩,s5⟩,hl2,he2⟩:=hi
            cases he2
            obtain ⟨g1,g2,g3,g4,g5,⟨x2,_,g6⟩,g7⟩:=listP_ls st k (d + 1) [] s4 n2 e2 _ hl2
            obtain ⟨o1,⟨x3,o2⟩,o3⟩:=base
            exact ⟨o1.trans g1,⟨x3 ++ x2,by rw [o2,g6,List.append_assoc]⟩,by rw [g7,o3]⟩
           ·cases hi; exact base
          ·cases hi; exact base
       ·cases hi
      ·obtain ⟨a1,a2,a3,_⟩:=leafP_some hi
       exact ⟨by rw [a2]; exact List.prefix_refl _,a1,a3⟩
     obtain ⟨q1,⟨x1,q2⟩,q3⟩:=hq
     have ql:=q1.length_le
     rw [b2] at q1 ql
     refine ⟨q1.trans i1,i2,by omega,⟨w :: ws,by rw [i4]; simp⟩,i5,⟨c :: (x1 ++ x),by simp,by rw [b1,q2,i6]; simp⟩,by rw [i7,q3,b3]⟩
end Go.Proofs.YthejpoplbllcbaaGreatDoor
set_option linter.unusedSimpArgs false
set_option linter.unusedVariables false
namespace Go.Proofs.YthejpoplbllcbaaGreatDoor
open Go Go.Abs
theorem prefix_at {α : Type} {x y : List α} (h : x <+: y) {i : Nat} {v : α} (hx : x[i]? = some v) : y[i]? = some v := by
 obtain ⟨z,rfl⟩:=h
 have hi:=(List.getElem?_eq_some_iff.1 hx).1
 rw [List.getElem?_append_left hi]; exact hx
theorem encWs_cons {rec : Int → Option (List UInt8)} {w : W} {r : List W} {y : List UInt8} (h : encWs rec (w :: r) = some y) : ∃ a b,encW rec w = some a ∧ encWs rec r = some b ∧ y = a ++ b := by
 rw [encWs] at h
 cases ha : encW rec w with
 | none=>rw [ha] at h; cases h
 | some a =>
  rw [ha] at h
  simp only [Option.bind_some,Option.map_eq_some_iff] at h
  obtain ⟨b,hb,rfl⟩:=h
  exact ⟨a,b,rfl,hb,rfl⟩
end Go.Proofs.YthejpoplbllcbaaGreatDoor
set_option linter.unusedSimpArgs false
set_option linter.unusedVariables false
namespace Go.Proofs.YthejpoplbllcbaaGreatDoor
open Go Go.Abs
def Can (i : Int) (w : W) : Prop := (nestW w = true → 0 ≤ w.body ∧ w.body < i ∧ (w.op = 13 → w.other < i)) ∧ (nestW w = false → ∃ c,codeS w = some c)
def CanLs (ls : To) : Prop := ∀ (i : Nat) (ws : List W),ls[i]? = some ws → ∀ w ∈ ws,Can i w
theorem Can.mono {i j : Int} {w : W} (h : Can i w) (hij : i ≤ j) : Can j w := ⟨fun q => by
 obtain ⟨a,b,c⟩:=h.1 q
 exact ⟨a,by omega,fun r=>by have:=c r; omega⟩,h.2⟩
theorem CanLs.snoc {ls : To} {l : List W} (h : CanLs ls) (hl : ∀ w ∈ l,Can ls.length w) : CanLs (ls ++ [l]) := fun i ws hi w hw => by
 rcases Nat.lt_or_ge i ls.length with h1 | h1
 ·rw [List.getElem?_append_left h1] at hi
  exact h i ws hi w hw
 ·rw [List.getElem?_append_right h1] at hi
  have : i = ls.length:=by
   rcases Nat.eq_or_lt_of_le h1 with h2 | h2
   ·exact h2.symm
   ·rw [List.getElem?_eq_none (by simp; omega)] at hi; cases hi
  subst this
  simp only [Nat.sub_self,List.getElem?_cons_zero,Option.some.injEq] at hi
  subst hi
  exact hl w hw
theorem listP_can : ∀ (st : Bool) (k d : Nat) (l : List W) (s : Rs) (n : Int) (e : UInt8) (s' : Rs),listP st k d l s = some ((n,e),s') → CanLs s.ls → (∀ w ∈ l,Can s.ls.length w) → CanLs s'.ls
 | st,0,_,_,_,_,_,_,h,_,_=>by simp [listP] at h
 | st,k + 1,d,l,s,n,e,s',h,hs,hl=>by
  rw [listP] at h
  cases hb : byteP s with
  | none=>rw [hb] at h; cases h
  | some p =>
   obtain ⟨c,s1⟩:=p
   rw [hb] at h
   simp only [Option.bind_some] at h
   obtain ⟨b1,b2,b3⟩:=byteP_some hb
   rw [← b2] at hs hl
   split at h
   ·cases h
    exact hs.snoc hl
   ·cases hi : instrP st (fun d s=>listP st k d [] s) d c s1 with
    | none=>rw [hi] at h; cases h
    | some q =>
     obtain ⟨w,s2⟩:=q
     rw [hi] at h
     simp only [Option.bind_some] at h
     have hq : CanLs s2.ls ∧ s1.ls.length ≤ s2.ls.length ∧ Can s2.ls.length w:=by
      unfold instrP at hi
      split at hi
      ·rename_i hc2
       split at hi
       ·unfold withinP at hi
        cases hb1 : byteP s1 with
        | none=>rw [hb1] at hi; cases hi
        | some p1 =>
         obtain ⟨c1,s3⟩:=p1
         rw [hb1] at hi
         simp only [Option.bind_some] at hi
         obtain ⟨f1,f2,f3⟩:=byteP_some hb1
         rw [← f2] at hs
         cases hl1 : listP st k (d + 1) [] s3 with
         | none=>rw [hl1] at hi; cases hi
         | some q1 =>
          obtain ⟨⟨n1,e1⟩,s4⟩:=q1
          rw [hl1] at hi
          simp only [Option.bind_some] at hi
          obtain ⟨j1,j2,j3,_⟩:=listP_ls st k (d + 1) [] s3 n1 e1 s4 hl1
          have hs4:=listP_can st k (d + 1) [] s3 n1 e1 s4 hl1 hs (by simp)
          have hle:=j1.length_le
          rw [f2] at hle
          split at hi
          ·split at hi
           ·rw [Option.map_eq_some_iff] at hi
            obtain ⟨⟨⟨n2,e2⟩,s5⟩,hl2,he2⟩:=hi
            simp only [Prod.mk.injEq] at he2
            obtain ⟨rfl,rfl⟩:=he2
            obtain ⟨g1,g2,g3,_⟩:=listP_ls st k (d + 1) [] s4 n2 e2 _ hl2
            have hs5:=listP_can st k (d + 1) [] s4 n2 e2 _ hl2 hs4 (by simp)
            have:=g1.length_le
            refine ⟨hs5,by omega,⟨fun _=>⟨?_,?_,fun _=>?_⟩,fun q=>?_⟩⟩
            ·show 0 ≤ n1; omega
            ·show n1 < _; omega
            ·show n2 < _; omega
            ·simp [nestP,nestW] at q
           ·cases hi
            refine ⟨hs4,by omega,⟨fun _=>⟨?_,?_,fun _=>?_⟩,fun q=>?_⟩⟩
            ·show 0 ≤ n1; omega
            ·show n1 < _; omega
            ·show (-1 : Int) < _; omega
            ·simp [nestP,nestW] at q
          ·rename_i h4
           cases hi
           refine ⟨hs4,by omega,⟨fun _=>⟨?_,?_,fun h13=>?_⟩,fun q=>?_⟩⟩
           ·show 0 ≤ n1; omega
           ·show n1 < _; omega
           ·have : ((c.toNat : Int) + 9) = 13:=h13
            omega
           ·have : ((c.toNat : Int) + 9 = 11 ∨ (c.toNat : Int) + 9 = 12):=by omega
            rcases this with e | e <;> simp [nestP,nestW,e] at q
       ·cases hi
      ·obtain ⟨a1,a2,a3,a4,a5,_⟩:=leafP_some hi
       rw [a2]
       exact ⟨hs,Nat.le_refl _,⟨fun q=>(by rw [a4] at q; cases q),fun _=>⟨c,a5⟩⟩⟩
     obtain ⟨q1,q2,q3⟩:=hq
     refine listP_can st k d _ s2 n e s' h q1 fun w' hw'=>?_
     rcases List.mem_append.1 hw' with h1 | h1
     ·exact (hl w' h1).mono (by omega)
     ·simp only [List.mem_singleton] at h1
      subst h1
      exact q3
theorem encWs_some {rec : Int → Option (List UInt8)} : ∀ {ws : List W},(∀ w ∈ ws,∃ a,encW rec w = some a) → ∃ y,encWs rec ws = some y
 | [],_=>⟨[],rfl⟩
 | w :: r,h=>by
  obtain ⟨a,ha⟩:=h w (by simp)
  obtain ⟨y,hy⟩:=encWs_some (ws:=r) fun w' hw'=>h w' (by simp [hw'])
  exact ⟨a ++ y,by rw [encWs,ha,Option.bind_some,hy]; rfl⟩
theorem encL_some {ls : To} (h : CanLs ls) : ∀ (i j : Nat),i < ls.length → i < j → ∃ x,encL ls j i = some x
 | i,0,_,hj=>by omega
 | i,j + 1,hi,hj=>by
  have hg:=List.getElem?_eq_getElem hi
  rw [encL,if_neg (by omega)]
  simp only [Int.toNat_natCast,hg]
  refine encWs_some fun w hw=>?_
  have hc:=h i _ hg w hw
  unfold encW
  by_cases hn : nestW w = true
  ·obtain ⟨h1,h2,h3⟩:=hc.1 hn
   rw [if_pos hn]
   obtain ⟨x,hx⟩:=encL_some h w.body.toNat j (by omega) (by omega)
   rw [show ((w.body.toNat : Nat) : Int) = w.body from by omega] at hx
   rw [hx]
   simp only [Option.bind_some]
   by_cases h13 : w.op = 13 ∧ 0 ≤ w.other
   ·rw [if_pos h13]
    have:=h3 h13.1
    obtain ⟨o,ho⟩:=encL_some h w.other.toNat j (by omega) (by omega)
    rw [show ((w.other.toNat : Nat) : Int) = w.other from by omega] at ho
    rw [ho]
    exact ⟨_,rfl⟩
   ·rw [if_neg h13]
    exact ⟨_,rfl⟩
  ·rw [if_neg hn]
   obtain ⟨c,hc⟩:=hc.2 (by simpa using hn)
   rw [hc]
   exact ⟨_,rfl⟩
termination_by i j => j
theorem tailW_len (w : W) : (tailW w).length ≤ 10 := by
 have h1:=sI_len w.n
 have h2:=uI_len w.n
 unfold tailW
 split
 ·exact h1
 ·split
  ·exact h2
  ·split <;> simp
theorem listP_len {st : Bool} {fin : To} : ∀ (k d : Nat) (l : List W) (s : Rs) (n : Int) (e : UInt8) (s' : Rs),listP st k d l s = some ((n,e),s') → s'.ls <+: fin →
  ∀ (j : Nat) (ws : List W) (y : List UInt8),fin[n.toNat]? = some (l ++ ws) → encWs (encL fin j) ws = some y → y.length + 11 * s'.b.length + 11 ≤ 11 * s.b.length
 | 0,_,_,_,_,_,_,h,_,_,_,_,_,_=>by simp [listP] at h
 | k + 1,d,l,s,n,e,s',h,hp,j,ws,y,hn,hy=>by
  have IH:=@listP_len st fin k
  rw [listP] at h
  cases hb0 : byteP s with
  | none=>rw [hb0] at h; cases h
  | some p =>
   obtain ⟨c,s1⟩:=p
   rw [hb0] at h
   simp only [Option.bind_some] at h
   obtain ⟨b1,b2,b3⟩:=byteP_some hb0
   rw [b1]
   simp only [List.length_cons]
   split at h
   ·rename_i hc
    cases h
    have hat:=prefix_at hp (i:=s1.ls.length) (v:=l) (by simp)
    simp only [Int.toNat_natCast] at hn
    rw [hat] at hn
    have hws : ws = []:=by simpa using hn
    subst hws
    simp only [encWs,Option.some.injEq] at hy
    subst hy
    simp
    omega
   ·rename_i hc
    cases hi : instrP st (fun d s=>listP st k d [] s) d c s1 with
    | none=>rw [hi] at h; cases h
    | some q =>
     obtain ⟨w,s2⟩:=q
     rw [hi] at h
     simp only [Option.bind_some] at h
     obtain ⟨i1,i2,i3,⟨ws2,i4⟩,_,_,_⟩:=listP_ls st k d _ s2 n e s' h
     have hat:=prefix_at hp i4
     have hn':=hn
     rw [hat] at hn
     have hws : ws = w :: ws2:=by
      simp only [Option.some.injEq,List.append_assoc,List.append_cancel_left_eq] at hn
      exact hn.symm
     subst hws
     obtain ⟨a,y2,ha,hy2,rfl⟩:=encWs_cons hy
     have h2:=IH d _ s2 n e s' h hp j ws2 y2 (by rw [hat]) hy2
     have body : ∀ (d' : Nat) (u u' : Rs) (n1 : Int) (e1 : UInt8) (x : List UInt8),listP st k d' [] u = some ((n1,e1),u') → u'.ls <+: fin → encL fin j n1 = some x → x.length + 11 * u'.b.length + 11 ≤ 11 * u.b.length:=by
      intro d' u u' n1 e1 x hl1 hp1 hx
      obtain ⟨j1,j2,j3,⟨ws1,j4⟩,_⟩:=listP_ls st k d' [] u n1 e1 u' hl1
      cases j with
      | zero=>simp [encL] at hx
      | succ j =>
       have hat1:=prefix_at hp1 j4
       rw [encL,if_neg (by omega),hat1] at hx
       exact IH d' [] u n1 e1 u' hl1 hp1 j ws1 x (by simpa using hat1) (by simpa using hx)
     have key : a.length + 11 * s2.b.length ≤ 11 * s1.b.length + 11:=by
      unfold instrP at hi
      split at hi
      ·rename_i hc2
       split at hi
       ·unfold withinP at hi
        cases hb1 : byteP s1 with
        | none=>rw [hb1] at hi; cases hi
        | some p1 =>
         obtain ⟨c1,s3⟩:=p1
         rw [hb1] at hi
         simp only [Option.bind_some] at hi
         obtain ⟨f1,f2,f3⟩:=byteP_some hb1
         rw [f1]
         simp only [List.length_cons]
         cases hl1 : listP st k (d + 1) [] s3 with
         | none=>rw [hl1] at hi; cases hi
         | some q1 =>
          obtain ⟨⟨n1,e1⟩,s4⟩:=q1
          rw [hl1] at hi
          simp only [Option.bind_some] at hi
          split at hi
          ·split at hi
           ·rw [Option.map_eq_some_iff] at hi
            obtain ⟨⟨⟨n2,e2⟩,s5⟩,hl2,he2⟩:=hi
            simp only [Prod.mk.injEq] at he2
            obtain ⟨rfl,rfl⟩:=he2
            obtain ⟨g1,g2,g3,_⟩:=listP_ls st k (d + 1) [] s4 n2 e2 _ hl2
            obtain ⟨j1,j2,j3,_⟩:=listP_ls st k (d + 1) [] s3 n1 e1 s4 hl1
            have hn2 : 0 ≤ n2:=by omega
            unfold encW at ha
            simp only [nestP,nestW,decide_true,Bool.or_true,if_true,hn2,and_self] at ha
            cases hx : encL fin j n1 with
            | none=>rw [hx] at ha; cases ha
            | some x =>
             rw [hx] at ha
             simp only [Option.bind_some,Option.map_eq_some_iff] at ha
             obtain ⟨o,ho,rfl⟩:=ha
             have hx':=body _ _ _ _ _ _ hl1 (g1.trans (i1.trans hp)) hx
             have ho':=body _ _ _ _ _ _ hl2 (i1.trans hp) ho
             simp only [List.length_cons,List.length_append,List.length_nil]
             omega
           ·cases hi
            unfold encW at ha
            have hm1 : ¬ (0 : Int) ≤ -1:=by omega
            simp only [nestP,nestW,decide_true,Bool.or_true,if_true,hm1,and_false,if_false] at ha
            cases hx : encL fin j n1 with
            | none=>rw [hx] at ha; cases ha
            | some x =>
             rw [hx] at ha
             simp only [Option.bind_some,Option.some.injEq] at ha
             subst ha
             have hx':=body _ _ _ _ _ _ hl1 (i1.trans hp) hx
             simp only [List.length_cons,List.length_append,List.length_nil]
             omega
          ·rename_i h4
           cases hi
           unfold encW at ha
           have h13 : ¬ ((c.toNat : Int) + 9 = 13):=by omega
           have hnest : nestW (nestP ((c.toNat : Int) + 9) n1 0) = true:=by
            have : ((c.toNat : Int) + 9 = 11 ∨ (c.toNat : Int) + 9 = 12):=by omega
            rcases this with e | e <;> simp [nestP,nestW,e]
           rw [if_pos hnest] at ha
           simp only [nestP,h13,false_and,if_false] at ha
           cases hx : encL fin j n1 with
           | none=>rw [hx] at ha; cases ha
           | some x =>
            rw [hx] at ha
            simp only [Option.bind_some,Option.some.injEq] at ha
            subst ha
            have hx':=body _ _ _ _ _ _ hl1 (i1.trans hp) hx
            simp only [List.length_cons,List.length_append,List.length_nil]
            omega
       ·cases hi
      ·obtain ⟨⟨x,l1⟩,l2,l3',l3,l4,_⟩:=leafP_some hi
       unfold encW at ha
       rw [l3,l4] at ha
       simp only [Bool.false_eq_true,if_false,Option.map_some,Option.some.injEq] at ha
       subst ha
       have:=tailW_len w
       rw [l1]
       simp
       omega
     simp only [List.length_append]
     omega
theorem listP_size : ∀ (st : Bool) (k d : Nat) (l : List W) (s : Rs) (n : Int) (e : UInt8) (s' : Rs),listP st k d l s = some ((n,e),s') →
  s'.ls.length + s'.b.length ≤ s.ls.length + s.b.length ∧ ∀ B : Nat,l.length + s.b.length ≤ B → (∀ ws ∈ s.ls,ws.length ≤ B) → ∀ ws ∈ s'.ls,ws.length ≤ B
 | st,0,_,_,_,_,_,_,h=>by simp [listP] at h
 | st,k + 1,d,l,s,n,e,s',h=>by
  rw [listP] at h
  cases hb : byteP s with
  | none=>rw [hb] at h; cases h
  | some p =>
   obtain ⟨c,s1⟩:=p
   rw [hb] at h
   simp only [Option.bind_some] at h
   obtain ⟨b1,b2,b3⟩:=byteP_some hb
   rw [← b2,b1]
   simp only [List.length_cons]
   split at h
   ·cases h
    refine ⟨by simp; omega,fun B hB hs ws hw=>?_⟩
    rcases List.mem_append.1 hw with h1 | h1
    ·exact hs ws h1
    ·simp only [List.mem_singleton] at h1
     subst h1
     omega
   ·cases hi : instrP st (fun d s=>listP st k d [] s) d c s1 with
    | none=>rw [hi] at h; cases h
    | some q =>
     obtain ⟨w,s2⟩:=q
     rw [hi] at h
     simp only [Option.bind_some] at h
     have hq : s2.ls.length + s2.b.length ≤ s1.ls.length + s1.b.length ∧ s2.b.length ≤ s1.b.length ∧ ∀ B : Nat,s1.b.length ≤ B → (∀ ws ∈ s1.ls,ws.length ≤ B) → ∀ ws ∈ s2.ls,ws.length ≤ B:=by
      unfold instrP at hi
      split at hi
      ·split at hi
       ·unfold withinP at hi
        cases hb1 : byteP s1 with
        | none=>rw [hb1] at hi; cases hi
        | some p1 =>
         obtain ⟨c1,s3⟩:=p1
         rw [hb1] at hi
         simp only [Option.bind_some] at hi
         obtain ⟨f1,f2,f3⟩:=byteP_some hb1
         rw [← f2,f1]
         simp only [List.length_cons]
         cases hl1 : listP st k (d + 1) [] s3 with
         | none=>rw [hl1] at hi; cases hi
         | some q1 =>
          obtain ⟨⟨n1,e1⟩,s4⟩:=q1
          rw [hl1] at hi
          simp only [Option.bind_some] at hi
          obtain ⟨z1,z2⟩:=listP_size st k (d + 1) [] s3 n1 e1 s4 hl1
          obtain ⟨_,_,_,_,_,⟨x,_,z3⟩,_⟩:=listP_ls st k (d + 1) [] s3 n1 e1 s4 hl1
          have z4:=sub_len z3
          simp only [List.length_nil,Nat.zero_add] at z2
          split at hi
          ·split at hi
           ·rw [Option.map_eq_some_iff] at hi
            obtain ⟨⟨⟨n2,e2⟩,s5⟩,hl2,he2⟩:=hi
            simp only [Prod.mk.injEq] at he2
            obtain ⟨rfl,rfl⟩:=he2
            obtain ⟨y1,y2⟩:=listP_size st k (d + 1) [] s4 n2 e2 _ hl2
            obtain ⟨_,_,_,_,_,⟨x,_,y3⟩,_⟩:=listP_ls st k (d + 1) [] s4 n2 e2 _ hl2
            have y4:=sub_len y3
            simp only [List.length_nil,Nat.zero_add] at y2
            exact ⟨by omega,by omega,fun B hB hs=>y2 B (by omega) (z2 B (by omega) hs)⟩
           ·cases hi
            exact ⟨by omega,by omega,fun B hB hs=>z2 B (by omega) hs⟩
          ·cases hi
           exact ⟨by omega,by omega,fun B hB hs=>z2 B (by omega) hs⟩
       ·cases hi
      ·obtain ⟨⟨x,a1⟩,a2,_⟩:=leafP_some hi
       have:=sub_len a1
       rw [a2]
       exact ⟨by omega,this,fun B _ hs=>hs⟩
     obtain ⟨q1,q2,q3⟩:=hq
     obtain ⟨g1,g2⟩:=listP_size st k d _ s2 n e s' h
     refine ⟨by omega,fun B hB hs=>g2 B (by simp; omega) (q3 B (by omega) hs)⟩
end Go.Proofs.YthejpoplbllcbaaGreatDoor
set_option linter.unusedSimpArgs false
set_option linter.unusedVariables false
namespace Go.Proofs.YthejpoplbllcbaaGreatDoor
open Go Go.Abs
theorem mem_len {α : Type} {l : List (List α)} {x : List α} (h : x ∈ l) : x.length ≤ l.flatten.length := by
 induction l with
 | nil=>cases h
 | cons a l ih =>
  simp only [List.flatten_cons,List.length_append]
  rcases List.mem_cons.1 h with rfl | h
  ·omega
  ·have:=ih h; omega
theorem typed_parts {f : F} (h : typedF f = true) : (∀ t ∈ f.params,t = 1 ∨ t = 2) ∧ (∀ t ∈ f.locals,t = 1 ∨ t = 2) ∧ (f.type = 0 ∨ f.type = 1 ∨ f.type = 2) := by
 unfold typedF oddT at h
 simp only [Bool.not_eq_true',Bool.or_eq_false_iff,List.any_eq_false,Bool.and_eq_true,decide_eq_true_eq,Bool.and_eq_false_iff,decide_eq_false_iff_not,ne_eq,Classical.not_not] at h
 obtain ⟨h1,h2,h3⟩:=h
 refine ⟨fun t ht=>?_,fun t ht=>?_,?_⟩
 ·have:=h1 t ht; omega
 ·have:=h2 t ht; omega
 ·omega
structure GoodF (f : F) : Prop where
 typed : typedF f = true
 below : ∀ ws ∈ f.lists,∀ w ∈ ws,belowW w = false
 skel : ∃ st k s e s',listP st k 0 [] s = some (((f.lists.length : Int) - 1,e),s') ∧ s.ls = [] ∧ s'.ls = f.lists
end Go.Proofs.YthejpoplbllcbaaGreatDoor
set_option linter.unusedSimpArgs false
set_option linter.unusedVariables false
namespace Go.Proofs.YthejpoplbllcbaaGreatDoor
open Go Go.Abs
def noname (f : F) : F := { f with name := [] }
def manyL (fs : List F) : Nat := (fs.map fun f => f.locals.length).sum
theorem numsF_len : ∀ (fs : List F) (i : Int),(numsF i fs).length = fs.length
 | [],_=>rfl
 | _ :: fs,i=>by simp [numsF,numsF_len fs]
theorem namesF_len : ∀ (fs : List F) (i : Int),(namesF i fs).length = fs.length
 | [],_=>rfl
 | _ :: fs,i=>by simp [namesF,namesF_len fs]
theorem codesF_len : ∀ {fs : List F} {codes : List (List UInt8)},codesF fs = some codes → codes.length = fs.length
 | [],_,h=>by simp only [codesF,Option.some.injEq] at h; subst h; rfl
 | f :: fs,codes,h=>by
  rw [codesF] at h
  cases hcf : codeF f with
  | none=>rw [hcf] at h; cases h
  | some c =>
   rw [hcf] at h
   simp only [Option.bind_some,Option.map_eq_some_iff] at h
   obtain ⟨cs,hcs,rfl⟩:=h
   simp [codesF_len hcs]
def mainHd : List UInt8 := [1,4,109,97,105,110,0]
def memB (m : M) : List UInt8 := [1,127,0,65] ++ (sI m.memory ++ [11])
def startL (m : M) (rest : List UInt8) : List UInt8 := magicL ++ (sectionL 1 (rowL (headsL m.funcs)) ++ (sectionL 2 (rowL importsL) ++ (sectionL 3 (rowL (numsF 3 m.funcs)) ++ (sectionL 5 [1,0,1] ++
  (sectionL 6 (memB m) ++ (7 :: (uI (mainHd ++ uI (mainL m)).length ++ (mainHd ++ rest))))))))
def endL (codes : List (List UInt8)) (fs : List F) : List UInt8 := sectionL 10 (rowL codes) ++ sectionL 0 ([4,110,97,109,101,1] ++ sizedL (rowL (namesF 3 fs)))
theorem encM_parts {m : M} {b : List UInt8} (h : encM m = some b) : ∃ codes,codesF m.funcs = some codes ∧ b = startL m (uI (mainL m) ++ endL codes m.funcs) := by
 unfold encM at h
 rw [Option.map_eq_some_iff] at h
 obtain ⟨codes,hc,rfl⟩:=h
 refine ⟨codes,hc,?_⟩
 have e1 : sizedL [109,97,105,110] = [4,109,97,105,110]:=by decide
 have e2 : sizedL [110,97,109,101] = [4,110,97,109,101]:=by decide
 have e3 : ∀ n bs (r : List UInt8),sectionL n bs ++ r = n :: (uI bs.length ++ (bs ++ r)):=fun n bs r=>by simp [sectionL,sizedL]
 rw [e1,e2]
 unfold startL endL memB mainHd
 simp only [List.append_assoc]
 rw [e3 7]
 simp
def headF (f : F) : Prop := (∀ t ∈ f.params,t = 1 ∨ t = 2) ∧ (f.type = 0 ∨ f.type = 1 ∨ f.type = 2) ∧ f.params.length < 2 ^ 62
theorem headsL_len (fs : List F) : (headsL fs).length = fs.length + 3 := by simp [headsL]
structure Short (m : M) : Prop where
 fs : ∀ f ∈ m.funcs,headF f
 mem : -(2 ^ 63) ≤ m.memory ∧ m.memory < 2 ^ 63
 many : m.funcs.length < 2 ^ 60
 s1 : (rowL (headsL m.funcs)).length < 2 ^ 62
 s3 : (rowL (numsF 3 m.funcs)).length < 2 ^ 62
end Go.Proofs.YthejpoplbllcbaaGreatDoor
set_option linter.unusedSimpArgs false
set_option linter.unusedVariables false
namespace Go.Proofs.YthejpoplbllcbaaGreatDoor
open Go Go.Abs
structure GoodBM (m : M) : Prop where
 fs : ∀ f ∈ m.funcs,GoodF f
 many : manyL m.funcs ≤ 65536
 mem : -(2 ^ 63) ≤ m.memory ∧ m.memory < 2 ^ 63
 main0 : 0 ≤ mainL m
 main : m.main = IntKind.wrap .i64 (mainL m - 3)
end Go.Proofs.YthejpoplbllcbaaGreatDoor
set_option linter.unusedSimpArgs false
set_option linter.unusedVariables false
namespace Go.Proofs.YthejpoplbllcbaaGreatDoor
open Go Go.Abs
theorem listP_below : ∀ (k d : Nat) (l : List W) (s : Rs) (n : Int) (e : UInt8) (s' : Rs),listP true k d l s = some ((n,e),s') → (∀ ws ∈ s.ls,∀ w ∈ ws,belowW w = false) → (∀ w ∈ l,belowW w = false) → ∀ ws ∈ s'.ls,∀ w ∈ ws,belowW w = false
 | 0,_,_,_,_,_,_,h,_,_=>by simp [listP] at h
 | k + 1,d,l,s,n,e,s',h,hs,hl=>by
  rw [listP] at h
  cases hb : byteP s with
  | none=>rw [hb] at h; cases h
  | some p =>
   obtain ⟨c,s1⟩:=p
   rw [hb] at h
   simp only [Option.bind_some] at h
   obtain ⟨b1,b2,b3⟩:=byteP_some hb
   rw [← b2] at hs
   split at h
   ·cases h
    intro ws hw
    rcases List.mem_append.1 hw with h1 | h1
    ·exact hs ws h1
    ·simp only [List.mem_singleton] at h1
     subst h1
     exact hl
   ·cases hi : instrP true (fun d s=>listP true k d [] s) d c s1 with
    | none=>rw [hi] at h; cases h
    | some q =>
     obtain ⟨w,s2⟩:=q
     rw [hi] at h
     simp only [Option.bind_some] at h
     have hq : (∀ ws ∈ s2.ls,∀ w ∈ ws,belowW w = false) ∧ belowW w = false:=by
      unfold instrP at hi
      split at hi
      ·split at hi
       ·unfold withinP at hi
        cases hb1 : byteP s1 with
        | none=>rw [hb1] at hi; cases hi
        | some p1 =>
         obtain ⟨c1,s3⟩:=p1
         rw [hb1] at hi
         simp only [Option.bind_some] at hi
         obtain ⟨f1,f2,f3⟩:=byteP_some hb1
         rw [← f2] at hs
         cases hl1 : listP true k (d + 1) [] s3 with
         | none=>rw [hl1] at hi; cases hi
         | some q1 =>
          obtain ⟨⟨n1,e1⟩,s4⟩:=q1
          rw [hl1] at hi
          simp only [Option.bind_some] at hi
          have hs4:=listP_below k (d + 1) [] s3 n1 e1 s4 hl1 hs (by simp)
          split at hi
          ·split at hi
           ·rw [Option.map_eq_some_iff] at hi
            obtain ⟨⟨⟨n2,e2⟩,s5⟩,hl2,he2⟩:=hi
            simp only [Prod.mk.injEq] at he2
            obtain ⟨rfl,rfl⟩:=he2
            exact ⟨listP_below k (d + 1) [] s4 n2 e2 _ hl2 hs4 (by simp),by simp [belowW,nestP]⟩
           ·cases hi
            exact ⟨hs4,by simp [belowW,nestP]⟩
          ·cases hi
           exact ⟨hs4,by simp [belowW,nestP]⟩
       ·cases hi
      ·obtain ⟨_,a2,_,_,_,_,_,_,a3,_⟩:=leafP_some hi
       rw [a2]
       exact ⟨hs,a3 rfl⟩
     refine listP_below k d _ s2 n e s' h hq.1 fun w' hw'=>?_
     rcases List.mem_append.1 hw' with h1 | h1
     ·exact hl w' h1
     ·simp only [List.mem_singleton] at h1
      subst h1
      exact hq.2
def tyOk (t : Int) : Prop := t = 1 ∨ t = 2
theorem typeP_some {st : Bool} {s s' : Rs} {t : Int} (h : typeP st s = some (t,s')) : s'.ls = s.ls ∧ s'.n = s.n ∧ (st = true → tyOk t) := by
 unfold typeP at h
 cases hb : byteP s with
 | none=>rw [hb] at h; cases h
 | some p =>
  obtain ⟨c,s1⟩:=p
  rw [hb] at h
  simp only [Option.bind_some] at h
  obtain ⟨b1,b2,b3⟩:=byteP_some hb
  split at h
  ·cases h
  ·rename_i hno
   cases h
   refine ⟨b2,b3,fun hst=>?_⟩
   by_cases h1 : c = 126
   ·subst h1; right; rfl
   ·by_cases h2 : c = 127
    ·subst h2; left; rfl
    ·exact absurd ⟨hst,h1,h2⟩ hno
theorem types_some {st : Bool} : ∀ {n : Nat} {s s' : Rs} {l : List Int},repP (typeP st) n s = some (l,s') → s'.ls = s.ls ∧ s'.n = s.n ∧ (st = true → ∀ t ∈ l,tyOk t) ∧ l.length = n
 | 0,s,s',l,h=>by
  cases h
  exact ⟨rfl,rfl,fun _=>by simp,rfl⟩
 | n + 1,s,s',l,h=>by
  rw [repP] at h
  simp only [Option.bind_eq_some_iff,Option.map_eq_some_iff] at h
  obtain ⟨⟨t,s1⟩,h1,⟨l',s2⟩,h2,h3⟩:=h
  cases h3
  obtain ⟨a1,a2,a3⟩:=typeP_some h1
  obtain ⟨b1,b2,b3,b4⟩:=types_some h2
  refine ⟨b1.trans a1,b2.trans a2,fun hst x hx=>?_,by simp [b4]⟩
  rcases List.mem_cons.1 hx with rfl | hx
  ·exact a3 hst
  ·exact b3 hst x hx
theorem typesP_some {st : Bool} {s s' : Rs} {l : List Int} (h : typesP st s = some (l,s')) : s'.ls = s.ls ∧ s'.n = s.n ∧ (st = true → ∀ t ∈ l,tyOk t) := by
 unfold typesP at h
 simp only [Option.bind_eq_some_iff] at h
 obtain ⟨⟨n,s1⟩,h1,h2⟩:=h
 obtain ⟨_,a1,a2,_⟩:=numP_some h1
 obtain ⟨b1,b2,b3,_⟩:=types_some h2
 exact ⟨b1.trans a1,b2.trans a2,b3⟩
def HeadOk (st : Bool) (f : F) : Prop := f.locals = [] ∧ (st = true → (∀ t ∈ f.params,tyOk t) ∧ (f.type = 0 ∨ tyOk f.type))
theorem headP_some {st : Bool} {s s' : Rs} {f : F} (h : headP st s = some (f,s')) : s'.ls = s.ls ∧ s'.n = s.n ∧ HeadOk st f := by
 unfold headP at h
 simp only [Option.bind_eq_some_iff,Option.map_eq_some_iff] at h
 obtain ⟨⟨c,s1⟩,h1,⟨l,s2⟩,h2,⟨r,s3⟩,h3,h4⟩:=h
 cases h4
 obtain ⟨_,a1,a2⟩:=byteP_some h1
 obtain ⟨b1,b2,b3⟩:=typesP_some h2
 obtain ⟨c1,c2,c3⟩:=typesP_some h3
 refine ⟨c1.trans (b1.trans a1),c2.trans (b2.trans a2),rfl,fun hst=>⟨b3 hst,?_⟩⟩
 cases r with
 | nil=>exact .inl rfl
 | cons t r=>exact .inr (c3 hst t (by simp))
theorem heads_some {st : Bool} : ∀ {n : Nat} {s s' : Rs} {l : List F},repP (headP st) n s = some (l,s') → s'.ls = s.ls ∧ s'.n = s.n ∧ ∀ f ∈ l,HeadOk st f
 | 0,s,s',l,h=>by
  cases h
  exact ⟨rfl,rfl,by simp⟩
 | n + 1,s,s',l,h=>by
  rw [repP] at h
  simp only [Option.bind_eq_some_iff,Option.map_eq_some_iff] at h
  obtain ⟨⟨t,s1⟩,h1,⟨l',s2⟩,h2,h3⟩:=h
  cases h3
  obtain ⟨a1,a2,a3⟩:=headP_some h1
  obtain ⟨b1,b2,b3⟩:=heads_some h2
  refine ⟨b1.trans a1,b2.trans a2,fun x hx=>?_⟩
  rcases List.mem_cons.1 hx with rfl | hx
  ·exact a3
  ·exact b3 x hx
theorem groups_some {st : Bool} : ∀ {n : Nat} {s s' : Rs} {l : List (List Int)},repP (groupP st) n s = some (l,s') → s'.n = s.n + l.flatten.length ∧ (s.n ≤ 65536 → s'.n ≤ 65536) ∧ (st = true → ∀ t ∈ l.flatten,tyOk t)
 | 0,s,s',l,h=>by
  cases h
  exact ⟨rfl,fun h=>h,fun _=>by simp⟩
 | n + 1,s,s',l,h=>by
  rw [repP] at h
  simp only [Option.bind_eq_some_iff,Option.map_eq_some_iff] at h
  obtain ⟨⟨g,s1⟩,h1,⟨l',s2⟩,h2,h3⟩:=h
  cases h3
  unfold groupP at h1
  simp only [Option.bind_eq_some_iff] at h1
  obtain ⟨⟨m,s3⟩,h4,h5⟩:=h1
  obtain ⟨_,_,a2,_⟩:=numP_some h4
  split at h5
  ·rename_i hm
   rw [Option.map_eq_some_iff] at h5
   obtain ⟨⟨t,s4⟩,h6,h7⟩:=h5
   simp only [Prod.mk.injEq] at h7
   obtain ⟨rfl,rfl⟩:=h7
   obtain ⟨_,c2,c3⟩:=typeP_some h6
   obtain ⟨b1,b2,b3⟩:=groups_some h2
   simp only at c2 hm b1 b2 a2
   refine ⟨?_,fun h0=>b2 (by omega),fun hst x hx=>?_⟩
   ·rw [b1]
    simp
    omega
   ·rw [List.flatten_cons,List.mem_append] at hx
    rcases hx with hx | hx
    ·rw [(List.mem_replicate.1 hx).2]
     exact c3 hst
    ·exact b3 hst x hx
  ·cases h5
def Skel (f : F) : Prop := ∃ st k s e s',listP st k 0 [] s = some (((f.lists.length : Int) - 1,e),s') ∧ s.ls = [] ∧ s'.ls = f.lists
def FromHead (st : Bool) (h f : F) : Prop := f.params = h.params ∧ f.type = h.type ∧ Skel f ∧ (st = true → (∀ t ∈ f.locals,tyOk t) ∧ ∀ ws ∈ f.lists,∀ w ∈ ws,belowW w = false)
theorem functionP_some {st : Bool} {f f' : F} {s s' : Rs} (h : functionP st f s = some (f',s')) (hl : f.locals = []) : FromHead st f f' ∧ s'.n = s.n + f'.locals.length ∧ (s.n ≤ 65536 → s'.n ≤ 65536) ∧ f'.name = f.name := by
 unfold functionP at h
 simp only [Option.bind_eq_some_iff,Option.map_eq_some_iff] at h
 obtain ⟨⟨n1,s1⟩,h1,⟨n2,s2⟩,h2,⟨gs,s3⟩,h3,⟨⟨n,e⟩,s4⟩,h4,h5⟩:=h
 simp only [Prod.mk.injEq] at h5
 obtain ⟨hf',hs'⟩:=h5
 subst hf'
 subst hs'
 obtain ⟨_,_,a2,_⟩:=numP_some h1
 obtain ⟨_,_,b2,_⟩:=numP_some h2
 obtain ⟨c1,c2,c3⟩:=groups_some h3
 obtain ⟨_,d2,_,_,_,_,d7⟩:=listP_ls _ _ _ _ _ _ _ _ h4
 simp only at a2 b2 c1 c2 d7
 have hn : n = (s4.ls.length : Int) - 1:=by omega
 subst hn
 refine ⟨⟨rfl,rfl,⟨st,_,_,e,s4,h4,rfl,rfl⟩,fun hst=>⟨?_,?_⟩⟩,?_,fun h0=>by rw [d7]; exact c2 (by omega),rfl⟩
 ·simp only [hl,List.nil_append]
  exact c3 hst
 ·subst hst
  exact listP_below _ _ _ _ _ _ _ h4 (by simp) (by simp)
 ·simp only [hl,List.nil_append]
  omega
theorem functionsP_some {st : Bool} : ∀ {hs fs : List F} {s s' : Rs},functionsP st hs s = some (fs,s') → (∀ f ∈ hs,f.locals = []) → (∀ f ∈ fs,∃ h ∈ hs,FromHead st h f) ∧ s'.n = s.n + manyL fs ∧ (s.n ≤ 65536 → s'.n ≤ 65536) ∧ fs.length = hs.length
 | [],fs,s,s',h,_=>by
  cases h
  exact ⟨by simp,rfl,fun h=>h,rfl⟩
 | f :: hs,fs,s,s',h,hl=>by
  rw [functionsP] at h
  simp only [Option.bind_eq_some_iff,Option.map_eq_some_iff] at h
  obtain ⟨⟨f',s1⟩,h1,⟨fs',s2⟩,h2,h3⟩:=h
  cases h3
  obtain ⟨a1,a2,a3,_⟩:=functionP_some h1 (hl f (by simp))
  obtain ⟨b1,b2,b3,b4⟩:=functionsP_some h2 fun g hg=>hl g (by simp [hg])
  simp only at b2 b3 a2 a3
  refine ⟨fun g hg=>?_,?_,fun h0=>b3 (a3 h0),by simp [b4]⟩
  ·rcases List.mem_cons.1 hg with rfl | hg
   ·exact ⟨f,by simp,a1⟩
   ·obtain ⟨x,hx,q⟩:=b1 g hg
    exact ⟨x,by simp [hx],q⟩
  ·have : manyL (f' :: fs') = f'.locals.length + manyL fs':=rfl
   simp only
   omega
theorem namesP_some {st : Bool} : ∀ {fs fs' : List F} {s s' : Rs},namesP st fs s = some (fs',s') → fs'.map noname = fs.map noname
 | [],fs',s,s',h=>by
  cases h
  rfl
 | f :: fs,fs',s,s',h=>by
  rw [namesP] at h
  simp only [Option.bind_eq_some_iff,Option.map_eq_some_iff] at h
  obtain ⟨⟨n1,s1⟩,h1,⟨n2,s2⟩,h2,⟨p,s3⟩,h3,⟨fs2,s4⟩,h4,h5⟩:=h
  cases h5
  simp only [List.map_cons,namesP_some h4]
  rfl
theorem noname_many {fs fs' : List F} (h : fs'.map noname = fs.map noname) : manyL fs' = manyL fs := by
 have : ∀ l : List F,manyL l = ((l.map noname).map fun f=>f.locals.length).sum:=fun l=>by simp only [manyL,List.map_map]; rfl
 rw [this,this,h]
theorem noname_mem {fs fs' : List F} (h : fs'.map noname = fs.map noname) {f : F} (hf : f ∈ fs') : ∃ g ∈ fs,noname g = noname f := by
 have : noname f ∈ fs.map noname:=by rw [← h]; exact List.mem_map_of_mem hf
 obtain ⟨g,hg,e⟩:=List.mem_map.1 this
 exact ⟨g,hg,e⟩
theorem headsP_some {s s' : Rs} {l : List F} (h : headsP s = some (l,s')) : ∀ f ∈ l,HeadOk false f := by
 unfold headsP at h
 simp only [Option.bind_eq_some_iff] at h
 obtain ⟨s1,h1,⟨n,s2⟩,h2,⟨hs,s3⟩,h3,h4⟩:=h
 split at h4
 ·cases h4
  intro f hf
  exact (heads_some h3).2.2 f (List.mem_of_mem_drop hf)
 ·cases h4
theorem secP_n {c : UInt8} {s s' : Rs} (h : sectionP c s = some s') : s'.n = s.n := by
 unfold sectionP at h
 simp only [Option.bind_eq_some_iff] at h
 obtain ⟨⟨x,s1⟩,h1,h2⟩:=h
 split at h2
 ·rw [Option.map_eq_some_iff] at h2
  obtain ⟨⟨y,s2⟩,h3,rfl⟩:=h2
  exact (numP_some h3).2.2.1.trans (byteP_some h1).2.2
 ·cases h2
theorem skipP_n {n : Int} {s s' : Rs} (h : skipP n s = some s') : s'.n = s.n := by
 unfold skipP at h
 rw [Option.map_eq_some_iff] at h
 obtain ⟨⟨p,s1⟩,h1,rfl⟩:=h
 exact (takeP_some h1).2.2
theorem heads_n {s s' : Rs} {l : List F} (h : headsP s = some (l,s')) : s'.n = s.n := by
 unfold headsP at h
 simp only [Option.bind_eq_some_iff] at h
 obtain ⟨s1,h1,⟨n,s2⟩,h2,⟨hs,s3⟩,h3,h4⟩:=h
 split at h4
 ·cases h4
  have:=(heads_some h3).2.1
  have:=(numP_some h2).2.2.1
  have:=secP_n h1
  simp only at *
  omega
 ·cases h4
theorem nums_n {st : Bool} : ∀ {n : Nat} {s s' : Rs} {l : List Int},repP (numP st false) n s = some (l,s') → s'.n = s.n
 | 0,_,_,_,h=>by cases h; rfl
 | n + 1,s,s',l,h=>by
  rw [repP] at h
  simp only [Option.bind_eq_some_iff,Option.map_eq_some_iff] at h
  obtain ⟨⟨t,s1⟩,h1,⟨l',s2⟩,h2,h3⟩:=h
  cases h3
  exact (nums_n h2).trans (numP_some h1).2.2.1
theorem frontP_some {s s' : Rs} {hs : List F} {mem mn : Int} (h : frontP s = some ((hs,mem,mn),s')) : (∀ f ∈ hs,HeadOk false f) ∧ (-(2 ^ 63) ≤ mem ∧ mem < 2 ^ 63) ∧ (-(2 ^ 63) ≤ mn ∧ mn < 2 ^ 63) ∧ s'.n = s.n := by
 unfold frontP at h
 simp only [Option.bind_eq_some_iff,Option.map_eq_some_iff] at h
 obtain ⟨s1,h1,⟨hs',s2⟩,h2,s3,h3,s4,h4,s5,h5,s6,h6,s7,h7,s8,h8,⟨n9,s9⟩,h9,⟨l10,s10⟩,h10,s11,h11,s12,h12,s13,h13,s14,h14,⟨mem',s15⟩,h15,s16,h16,s17,h17,s18,h18,⟨mn',s19⟩,h19,h20⟩:=h
 cases h20
 obtain ⟨_,_,a3,a4,a5,_⟩:=numP_some h15
 obtain ⟨_,_,b3,b4,b5,_⟩:=numP_some h19
 refine ⟨headsP_some h2,⟨a4,a5⟩,⟨b4,b5⟩,?_⟩
 have:=(numP_some h9).2.2.1
 simp only at *
 rw [b3,skipP_n h18,secP_n h17,skipP_n h16,a3,skipP_n h14,secP_n h13,skipP_n h12,secP_n h11,nums_n h10,this,secP_n h8,skipP_n h7,skipP_n h6,skipP_n h5,skipP_n h4,secP_n h3,heads_n h2,skipP_n h1]
theorem backP_some {hs fs : List F} {s s' : Rs} (h : backP hs s = some (fs,s')) (hl : ∀ f ∈ hs,f.locals = []) : (∀ f ∈ fs,∃ h ∈ hs,FromHead false h f) ∧ (s.n = 0 → manyL fs ≤ 65536) := by
 unfold backP at h
 simp only [Option.bind_eq_some_iff] at h
 obtain ⟨s1,h1,⟨c,s2⟩,h2,h3⟩:=h
 split at h3
 ·simp only [Option.bind_eq_some_iff] at h3
  obtain ⟨⟨fs1,s3⟩,h4,s4,h5,s5,h6,⟨x,s6⟩,h7,⟨y,s7⟩,h8,h9⟩:=h3
  split at h9
  ·obtain ⟨a1,a2,a3,_⟩:=functionsP_some h4 hl
   have hn:=namesP_some h9
   refine ⟨fun f hf=>?_,fun h0=>?_⟩
   ·obtain ⟨g,hg,e⟩:=noname_mem hn hf
    obtain ⟨k,hk,q1,q2,⟨st,k0,s0,e0,s0',q3,q4,q5⟩,q6⟩:=a1 g hg
    have e1 : g.params = f.params:=by
     have:=congrArg F.params e
     exact this
    have e2 : g.type = f.type:=by
     have:=congrArg F.type e
     exact this
    have e3 : g.lists = f.lists:=by
     have:=congrArg F.lists e
     exact this
    exact ⟨k,hk,by rw [← e1]; exact q1,by rw [← e2]; exact q2,⟨st,k0,s0,e0,s0',by rw [← e3]; exact q3,q4,by rw [← e3]; exact q5⟩,fun h=>by cases h⟩
   ·rw [noname_many hn]
    have:=(numP_some h2).2.2.1
    have:=secP_n h1
    simp only at *
    have:=a3 (by omega)
    omega
  ·cases h9
 ·cases h3
end Go.Proofs.YthejpoplbllcbaaGreatDoor
set_option linter.unusedSimpArgs false
set_option linter.unusedVariables false
namespace Go.Proofs.YthejpoplbllcbaaGreatDoor
open Go Go.Abs
theorem RepO.len {σ : AS} {v : AV} {l : List W} (h : Al.RepO σ v l) (K : AV → Prop) : alen Tryz.prog 61 v K = K (.int .i64 (l.length : Int)) := by
 rcases h with ⟨rfl,rfl⟩ | ⟨b,rfl,_⟩ <;> simp
theorem RepO.at {σ : AS} {v : AV} {l : List W} (h : Al.RepO σ v l) {i : Nat} (hi : i < l.length) : ∃ φ,Al.Rd σ φ ∧ ∀ K : AV → Prop,aindexAddr Tryz.prog 61 v (.int .i64 (i : Int)) K = K (.pv φ l[i].av) := by
 rcases h with ⟨rfl,_⟩ | ⟨φ,rfl,r⟩
 ·simp at hi
 ·exact ⟨φ,r,fun K=>by simp [hi]⟩
@[simp] theorem blit5 : blitSl 22 [(0,Operand.const (.int .u8 5))] = false := by decide
@[simp] theorem blit11 : blitSl 22 [(0,Operand.const (.int .u8 11))] = false := by decide
@[simp] theorem blit00 : blitSl 22 [(0,Operand.const (.int .u8 0)),(1,Operand.const (.int .u8 0))] = false := by decide
def RgW (w : W) : Prop := -(2 ^ 63) ≤ w.n ∧ w.n < 2 ^ 63
def RgL (ls : To) : Prop := ∀ ws ∈ ls,∀ w ∈ ws,RgW w
def FCs (f : F) (pv lv tv : AV) : List AV := [.str f.name,pv,lv,.int .i64 f.type,tv]
def EncOk (G : Env) (ls : To) (k : Nat) : Prop := ∀ (σ : AS) (R : Out → AS → Prop) (f : F) (pv lv tv : AV) (at_ : Int) (bs : List UInt8),f.lists = ls → Al.IntsO σ pv f.params → Al.IntsO σ lv f.locals → Al.LstO σ tv f.lists → encL ls k at_ = some bs → bs.length ≤ 2 ^ 38 →
 (∀ v σ',NewB σ σ' v bs → R (.ret v) σ') → ACalls Tryz.prog G 44 [.agg (FCs f pv lv tv),.int .i64 at_] σ R
def LiI (ls : To) (k : Nat) (σ : AS) (o : Nat) (fc : List AV) (rv : AV) (ws : List W) (bs : List UInt8) (a : Nat → AV) (τ : AS) : Prop := ∃ (i : Nat) (done r : List UInt8),i ≤ ws.length ∧ encWs (encL ls k) (ws.drop i) = some r ∧ done ++ r = bs ∧ a 2 = .ptr o 0 ∧ a 11 = rv ∧ a 12 = .int .i64 (ws.length : Int) ∧ a 13 = .int .i64 (i : Int) ∧ NewB σ τ (a 4) done ∧ o < τ.no ∧ σ.no ≤ o ∧ τ.objs o = some fc
theorem nest_of {w : W} (h : nestW w = true) : w.op = 11 ∨ w.op = 12 ∨ w.op = 13 := by
 simpa [nestW,or_assoc] using h
section
variable {G : Env} {σ : AS} {R : Out → AS → Prop}
theorem grow_bytesO {τ : AS} {v : AV} {ys : List AV} {x y : List UInt8} {K : AV → AS → Prop} (h1 : NewB σ τ v x) (e : ys = B y) (hl : x.length + y.length ≤ 2 ^ 42) (h : ∀ v' σ',NewB σ σ' v' (x ++ y) → σ'.objs = τ.objs → σ'.no = τ.no → K v' σ') : grown 1 1 v ys τ K := by
 subst e
 obtain ⟨ho,hA⟩:=h1
 have hgn:=hA.nf
 rcases ho with ⟨h0,rfl⟩ | ⟨g,rfl,g1,g2,g3⟩
 ·have hx : x = []:=by simpa [B] using h0
  subst hx
  cases y with
  | nil=>simp [B]; exact h _ _ ⟨.inl ⟨rfl,rfl⟩,hA⟩ rfl rfl
  | cons c y =>
   have e1 : B (c :: y) = AV.int .u8 (c.toNat : Int) :: B y:=rfl
   rw [e1]
   simp
   refine ⟨by simp at hl; omega,?_⟩
   exact h _ _ ⟨.inr ⟨τ.nf,by simp [B],hgn,by simp,by simp⟩,hA.newF⟩ (by simp) (by simp)
 ·simp [g3]
  exact ⟨by omega,h _ _ ⟨.inr ⟨τ.nf,by simp,hgn,by simp,by simp⟩,(hA.setF g1).newF (σ':=τ.setF g .dead)⟩ (by simp) (by simp)⟩
theorem grow_srcO {τ : AS} {v v2 : AV} {x y : List UInt8} {K : AV → AS → Prop} (h1 : NewB σ τ v x) (h2 : BytO τ v2 y) (hl : x.length + y.length ≤ 2 ^ 42) (h : ∀ v' σ',NewB σ σ' v' (x ++ y) → σ'.objs = τ.objs → σ'.no = τ.no → K v' σ') :
  asource Tryz.prog 22 (.int .u8 0) 1 v2 τ.F fun ys=>(∀ y,y ∈ ys → y.cells.length = 1 ∧ ∀ c,c ∈ y.cells → c.one = true) ∧ grown 1 1 v ys τ K:=by
 rcases h2 with ⟨rfl,rfl⟩ | ⟨φ,rfl,hr⟩
 ·simp
  exact grow_bytesO h1 rfl hl h
 ·have hr':=hr.read
  simp [hr']
  exact ⟨B_one y,grow_bytesO h1 rfl hl h⟩
theorem list_body (V : VarsB G) {ls : To} {k : Nat} (IH : EncOk G ls k) {f : F} {pv lv tv rv : AV} {ws : List W} {bs : List UInt8} {o : Nat} (hls : f.lists = ls) (hp : Al.IntsO σ pv f.params) (hl : Al.IntsO σ lv f.locals) (ht : Al.LstO σ tv f.lists) (hrv : Al.RepO σ rv ws) (hws : ws.length ≤ 2 ^ 40) (hbs : bs.length ≤ 2 ^ 38) (hrg : ∀ w ∈ ws,RgW w)
  (h : ∀ v σ',NewB σ σ' v bs → R (.ret v) σ') {a : Nat → AV} {τ : AS} (hI : LiI ls k σ o (FCs f pv lv tv) rv ws bs a τ) :
  avc Tryz.prog G 89 pc44_l1 (athen (fun a' σ'=>LiI ls k σ o (FCs f pv lv tv) rv ws bs a' σ' ∧ MU 13 (ws.length + 1) a' σ' < MU 13 (ws.length + 1) a τ) (ablock 0 (athen (avc Tryz.prog G 89 pc44_r1 (afin Tryz.prog [.tmp 4] R)) (afin Tryz.prog [.tmp 4] R)))) a τ:=by
 obtain ⟨i,done,r,hi,hr,hbsd,a2,a11,a12,a13,hN,ho1,ho2,ho⟩:=hI
 have n1:=hN.byt.one
 have hpl:=congrArg List.length hbsd
 simp only [List.length_append] at hpl
 by_cases hlt : i < ws.length
 ·have hlt' : (i : Int) < (ws.length : Int):=by omega
  obtain ⟨φ,hrd,hix⟩:=RepO.at (hrv.keep hN.2) hlt
  have hrd:=hrd.read
  rw [List.drop_eq_getElem_cons hlt] at hr
  have hrw:=hrg _ (List.getElem_mem hlt)
  generalize ws[i] = w at *
  obtain ⟨x,y,hx,hy,rfl⟩:=encWs_cons hr
  have w1 : IntKind.wrap .i64 ((i : Int) + 1) = ((i + 1 : Nat) : Int):=by rw [wrap_i64] <;> omega
  have next : ∀ (a' : Nat → AV) (σ' : AS),a' 2 = .ptr o 0 → a' 11 = rv → a' 12 = .int .i64 (ws.length : Int) → a' 13 = .int .i64 ((i : Int) + 1) → NewB σ σ' (a' 4) (done ++ x) → τ.no ≤ σ'.no → σ'.objs o = some (FCs f pv lv tv) →
    LiI ls k σ o (FCs f pv lv tv) rv ws bs a' σ' ∧ MU 13 (ws.length + 1) a' σ' < MU 13 (ws.length + 1) a τ:=fun a' σ' e2 e11 e12 e13 e4 e5 e6=>by
   refine ⟨⟨i + 1,done ++ x,y,hlt,hy,by rw [← hbsd]; simp,e2,e11,e12,by rw [e13]; rfl,e4,by omega,ho2,e6⟩,?_⟩
   simp only [MU,a13,e13]; omega
  have kobj : ∀ {c1 : List AV} {σ' : AS},Adds ((τ.newO c1).setO τ.no w.cs) σ' → σ'.objs o = some (FCs f pv lv tv) ∧ σ'.objs τ.no = some w.cs ∧ τ.no < σ'.no:=fun {c1 σ'} A=>by
   have:=A.no
   simp at this
   refine ⟨?_,?_,by omega⟩
   ·rw [A.obj o (by simp; omega)]
    have : ¬ o = τ.no:=by omega
    simp [this,ho]
   ·rw [A.obj τ.no (by simp)]
    simp
  have hA0 : ∀ c1,Adds τ ((τ.newO c1).setO τ.no w.cs):=fun c1=>.mk1
  have hlen : done.length + (x.length + y.length) = bs.length:=by rw [← hpl]; simp
  have sub : ∀ {τ' : AS} {z : List UInt8} {at_ : Int} {R' : Out → AS → Prop},Adds σ τ' → encL ls k at_ = some z → z.length ≤ 2 ^ 38 → (∀ v σ',NewB τ' σ' v z → R' (.ret v) σ') → ACalls Tryz.prog G 44 [.agg (FCs f pv lv tv),.int .i64 at_] τ' R' :=
   fun A he hz hR=>IH _ _ f pv lv tv _ _ hls (hp.keep A) (hl.keep A) (ht.keep A) he hz hR
  have hwcs : w.cs = [.int .i64 w.op,.int .i64 w.ty,.int .i64 w.n,.int .i64 w.body,.int .i64 w.other,.str w.name]:=rfl
  by_cases hn : nestW w = true
  ·unfold encW at hx
   rw [if_pos hn] at hx
   cases hb : encL ls k w.body with
   | none=>rw [hb] at hx; cases hx
   | some b =>
    rw [hb] at hx
    simp only [Option.bind_some] at hx
    have hop:=nest_of hn
    have q2 : IntKind.u8.wrap (IntKind.i64.wrap (IntKind.i64.wrap 13 - 11)) = 2:=by decide
    have q3 : IntKind.u8.wrap (IntKind.i64.wrap (IntKind.i64.wrap 14 - 11)) = 3:=by decide
    have q4 : IntKind.u8.wrap (IntKind.i64.wrap (IntKind.i64.wrap 15 - 11)) = 4:=by decide
    have c2 : byteI (11 - 9) = 2:=by decide
    have c3 : byteI (12 - 9) = 3:=by decide
    have c4 : byteI (13 - 9) = 4:=by decide
    rcases hop with e | e | e
    ·have h13 : ¬ (w.op = 13 ∧ 0 ≤ w.other):=by omega
     rw [if_neg h13,e] at hx
     simp only [Option.some.injEq,c2,c3,c4] at hx
     subst hx
     simp only [List.length_cons,List.length_append,List.length_nil] at hlen
     have A1':=hA0 [AV.int IntKind.i64 0,AV.int IntKind.i64 0,AV.int IntKind.i64 0,AV.int IntKind.i64 0,AV.int IntKind.i64 0,AV.str []]
     have hk:=kobj (Adds.refl ((τ.newO [AV.int IntKind.i64 0,AV.int IntKind.i64 0,AV.int IntKind.i64 0,AV.int IntKind.i64 0,AV.int IntKind.i64 0,AV.str []]).setO τ.no w.cs))
     simp only [hwcs,e] at hk A1'
     obtain ⟨k1,k2,k3⟩:=hk
     simp [pc44_l1,a2,a11,a12,a13,hlt',hix,hrd,W.av,W.cs,e,n1,splice,q2]
     refine grow_bytesO (y:=[2,64]) (hN.keep A1') rfl (by simp; omega) fun v1 σ1 h1 u1 r1=>?_
     have k1':=(congrFun u1 o).trans k1
     have k2':=(congrFun u1 τ.no).trans k2
     have n2:=h1.byt.one
     have hno1:=A1'.no
     simp only [FCs] at k1'
     simp [a2,k1',k2',n2]
     refine sub h1.2 hb (by omega) fun v2 σ2 h2=>?_
     have n3:=h2.byt.one
     have k1'':=(h2.2.obj o (by omega)).trans k1'
     have k2'':=(h2.2.obj τ.no (by omega)).trans k2'
     have hno2:=h2.2.no
     simp
     refine grow_srcO (h1.keep h2.2) h2.byt (by simp; omega) fun v3 σ3 h3 u3 r3=>?_
     have k1a:=(congrFun u3 o).trans k1''
     have k2a:=(congrFun u3 τ.no).trans k2''
     have n4:=h3.byt.one
     simp [k2a,n4]
     refine grow_bytesO (y:=[11]) h3 rfl (by simp; omega) fun v4 σ4 h4 u4 r4=>?_
     have k1b:=(congrFun u4 o).trans k1a
     simp [w1,a13]
     exact next _ _ (by simp [a2]) (by simp [a11]) (by simp [a12]) (by simp) (by simpa using h4) (by omega) k1b
    ·have h13 : ¬ (w.op = 13 ∧ 0 ≤ w.other):=by omega
     rw [if_neg h13,e] at hx
     simp only [Option.some.injEq,c2,c3,c4] at hx
     subst hx
     simp only [List.length_cons,List.length_append,List.length_nil] at hlen
     have A1':=hA0 [AV.int IntKind.i64 0,AV.int IntKind.i64 0,AV.int IntKind.i64 0,AV.int IntKind.i64 0,AV.int IntKind.i64 0,AV.str []]
     have hk:=kobj (Adds.refl ((τ.newO [AV.int IntKind.i64 0,AV.int IntKind.i64 0,AV.int IntKind.i64 0,AV.int IntKind.i64 0,AV.int IntKind.i64 0,AV.str []]).setO τ.no w.cs))
     simp only [hwcs,e] at hk A1'
     obtain ⟨k1,k2,k3⟩:=hk
     simp [pc44_l1,a2,a11,a12,a13,hlt',hix,hrd,W.av,W.cs,e,n1,splice,q3]
     refine grow_bytesO (y:=[3,64]) (hN.keep A1') rfl (by simp; omega) fun v1 σ1 h1 u1 r1=>?_
     have k1':=(congrFun u1 o).trans k1
     have k2':=(congrFun u1 τ.no).trans k2
     have n2:=h1.byt.one
     have hno1:=A1'.no
     simp only [FCs] at k1'
     simp [a2,k1',k2',n2]
     refine sub h1.2 hb (by omega) fun v2 σ2 h2=>?_
     have n3:=h2.byt.one
     have k1'':=(h2.2.obj o (by omega)).trans k1'
     have k2'':=(h2.2.obj τ.no (by omega)).trans k2'
     have hno2:=h2.2.no
     simp
     refine grow_srcO (h1.keep h2.2) h2.byt (by simp; omega) fun v3 σ3 h3 u3 r3=>?_
     have k1a:=(congrFun u3 o).trans k1''
     have k2a:=(congrFun u3 τ.no).trans k2''
     have n4:=h3.byt.one
     simp [k2a,n4]
     refine grow_bytesO (y:=[11]) h3 rfl (by simp; omega) fun v4 σ4 h4 u4 r4=>?_
     have k1b:=(congrFun u4 o).trans k1a
     simp [w1,a13]
     exact next _ _ (by simp [a2]) (by simp [a11]) (by simp [a12]) (by simp) (by simpa using h4) (by omega) k1b
    ·by_cases h0 : 0 ≤ w.other
     ·have h13 : w.op = 13 ∧ 0 ≤ w.other:=⟨e,h0⟩
      rw [if_pos h13,e] at hx
      simp only [Option.map_eq_some_iff,c4] at hx
      obtain ⟨ot,hot,rfl⟩:=hx
      simp only [List.length_cons,List.length_append,List.length_nil] at hlen
      have A1':=hA0 [AV.int IntKind.i64 0,AV.int IntKind.i64 0,AV.int IntKind.i64 0,AV.int IntKind.i64 0,AV.int IntKind.i64 0,AV.str []]
      have hk:=kobj (Adds.refl ((τ.newO [AV.int IntKind.i64 0,AV.int IntKind.i64 0,AV.int IntKind.i64 0,AV.int IntKind.i64 0,AV.int IntKind.i64 0,AV.str []]).setO τ.no w.cs))
      simp only [hwcs,e] at hk A1'
      obtain ⟨k1,k2,k3⟩:=hk
      simp [pc44_l1,a2,a11,a12,a13,hlt',hix,hrd,W.av,W.cs,e,n1,splice,q4]
      refine grow_bytesO (y:=[4,64]) (hN.keep A1') rfl (by simp; omega) fun v1 σ1 h1 u1 r1=>?_
      have k1':=(congrFun u1 o).trans k1
      have k2':=(congrFun u1 τ.no).trans k2
      have n2:=h1.byt.one
      have hno1:=A1'.no
      simp only [FCs] at k1'
      simp [a2,k1',k2',n2]
      refine sub h1.2 hb (by omega) fun v2 σ2 h2=>?_
      have n3:=h2.byt.one
      have k1'':=(h2.2.obj o (by omega)).trans k1'
      have k2'':=(h2.2.obj τ.no (by omega)).trans k2'
      have hno2:=h2.2.no
      simp
      refine grow_srcO (h1.keep h2.2) h2.byt (by simp; omega) fun v3 σ3 h3 u3 r3=>?_
      have k1a:=(congrFun u3 o).trans k1''
      have k2a:=(congrFun u3 τ.no).trans k2''
      have n4:=h3.byt.one
      simp [a2,k1a,k2a,n4,h0]
      refine grow_bytesO (y:=[5]) h3 rfl (by simp; omega) fun v4 σ4 h4 u4 r4=>?_
      have k1b:=(congrFun u4 o).trans k1a
      have k2b:=(congrFun u4 τ.no).trans k2a
      have n5:=h4.byt.one
      simp [a2,k1b,k2b,n5]
      refine sub h4.2 hot (by omega) fun v5 σ5 h5=>?_
      have n6:=h5.byt.one
      have k1c:=(h5.2.obj o (by omega)).trans k1b
      have hno3:=h5.2.no
      simp
      refine grow_srcO (h4.keep h5.2) h5.byt (by simp; omega) fun v6 σ6 h6 u6 r6=>?_
      have k1d:=(congrFun u6 o).trans k1c
      have n7:=h6.byt.one
      simp [n7]
      refine grow_bytesO (y:=[11]) h6 rfl (by simp; omega) fun v7 σ7 h7 u7 r7=>?_
      have k1e:=(congrFun u7 o).trans k1d
      simp [w1,a13]
      exact next _ _ (by simp [a2]) (by simp [a11]) (by simp [a12]) (by simp) (by simpa using h7) (by omega) k1e
     ·have h13 : ¬ (w.op = 13 ∧ 0 ≤ w.other):=by omega
      rw [if_neg h13,e] at hx
      simp only [Option.some.injEq,c2,c3,c4] at hx
      subst hx
      simp only [List.length_cons,List.length_append,List.length_nil] at hlen
      have A1':=hA0 [AV.int IntKind.i64 0,AV.int IntKind.i64 0,AV.int IntKind.i64 0,AV.int IntKind.i64 0,AV.int IntKind.i64 0,AV.str []]
      have hk:=kobj (Adds.refl ((τ.newO [AV.int IntKind.i64 0,AV.int IntKind.i64 0,AV.int IntKind.i64 0,AV.int IntKind.i64 0,AV.int IntKind.i64 0,AV.str []]).setO τ.no w.cs))
      simp only [hwcs,e] at hk A1'
      obtain ⟨k1,k2,k3⟩:=hk
      simp [pc44_l1,a2,a11,a12,a13,hlt',hix,hrd,W.av,W.cs,e,n1,splice,q4]
      refine grow_bytesO (y:=[4,64]) (hN.keep A1') rfl (by simp; omega) fun v1 σ1 h1 u1 r1=>?_
      have k1':=(congrFun u1 o).trans k1
      have k2':=(congrFun u1 τ.no).trans k2
      have n2:=h1.byt.one
      have hno1:=A1'.no
      simp only [FCs] at k1'
      simp [a2,k1',k2',n2]
      refine sub h1.2 hb (by omega) fun v2 σ2 h2=>?_
      have n3:=h2.byt.one
      have k1'':=(h2.2.obj o (by omega)).trans k1'
      have k2'':=(h2.2.obj τ.no (by omega)).trans k2'
      have hno2:=h2.2.no
      simp
      refine grow_srcO (h1.keep h2.2) h2.byt (by simp; omega) fun v3 σ3 h3 u3 r3=>?_
      have k1a:=(congrFun u3 o).trans k1''
      have k2a:=(congrFun u3 τ.no).trans k2''
      have n4:=h3.byt.one
      simp [k2a,n4,h0]
      refine grow_bytesO (y:=[11]) h3 rfl (by simp; omega) fun v4 σ4 h4 u4 r4=>?_
      have k1b:=(congrFun u4 o).trans k1a
      simp [w1,a13]
      exact next _ _ (by simp [a2]) (by simp [a11]) (by simp [a12]) (by simp) (by simpa using h4) (by omega) k1b
  ·unfold encW at hx
   rw [if_neg hn] at hx
   simp only [Option.map_eq_some_iff] at hx
   obtain ⟨c,hc,rfl⟩:=hx
   have hno : ¬ w.op = 11 ∧ ¬ w.op = 12 ∧ ¬ w.op = 13:=by simpa [nestW,not_or,and_assoc] using hn
   obtain ⟨o11,o12,o13⟩:=hno
   simp only [List.length_cons] at hlen
   have htl:=tailW_len w
   simp [pc44_l1,a2,a11,a12,a13,hlt',hix,hrd,W.av,W.cs,o11,o12,o13,n1,splice]
   refine code_calls V (w:=w) (codeS_code hc) fun σ1 A1=>?_
   obtain ⟨k1,k2,k3⟩:=kobj A1
   have A1':=(hA0 _).trans A1
   simp only [hwcs] at k2
   simp [n1]
   refine grow_bytesO (y:=[c]) (hN.keep A1') rfl (by simp; omega) fun v2 σ2 h2 u2 r2=>?_
   have k2':=(congrFun u2 τ.no).trans k2
   have k1':=(congrFun u2 o).trans k1
   have n2:=h2.byt.one
   have hno1:=A1'.no
   simp [k2']
   by_cases p1 : w.op = 1
   ·have et : tailW w = sI w.n:=by simp [tailW,p1]
    rw [et] at next htl
    simp [p1,n2,k2']
    refine s_calls hrw fun v3 σ3 h3=>?_
    have k1'':=(h3.2.obj o (by omega)).trans k1'
    have hno2:=h3.2.no
    simp
    refine grow_srcO (h2.keep h3.2) h3.byt (by simp; omega) fun v4 σ4 h4 u4 r4=>?_
    have k1a:=(congrFun u4 o).trans k1''
    simp [w1,a13]
    exact next _ _ (by simp [a2]) (by simp [a11]) (by simp [a12]) (by simp) (by simpa using h4) (by omega) k1a
   ·by_cases p2 : w.op = 2 ∨ w.op = 3 ∨ w.op = 10 ∨ w.op = 14 ∨ w.op = 15
    ·have et : tailW w = uI w.n:=by simp only [tailW,p1,if_false,p2,if_true]
     rw [et] at next htl
     rcases p2 with p2 | p2 | p2 | p2 | p2 <;>
     ·simp [p2,n2,k2']
      refine u_calls hrw.2 fun v3 σ3 h3=>?_
      have k1'':=(h3.2.obj o (by omega)).trans k1'
      have hno2:=h3.2.no
      simp
      refine grow_srcO (h2.keep h3.2) h3.byt (by simp; omega) fun v4 σ4 h4 u4 r4=>?_
      have k1a:=(congrFun u4 o).trans k1''
      simp [w1,a13]
      exact next _ _ (by simp [a2]) (by simp [a11]) (by simp [a12]) (by simp) (by simpa using h4) (by omega) k1a
    ·simp only [not_or] at p2
     obtain ⟨p2,p3,p10,p14,p15⟩:=p2
     by_cases p8 : w.op = 8 ∨ w.op = 9
     ·have et : tailW w = [0,0]:=by simp only [tailW,p1,p2,p3,p10,p14,p15,if_false,or_self,p8,if_true]
      rw [et] at next htl
      rcases p8 with p8 | p8 <;>
      ·simp [p8,n2,k2']
       refine grow_bytesO (y:=[0,0]) h2 rfl (by simp; omega) fun v4 σ4 h4 u4 r4=>?_
       have k1a:=(congrFun u4 o).trans k1'
       simp [w1,a13]
       exact next _ _ (by simp [a2]) (by simp [a11]) (by simp [a12]) (by simp) (by simpa using h4) (by omega) k1a
     ·simp only [not_or] at p8
      obtain ⟨p8,p9⟩:=p8
      have et : tailW w = []:=by simp only [tailW,p1,p2,p3,p10,p14,p15,p8,p9,if_false,or_self]
      rw [et] at next htl
      simp [p1,p2,p3,p10,p14,p15,p8,p9,n2,w1,a13]
      exact next _ _ (by simp [a2]) (by simp [a11]) (by simp [a12]) (by simp) (by simpa using h2) (by omega) k1'
 ·have hie : i = ws.length:=by omega
  subst hie
  simp only [List.drop_length,encWs,Option.some.injEq] at hr
  subst hr
  have : done = bs:=by rw [← hbsd]; simp
  subst this
  simp [pc44_l1,pc44_r1,a12,a13,n1]
  exact h _ _ hN
theorem list_ok {G : Env} (V : VarsB G) {ls : To} (hw : ∀ ws ∈ ls,ws.length ≤ 2 ^ 40) (hrg : RgL ls) : ∀ k,EncOk G ls k
 | 0=>fun _ _ _ _ _ _ _ _ _ _ _ _ h=>by simp [encL] at h
 | k + 1=>fun σ R f pv lv tv at_ bs hls hp hl ht h hb hR=>by
  have IH:=list_ok V hw hrg k
  rw [encL] at h
  split at h
  ·cases h
  rename_i h0
  have h0 : ¬ at_ < 0:=h0
  obtain ⟨n,rfl⟩ : ∃ n : Nat,at_ = n:=⟨at_.toNat,by omega⟩
  simp only [Int.toNat_natCast] at h
  cases hg : ls[n]? with
  | none=>rw [hg] at h; cases h
  | some ws =>
   rw [hg] at h
   simp only at h
   obtain ⟨hn,hge⟩:=List.getElem?_eq_some_iff.1 hg
   subst hls
   obtain ⟨φ,rv,hrd,hrv,hix⟩:=ht.at hn
   rw [hge] at hrv
   have hrd:=hrd.read
   have p1:=hp.one
   have l1:=hl.one
   have t1:=ht.one
   have r1:=hrv.one
   have rl:=RepO.len hrv
   refine calls44 rfl ?_
   simp [pc44,FCs,p1,l1,t1,hix,hrd,r1,rl]
   refine aloop (LiI f.lists k σ σ.no (FCs f pv lv tv) rv ws bs) (MU 13 (ws.length + 1)) ⟨0,[],bs,by omega,by simpa using h,rfl,by simp,by simp,by simp,by simp,⟨.inl ⟨rfl,by simp⟩,(Adds.refl σ).newO⟩,by simp,by omega,by simp [FCs]⟩ fun a τ hI=>?_
   exact list_body V IH rfl hp hl ht hrv (hw ws (List.mem_of_getElem? hg)) hb (hrg ws (List.mem_of_getElem? hg)) hR hI
end
end Go.Proofs.YthejpoplbllcbaaGreatDoor
set_option linter.unusedSimpArgs false
set_option linter.unusedVariables false
namespace Go.Proofs.YthejpoplbllcbaaGreatDoor
open Go Go.Abs
section
variable {G : Env} {σ : AS} {R : Out → AS → Prop}
theorem grow_rowO {T : Nat → Nat} {i : Nat} {τ : AS} {v row : AV} {l : List (List UInt8)} {bs : List UInt8} {K : AV → AS → Prop} (hi : 1 ≤ i) (hG : GrowT T i σ τ v l) (hN : RowT T τ row bs) (hT : FreshT T τ) (A : Adds σ τ) (hl : l.length < 2 ^ 40)
  (h : ∀ v' τ' T',GrowT T' i σ τ' v' (l ++ [bs]) → FreshT T' τ' → Adds σ τ' → (∀ j v2 l2,j ≠ i → GrowT T j σ τ v2 l2 → GrowT T' j σ τ' v2 l2) → τ'.objs = τ.objs → τ'.no = τ.no → K v' τ') : grown 24 1 v [row] τ K:=by
 have hgn:=A.nf
 have fr : FreshT (upd T τ.nf i) τ.newF:=fun f hf=>by
  have hf' : τ.nf + 1 ≤ f:=hf
  have : ¬ f = τ.nf:=by omega
  simp [upd_at,this]
  exact hT f (by omega)
 rcases hG with ⟨rfl,rfl⟩ | ⟨φ,vs,rfl,hφ,hv⟩
 ·simp
  refine h _ _ (upd T τ.nf i) (.inr ⟨_,[row],rfl,.inr ⟨τ.nf,rfl,hgn,by simp,by simp,by simp [upd_at]⟩,.cons hN.new .nil⟩) fr A.newF (fun j v2 l2 hj h2=>h2.new) (by simp) (by simp)
 ·have hvl:=hv.length
  rcases hφ with rfl | ⟨g,rfl,g1,g2,g3,g4⟩
  ·simp [grown]
   refine ⟨by omega,?_⟩
   exact h _ _ (upd T τ.nf i) (.inr ⟨_,_,rfl,.inr ⟨τ.nf,rfl,hgn,by simp,by simp,by simp [upd_at]⟩,(Al.all2_mono hv fun _ _ q=>q.new).append (.cons hN.new .nil)⟩) fr A.newF (fun j v2 l2 hj h2=>h2.new) (by simp) (by simp)
  ·simp [g3]
   refine ⟨by omega,?_⟩
   refine h _ _ (upd T τ.nf i) (.inr ⟨_,_,rfl,.inr ⟨τ.nf,rfl,hgn,by simp,by simp,by simp [upd_at]⟩,(Al.all2_mono hv fun _ _ q=>q.step g4 hi).append (.cons (hN.step g4 hi) .nil)⟩) (fun f hf=>fr f hf) ((A.setF g1).newF (σ':=τ.setF g .dead)) (fun j v2 l2 hj h2=>h2.step g4 hi hj) (by simp) (by simp)
theorem FreshT.keep {T τ τ'} (h : FreshT T τ) (A : Adds τ τ') : FreshT T τ' := fun f hf => h f (by have := A.nf; omega)
theorem B_inj : ∀ {x y : List UInt8},B x = B y → x = y
 | [],[],_=>rfl
 | [],_ :: _,h=>by cases h
 | _ :: _,[],h=>by cases h
 | a :: x,b :: y,h=>by
  have h1 : AV.int .u8 (a.toNat : Int) :: B x = AV.int .u8 (b.toNat : Int) :: B y:=h
  injection h1 with h1 h2
  injection h1 with _ h3
  have h4 : a = b:=UInt8.toNat_inj.1 (by omega)
  rw [B_inj h2,h4]
theorem lit_eq {K : AV → Prop} {xs : List AV} (x : List UInt8) (e : xs = B x) : (∃ bs,xs = B bs ∧ K (.lit bs)) ↔ K (.lit x) := by
 subst e
 refine ⟨fun ⟨bs,h,k⟩=>?_,fun k=>⟨x,rfl,k⟩⟩
 rw [B_inj h]; exact k
@[simp] theorem blitEnv : blitSl 22 [(0,Operand.const (.int .u8 101)),(1,Operand.const (.int .u8 110)),(2,Operand.const (.int .u8 118))] = true := by decide
@[simp] theorem litEnv {a : Nat → AV} {K : AV → Prop} : abuildLit Tryz.prog 22 3 (ev G a) [(0,Operand.const (.int .u8 101)),(1,Operand.const (.int .u8 110)),(2,Operand.const (.int .u8 118))] K = K (.lit [101,110,118]) := by
 unfold abuildLit
 simp
 exact lit_eq [101,110,118] rfl
@[simp] theorem blitMain : blitSl 22 [(0,Operand.const (.int .u8 109)),(1,Operand.const (.int .u8 97)),(2,Operand.const (.int .u8 105)),(3,Operand.const (.int .u8 110))] = true := by decide
@[simp] theorem litMain {a : Nat → AV} {K : AV → Prop} : abuildLit Tryz.prog 22 4 (ev G a) [(0,Operand.const (.int .u8 109)),(1,Operand.const (.int .u8 97)),(2,Operand.const (.int .u8 105)),(3,Operand.const (.int .u8 110))] K = K (.lit [109,97,105,110]) := by
 unfold abuildLit
 simp
 exact lit_eq [109,97,105,110] rfl
@[simp] theorem blitName : blitSl 22 [(0,Operand.const (.int .u8 110)),(1,Operand.const (.int .u8 97)),(2,Operand.const (.int .u8 109)),(3,Operand.const (.int .u8 101))] = true := by decide
@[simp] theorem litName {a : Nat → AV} {K : AV → Prop} : abuildLit Tryz.prog 22 4 (ev G a) [(0,Operand.const (.int .u8 110)),(1,Operand.const (.int .u8 97)),(2,Operand.const (.int .u8 109)),(3,Operand.const (.int .u8 101))] K = K (.lit [110,97,109,101]) := by
 unfold abuildLit
 simp
 exact lit_eq [110,97,109,101] rfl
@[simp] theorem blitMagic : blitSl 22 [(0,Operand.const (.int .u8 0)),(1,Operand.const (.int .u8 97)),(2,Operand.const (.int .u8 115)),(3,Operand.const (.int .u8 109)),(4,Operand.const (.int .u8 1)),(5,Operand.const (.int .u8 0)),(6,Operand.const (.int .u8 0)),(7,Operand.const (.int .u8 0))] = true := by decide
@[simp] theorem litMagic {a : Nat → AV} {K : AV → Prop} : abuildLit Tryz.prog 22 8 (ev G a) [(0,Operand.const (.int .u8 0)),(1,Operand.const (.int .u8 97)),(2,Operand.const (.int .u8 115)),(3,Operand.const (.int .u8 109)),(4,Operand.const (.int .u8 1)),(5,Operand.const (.int .u8 0)),(6,Operand.const (.int .u8 0)),(7,Operand.const (.int .u8 0))] K = K (.lit magicL) := by
 unfold abuildLit
 simp
 exact lit_eq magicL rfl
@[simp] theorem blit1 : blitSl 22 [(0,Operand.const (.int .u8 1))] = false := by decide
@[simp] theorem blit0 : blitSl 22 [(0,Operand.const (.int .u8 0))] = false := by decide
@[simp] theorem blit101 : blitSl 22 [(0,Operand.const (.int .u8 1)),(1,Operand.const (.int .u8 0)),(2,Operand.const (.int .u8 1))] = false := by decide
@[simp] theorem blitMem : blitSl 22 [(0,Operand.const (.int .u8 1)),(1,Operand.const (.int .u8 127)),(2,Operand.const (.int .u8 0)),(3,Operand.const (.int .u8 65))] = false := by decide
@[simp] theorem blit0t {t : Nat} : blitSl 22 [(0,Operand.const (.int .u8 0)),(1,Operand.tmp t)] = false := by simp [blitSl]
theorem BytO.lit (σ : AS) (bs : List UInt8) {xs : List AV} (e : xs = B bs) : BytO σ (.sl (.stat true) 1 xs) bs := .inr ⟨.stat true,by rw [e],trivial⟩
def wordsI : List (List UInt8) := [[105,110],[111,117,116],[116,114,97,112]]
def En1 (σ : AS) (o : Nat) (oc : List AV) (a : Nat → AV) (τ : AS) : Prop := ∃ (i : Nat) (T : Nat → Nat),i ≤ 3 ∧ a 1 = .ptr o 0 ∧ GrowT T 1 σ τ (a 3) (headsL []) ∧ GrowT T 2 σ τ (a 4) (importsL.take i) ∧ a 5 = .nilsl ∧ a 6 = .nilsl ∧ a 7 = .nilsl ∧ a 18 = .sl (.stat true) 1 (wordsI.map AV.str) ∧ a 19 = .int .i64 3 ∧ a 20 = .int .i64 (i : Int) ∧ FreshT T τ ∧ Adds σ τ ∧ σ.no ≤ o ∧ o < τ.no ∧ τ.objs o = some oc
theorem import_body {o : Nat} {oc : List AV} {a : Nat → AV} {τ : AS} (hI : En1 σ o oc a τ) (fin : ∀ a τ,(∃ T,a 1 = .ptr o 0 ∧ GrowT T 1 σ τ (a 3) (headsL []) ∧ GrowT T 2 σ τ (a 4) importsL ∧ a 5 = .nilsl ∧ a 6 = .nilsl ∧ a 7 = .nilsl ∧ FreshT T τ ∧ Adds σ τ ∧ o < τ.no ∧ τ.objs o = some oc) → avc Tryz.prog G 140 pc16_r2 (afin Tryz.prog [.tmp 2] R) a τ) :
  avc Tryz.prog G 140 pc16_l1 (athen (fun a' σ'=>En1 σ o oc a' σ' ∧ MU 20 4 a' σ' < MU 20 4 a τ) (ablock 0 (athen (avc Tryz.prog G 140 pc16_r2 (afin Tryz.prog [.tmp 2] R)) (afin Tryz.prog [.tmp 2] R)))) a τ:=by
 obtain ⟨i,T,hi,a1,h3,h4,a5,a6,a7,a18,a19,a20,hT,hA,ho1,ho2,ho⟩:=hI
 by_cases hlt : i < 3
 ·have hlt' : (i : Int) < 3:=by omega
  obtain ⟨s,hs,hse⟩ : ∃ s,wordsI[i]? = some s ∧ importsL[i]? = some (sizedL [101,110,118] ++ sizedL s ++ [0,byteI i]):=by
   rcases i with _ | _ | _ | i
   ·exact ⟨_,rfl,by decide⟩
   ·exact ⟨_,rfl,by decide⟩
   ·exact ⟨_,rfl,by decide⟩
   ·omega
  have hs2 : (wordsI.map AV.str)[i]? = some (.str s):=by simp [hs]
  have w1 : IntKind.wrap .i64 ((i : Int) + 1) = ((i + 1 : Nat) : Int):=by rw [wrap_i64] <;> omega
  have htk:=take_snoc hse
  have g4:=h4.bys.one
  simp [pc16_l1,a18,a19,a20,hlt',hs2,g4]
  refine sized_calls (bs:=[101,110,118]) (.lit _ _ rfl) (by simp) fun v1 σ1 h1=>?_
  simp
  refine .inl ?_
  simp
  have hsl : s.length ≤ 4:=by
   have : ∀ x ∈ wordsI,x.length ≤ 4:=by decide
   exact this _ (List.mem_of_getElem? hs)
  refine sized_calls (σ:=σ1.newF) (bs:=s) (.inr ⟨.fam σ1.nf false,rfl,by simp,by simp⟩) (by omega) fun v2 σ2 h2=>?_
  have A2:=(Adds.refl σ1).newF.trans h2.2
  have wi : IntKind.wrap .u8 (i : Int) = ((byteI i).toNat : Int):=wrap_u8 _
  have n1:=(h1.byt.keep A2).one
  have n2:=h2.byt.one
  simp [n1,n2,wi]
  refine concatB_calls (l:=[sizedL [101,110,118],sizedL s,[0,byteI i]]) (BysO.lit (.cons (h1.byt.keep A2) (.cons h2.byt (.cons (.lit _ _ rfl) .nil)))) ?_ (by simp) fun v3 σ3 h3'=>?_
  ·have:=uI_len s.length
   have:=uI_len 3
   simp [sumB,sizedL]; omega
  have A3:=(h1.2.trans A2).trans h3'.2
  have n3:=h3'.byt.one
  simp [n3]
  have AA : Adds τ σ3:=A3
  have eb : ([sizedL [101,110,118],sizedL s,[0,byteI i]] : List (List UInt8)).flatten = sizedL [101,110,118] ++ sizedL s ++ [0,byteI i]:=by simp
  rw [eb] at h3'
  refine grow_rowO (i:=2) (by omega) (h4.keep AA) ((NewB.behind ((h1.2.trans A2)) h3').row hT) (hT.keep AA) (hA.trans AA) (by simp; omega) fun v4 τ4 T4 g4 f4 a4' oth u4 r4=>?_
  simp [w1,a20]
  refine ⟨⟨i + 1,T4,by omega,by simp [a1],by simpa using oth 1 _ _ (by omega) (h3.keep AA),by rw [htk]; simpa using g4,by simp [a5],by simp [a6],by simp [a7],by simp [a18],by simp [a19],by simp,f4,a4',ho1,?_,?_⟩,?_⟩
  ·have:=AA.no; omega
  ·rw [u4]; exact (AA.obj o ho2).trans ho
  ·simp only [MU,a20]; simp; omega
 ·have : i = 3:=by omega
  subst this
  simp [pc16_l1,a19,a20]
  exact fin _ _ ⟨T,by simpa using a1,by simpa using h3,by simpa [importsL] using h4,by simpa using a5,by simpa using a6,by simpa using a7,hT,hA,ho2,ho⟩
theorem numsF_snoc : ∀ (xs : List F) (i : Int) (f : F),numsF i (xs ++ [f]) = numsF i xs ++ [uI (i + xs.length)]
 | [],i,f=>by simp [numsF]
 | x :: xs,i,f=>by
  simp only [List.cons_append,numsF,numsF_snoc xs (i + 1) f,List.length_cons]
  congr 4
  omega
theorem namesF_snoc : ∀ (xs : List F) (i : Int) (f : F),namesF i (xs ++ [f]) = namesF i xs ++ [uI (i + xs.length) ++ sizedL f.name]
 | [],i,f=>by simp [namesF]
 | x :: xs,i,f=>by
  simp only [List.cons_append,namesF,namesF_snoc xs (i + 1) f,List.length_cons]
  congr 5
  omega
theorem codesF_at : ∀ {fs : List F} {cs : List (List UInt8)},codesF fs = some cs → ∀ {i : Nat} {f : F},fs[i]? = some f → ∃ c,codeF f = some c ∧ cs[i]? = some c
 | [],_,_,i,f,h=>by simp at h
 | g :: fs,cs,h,i,f,hf=>by
  rw [codesF] at h
  simp only [Option.bind_eq_some_iff,Option.map_eq_some_iff] at h
  obtain ⟨c,h1,cs',h2,rfl⟩:=h
  cases i with
  | zero =>
   simp at hf
   subst hf
   exact ⟨c,h1,rfl⟩
  | succ i=>exact codesF_at h2 (by simpa using hf)
structure SzB (f : F) : Prop where
 params : f.params.length ≤ 2 ^ 38
 locals : f.locals.length ≤ 2 ^ 34
 name : f.name.length < 2 ^ 38
 rows : ∀ ws ∈ f.lists,ws.length ≤ 2 ^ 40
 many : f.lists.length ≤ 2 ^ 40
 rg : RgL f.lists
def En2 (σ : AS) (fs : List F) (codes : List (List UInt8)) (fsv : AV) (o : Nat) (oc : List AV) (a : Nat → AV) (τ : AS) : Prop := ∃ (i : Nat) (T : Nat → Nat),i ≤ fs.length ∧ a 1 = .ptr o 0 ∧ GrowT T 1 σ τ (a 3) (headsL (fs.take i)) ∧ GrowT T 2 σ τ (a 4) importsL ∧ GrowT T 3 σ τ (a 5) (numsF 3 (fs.take i)) ∧ GrowT T 4 σ τ (a 6) (codes.take i) ∧ GrowT T 5 σ τ (a 7) (namesF 3 (fs.take i)) ∧
 a 41 = fsv ∧ a 42 = .int .i64 (fs.length : Int) ∧ a 43 = .int .i64 (i : Int) ∧ FreshT T τ ∧ Adds σ τ ∧ σ.no ≤ o ∧ o < τ.no ∧ τ.objs o = some oc
theorem func_body (V : VarsB G) {fs : List F} {codes : List (List UInt8)} {fsv : AV} {o : Nat} {oc : List AV} (hfs : Al.FsO σ fsv fs) (hlen : fs.length ≤ 2 ^ 30) (hsz : ∀ f ∈ fs,SzB f) (hc : codesF fs = some codes) (hcl : ∀ c ∈ codes,c.length ≤ 2 ^ 36) {a : Nat → AV} {τ : AS} (hI : En2 σ fs codes fsv o oc a τ)
  (fin : ∀ a τ,(∃ T,a 1 = .ptr o 0 ∧ GrowT T 1 σ τ (a 3) (headsL fs) ∧ GrowT T 2 σ τ (a 4) importsL ∧ GrowT T 3 σ τ (a 5) (numsF 3 fs) ∧ GrowT T 4 σ τ (a 6) codes ∧ GrowT T 5 σ τ (a 7) (namesF 3 fs) ∧ FreshT T τ ∧ Adds σ τ ∧ o < τ.no ∧ τ.objs o = some oc) → avc Tryz.prog G 140 pc16_r1 (afin Tryz.prog [.tmp 2] R) a τ) :
  avc Tryz.prog G 140 pc16_l2 (athen (fun a' σ'=>En2 σ fs codes fsv o oc a' σ' ∧ MU 43 (fs.length + 1) a' σ' < MU 43 (fs.length + 1) a τ) (ablock 2 (athen (avc Tryz.prog G 140 pc16_r1 (afin Tryz.prog [.tmp 2] R)) (afin Tryz.prog [.tmp 2] R)))) a τ:=by
 obtain ⟨i,T,hi,a1,g1,g2,g3,g4,g5,a41,a42,a43,hT,hA,ho1,ho2,ho⟩:=hI
 have hcl':=codesF_len hc
 by_cases hlt : i < fs.length
 ·have hlt' : (i : Int) < (fs.length : Int):=by omega
  obtain ⟨φ,rv,hrd0,hfv,hix⟩:=hfs.at hlt
  have hrd:=(hrd0.keep hA).read
  have hg:=List.getElem?_eq_getElem hlt
  have htk:=take_snoc hg
  have hszf:=hsz _ (List.getElem_mem hlt)
  obtain ⟨c,hcf,hcc⟩:=codesF_at hc hg
  have hck:=take_snoc hcc
  have hclen:=hcl c (List.mem_of_getElem? hcc)
  generalize fs[i] = f at *
  obtain ⟨pv,lv,tv,rfl,hp,hl,ht⟩:=hfv
  have p1:=hp.one
  have l1:=hl.one
  have t1:=ht.one
  have tl:=ht.len
  have n3:=g1.bys.one
  have w1 : IntKind.wrap .i64 ((i : Int) + 1) = ((i + 1 : Nat) : Int):=by rw [wrap_i64] <;> omega
  have w3 : IntKind.wrap .i64 ((i : Int) + 3) = (i : Int) + 3:=by rw [wrap_i64] <;> omega
  have hA0 : ∀ c1 c2,Adds τ ((τ.newO c1).setO τ.no c2):=fun c1 c2=>.mk1
  have hsi : (fs.take i).length = i:=by simp; omega
  simp [pc16_l2,a41,a42,a43,hlt',hix,hrd,p1,l1,t1,splice,n3]
  have ec : ∀ (τ' : AS) (x : Nat),(τ'.objs x = τ'.objs x):=fun _ _=>rfl
  refine head_calls (hp.keep (hA.trans (hA0 _ _))) hszf.params fun v1 σ1 h1=>?_
  have A1:=(hA0 _ _).trans h1.2
  have q1:=h1.byt.one
  have c1:=h1.2.obj τ.no (by simp)
  have c2:=A1.obj o ho2
  rw [ho] at c2
  simp at c1
  have m1:=A1.no
  have m1':=h1.2.no
  simp at m1'
  simp [q1]
  have hrow1 : RowT T σ1 v1 (headL f.params f.type):=h1.row (hT.keep (hA0 _ _))
  refine grow_rowO (i:=1) (by omega) (g1.keep A1) hrow1 (hT.keep A1) (hA.trans A1) (by rw [headsL_len]; simp; omega) fun v2 τ2 T2 e1 f2 A2 oth2 u2 r2=>?_
  have x2:=oth2 2 _ _ (by omega) (g2.keep A1)
  have x3:=oth2 3 _ _ (by omega) (g3.keep A1)
  have x4:=oth2 4 _ _ (by omega) (g4.keep A1)
  have x5:=oth2 5 _ _ (by omega) (g5.keep A1)
  have d1 : τ2.objs τ.no = _:=(congrFun u2 _).trans c1
  have d2 : τ2.objs o = _:=(congrFun u2 _).trans c2
  have q5:=x3.bys.one
  simp [w3,q5]
  refine u_calls (n:=(i : Int) + 3) (by omega) fun v3 σ3 h3=>?_
  have q3:=h3.byt.one
  have d1':=(h3.2.obj τ.no (by omega)).trans d1
  have d2':=(h3.2.obj o (by omega)).trans d2
  have m3:=h3.2.no
  simp [q3]
  refine grow_rowO (i:=3) (by omega) (x3.keep h3.2) (h3.row f2) (f2.keep h3.2) (A2.trans h3.2) (by rw [numsF_len]; simp; omega) fun v4 τ4 T4 e3 f4 A4 oth4 u4 r4=>?_
  have y1:=oth4 1 _ _ (by omega) (e1.keep h3.2)
  have y2:=oth4 2 _ _ (by omega) (x2.keep h3.2)
  have y4:=oth4 4 _ _ (by omega) (x4.keep h3.2)
  have y5:=oth4 5 _ _ (by omega) (x5.keep h3.2)
  have d3 : τ4.objs τ.no = _:=(congrFun u4 _).trans d1'
  have d4 : τ4.objs o = _:=(congrFun u4 _).trans d2'
  have q6:=y4.bys.one
  have wl : IntKind.wrap .i64 ((f.lists.length : Int) - 1) = (f.lists.length : Int) - 1:=by have:=hszf.many; rw [wrap_i64] <;> omega
  unfold codeF at hcf
  rw [Option.map_eq_some_iff] at hcf
  obtain ⟨x,hx,rfl⟩:=hcf
  have hxl : x.length ≤ 2 ^ 36 ∧ (localsL f.locals).length ≤ 2 ^ 36:=by
   simp only [sizedL,List.length_append] at hclen
   omega
  simp [d3,q6,p1,l1,t1,tl,wl]
  refine locals_calls (hl.keep A4) hszf.locals fun v5 σ5 h5=>?_
  have q7:=h5.byt.one
  have d5:=(h5.2.obj τ.no (by omega)).trans d3
  have d6:=(h5.2.obj o (by omega)).trans d4
  have m5:=h5.2.no
  simp [d5,p1,l1,t1]
  refine list_ok V hszf.rows hszf.rg f.lists.length σ5 _ f pv lv tv _ x rfl (hp.keep (A4.trans h5.2)) (hl.keep (A4.trans h5.2)) (ht.keep (A4.trans h5.2)) hx (by omega) fun v6 σ6 h6=>?_
  have q8:=h6.byt.one
  have q9:=(h5.byt.keep h6.2).one
  have d7:=(h6.2.obj τ.no (by omega)).trans d5
  have d8:=(h6.2.obj o (by omega)).trans d6
  have m6:=h6.2.no
  simp [q8,q9]
  refine concatB_calls (l:=[localsL f.locals,x,[11]]) (BysO.lit (.cons (h5.byt.keep h6.2) (.cons h6.byt (.cons (.lit _ _ rfl) .nil)))) (by simp [sumB]; omega) (by simp) fun v7 σ7 h7=>?_
  have d9:=(h7.2.obj τ.no (by omega)).trans d7
  have d10:=(h7.2.obj o (by omega)).trans d8
  have m7:=h7.2.no
  have ecat : ([localsL f.locals,x,[11]] : List (List UInt8)).flatten = localsL f.locals ++ x ++ [11]:=by simp
  rw [ecat] at h7
  simp
  refine sized_calls h7.byt (by simp; omega) fun v8 σ8 h8=>?_
  have q10:=h8.byt.one
  have d11:=(h8.2.obj τ.no (by omega)).trans d9
  have d12:=(h8.2.obj o (by omega)).trans d10
  have m8:=h8.2.no
  have B8 : Adds τ4 σ8:=((h5.2.trans h6.2).trans h7.2).trans h8.2
  simp [q10]
  refine grow_rowO (i:=4) (by omega) (y4.keep B8) ((NewB.behind ((h5.2.trans h6.2).trans h7.2) h8).row f4) (f4.keep B8) (A4.trans B8) (by have:=hcl'; simp; omega) fun v9 τ9 T9 e9 f9 A9 oth9 u9 r9=>?_
  have z1:=oth9 1 _ _ (by omega) (y1.keep B8)
  have z2:=oth9 2 _ _ (by omega) (y2.keep B8)
  have z3:=oth9 3 _ _ (by omega) (e3.keep B8)
  have z5:=oth9 5 _ _ (by omega) (y5.keep B8)
  have d13 : τ9.objs τ.no = _:=(congrFun u9 _).trans d11
  have d14 : τ9.objs o = _:=(congrFun u9 _).trans d12
  have q11:=z5.bys.one
  have last : ∀ (a' : Nat → AV) (τ' : AS) (T' : Nat → Nat),a' 1 = .ptr o 0 → GrowT T' 1 σ τ' (a' 3) (headsL (fs.take i) ++ [headL f.params f.type]) → GrowT T' 2 σ τ' (a' 4) importsL → GrowT T' 3 σ τ' (a' 5) (numsF 3 (fs.take i) ++ [uI ((i : Int) + 3)]) → GrowT T' 4 σ τ' (a' 6) (codes.take i ++ [sizedL (localsL f.locals ++ x ++ [11])]) → GrowT T' 5 σ τ' (a' 7) (namesF 3 (fs.take i) ++ [uI ((i : Int) + 3) ++ sizedL f.name]) →
    a' 41 = fsv → a' 42 = .int .i64 (fs.length : Int) → a' 43 = .int .i64 ((i : Int) + 1) → FreshT T' τ' → Adds σ τ' → o < τ'.no → τ'.objs o = some oc → En2 σ fs codes fsv o oc a' τ' ∧ MU 43 (fs.length + 1) a' τ' < MU 43 (fs.length + 1) a τ:=by
   intro a' τ' T' k1 k3 k4 k5 k6 k7 k41 k42 k43 kf kA ko koo
   have es : ((fs.take i).length : Int) = i:=by rw [hsi]
   refine ⟨⟨i + 1,T',by omega,k1,?_,k4,?_,by rw [hck]; exact k6,?_,k41,k42,by rw [k43]; rfl,kf,kA,ho1,ko,koo⟩,?_⟩
   ·rw [htk]
    have : headsL (fs.take i ++ [f]) = headsL (fs.take i) ++ [headL f.params f.type]:=by simp [headsL]
    rw [this]; exact k3
   ·rw [htk,numsF_snoc,es,Int.add_comm]; exact k5
   ·rw [htk,namesF_snoc,es,Int.add_comm]; exact k7
   ·simp only [MU,k43,a43]; omega
  have hnl:=hszf.name
  simp [d13,q11,w3]
  refine ⟨?_,.inl ?_⟩
  ·refine u_calls (n:=(i : Int) + 3) (by omega) fun v10 σ10 h10=>?_
   have c1:=(h10.2.obj τ.no (by omega)).trans d13
   have c2:=(h10.2.obj o (by omega)).trans d14
   have m10:=h10.2.no
   simp [c1]
   refine .inl ?_
   simp
   refine sized_calls (σ:=σ10.newF) (bs:=f.name) (.inr ⟨.fam σ10.nf false,rfl,by simp,by simp⟩) (by omega) fun v11 σ11 h11=>?_
   have A11:=(Adds.refl σ10).newF.trans h11.2
   have c3:=(A11.obj o (by omega)).trans c2
   have m11:=A11.no
   simp
   have hul:=uI_len ((i : Int) + 3)
   refine grow_srcO (h10.keep A11) h11.byt (by have:=uI_len f.name.length; simp [sizedL]; omega) fun v12 σ12 h12 u12 r12=>?_
   have q12:=h12.byt.one
   have c4:=(congrFun u12 o).trans c3
   simp [q12]
   refine grow_rowO (i:=5) (by omega) (z5.keep h12.2) (h12.row f9) (f9.keep h12.2) (A9.trans h12.2) (by rw [namesF_len]; simp; omega) fun v13 τ13 T13 e13 f13 A13 oth13 u13 r13=>?_
   simp [a43,w1]
   exact last _ _ T13 (by simp [a1]) (by simpa using oth13 1 _ _ (by omega) (z1.keep h12.2)) (by simpa using oth13 2 _ _ (by omega) (z2.keep h12.2)) (by simpa using oth13 3 _ _ (by omega) (z3.keep h12.2)) (by simpa using oth13 4 _ _ (by omega) (e9.keep h12.2)) (by simpa using e13) (by simp [a41]) (by simp [a42]) (by simp) f13 A13 (by omega) ((congrFun u13 o).trans c4)
  ·simp
   have A0 : Adds τ9 τ9.newF:=(Adds.refl τ9).newF
   refine u_calls (σ:=τ9.newF) (n:=(i : Int) + 3) (by omega) fun v10 σ10 h10=>?_
   have A10:=A0.trans h10.2
   have c2:=(A10.obj o (by omega)).trans d14
   have m10:=A10.no
   simp
   have hnb : BytO σ10 (.sl (.fam τ9.nf false) 1 (B f.name)) f.name:=.inr ⟨.fam τ9.nf false,rfl,(show Al.Rd τ9.newF (.fam τ9.nf false) from ⟨by simp,by simp⟩).keep h10.2⟩
   refine sized_calls (bs:=f.name) hnb (by omega) fun v11 σ11 h11=>?_
   have c3:=(h11.2.obj o (by omega)).trans c2
   have m11:=h11.2.no
   simp
   have hul:=uI_len ((i : Int) + 3)
   refine grow_srcO ((NewB.behind A0 h10).keep h11.2) h11.byt (by have:=uI_len f.name.length; simp [sizedL]; omega) fun v12 σ12 h12 u12 r12=>?_
   have q12:=h12.byt.one
   have c4:=(congrFun u12 o).trans c3
   simp [q12]
   refine grow_rowO (i:=5) (by omega) (z5.keep h12.2) (h12.row f9) (f9.keep h12.2) (A9.trans h12.2) (by rw [namesF_len]; simp; omega) fun v13 τ13 T13 e13 f13 A13 oth13 u13 r13=>?_
   simp [a43,w1]
   exact last _ _ T13 (by simp [a1]) (by simpa using oth13 1 _ _ (by omega) (z1.keep h12.2)) (by simpa using oth13 2 _ _ (by omega) (z2.keep h12.2)) (by simpa using oth13 3 _ _ (by omega) (z3.keep h12.2)) (by simpa using oth13 4 _ _ (by omega) (e9.keep h12.2)) (by simpa using e13) (by simp [a41]) (by simp [a42]) (by simp) f13 A13 (by omega) ((congrFun u13 o).trans c4)
 ·have : i = fs.length:=by omega
  subst this
  rw [List.take_length] at g1 g3 g5
  rw [← hcl',List.take_length] at g4
  simp [pc16_l2,a42,a43]
  exact fin _ _ ⟨T,by simpa using a1,by simpa using g1,by simpa using g2,by simpa using g3,by simpa using g4,by simpa using g5,hT,hA,ho2,ho⟩
theorem sec_len (n : UInt8) (bs : List UInt8) : (sectionL n bs).length ≤ bs.length + 11 := by
 have:=uI_len bs.length
 simp [sectionL,sizedL]
 omega
theorem sized_len (bs : List UInt8) : (sizedL bs).length ≤ bs.length + 10 := by
 have:=uI_len bs.length
 simp [sizedL]
 omega
theorem secOne {n : UInt8} {v : AV} {bs : List UInt8} (hv : BytO σ v bs) (hs : bs.length < 2 ^ 38) (h : ∀ v' σ',NewB σ σ' v' (sectionL n bs) → R (.ret v') σ') : ACalls Tryz.prog G 45 [.int .u8 (n.toNat : Int),.sl (.stat true) 1 [v]] σ R := by
 refine section_calls (l:=[bs]) (BysO.lit (.cons hv .nil)) (by simp [sumB]; omega) (by simp) fun v' σ' h'=>?_
 simp at h'
 exact h _ _ h'
set_option maxHeartbeats 1000000 in
theorem enc_end {m : M} {codes : List (List UInt8)} {bs : List UInt8} {o : Nat} {fsv : AV} (he : encM m = some bs) (hc : codesF m.funcs = some codes) (hl : bs.length ≤ 2 ^ 36) (hmem : -(2 ^ 63) ≤ m.memory ∧ m.memory < 2 ^ 63) (h : ∀ v σ',NewB σ σ' v bs → R (.ret v) σ') {a : Nat → AV} {τ : AS} {T : Nat → Nat} (hn : m.funcs.length ≤ 2 ^ 30)
  (a1 : a 1 = .ptr o 0) (g1 : GrowT T 1 σ τ (a 3) (headsL m.funcs)) (g2 : GrowT T 2 σ τ (a 4) importsL) (g3 : GrowT T 3 σ τ (a 5) (numsF 3 m.funcs)) (g4 : GrowT T 4 σ τ (a 6) codes) (g5 : GrowT T 5 σ τ (a 7) (namesF 3 m.funcs)) (hA : Adds σ τ) (ho : o < τ.no) (hoo : τ.objs o = some [fsv,.int .i64 m.memory,.int .i64 m.main]) :
  avc Tryz.prog G 140 pc16_r1 (afin Tryz.prog [.tmp 2] R) a τ:=by
 obtain ⟨codes',hc',hbs⟩:=encM_parts he
 rw [hc] at hc'
 cases hc'
 have b1:=g1.bys
 have b2:=g2.bys
 have b3:=g3.bys
 have b4:=g4.bys
 have b5:=g5.bys
 have e : bs = magicL ++ (sectionL 1 (rowL (headsL m.funcs)) ++ (sectionL 2 (rowL importsL) ++ (sectionL 3 (rowL (numsF 3 m.funcs)) ++ (sectionL 5 [1,0,1] ++ (sectionL 6 ([1,127,0,65] ++ sI m.memory ++ [11]) ++ (sectionL 7 ([1] ++ sizedL [109,97,105,110] ++ [0] ++ uI (mainL m)) ++ (sectionL 10 (rowL codes) ++
   sectionL 0 (sizedL [110,97,109,101] ++ [1] ++ sizedL (rowL (namesF 3 m.funcs)))))))))):=by
  unfold encM at he
  rw [hc] at he
  simpa using he.symm
 clear hbs
 have hbl:=congrArg List.length e
 simp only [List.length_append,sectionL,List.length_cons,List.length_nil,sizedL] at hbl
 have r1 : (rowL (headsL m.funcs)).length ≤ 2 ^ 36:=by omega
 have r2 : (rowL importsL).length ≤ 2 ^ 36:=by omega
 have r3 : (rowL (numsF 3 m.funcs)).length ≤ 2 ^ 36:=by omega
 have r4 : (rowL codes).length ≤ 2 ^ 36:=by omega
 have r5 : (rowL (namesF 3 m.funcs)).length ≤ 2 ^ 36:=by omega
 have s1 : sumB (headsL m.funcs) < 2 ^ 37:=by rw [← sumB_flat]; unfold rowL at r1; simp only [List.length_append] at r1; omega
 have s2 : sumB importsL < 2 ^ 37:=by rw [← sumB_flat]; unfold rowL at r2; simp only [List.length_append] at r2; omega
 have s3 : sumB (numsF 3 m.funcs) < 2 ^ 37:=by rw [← sumB_flat]; unfold rowL at r3; simp only [List.length_append] at r3; omega
 have s4 : sumB codes < 2 ^ 37:=by rw [← sumB_flat]; unfold rowL at r4; simp only [List.length_append] at r4; omega
 have s5 : sumB (namesF 3 m.funcs) < 2 ^ 37:=by rw [← sumB_flat]; unfold rowL at r5; simp only [List.length_append] at r5; omega
 have t4:=codesF_len hc
 have t5:=namesF_len m.funcs 3
 have t3:=numsF_len m.funcs 3
 have t1:=headsL_len m.funcs
 clear hbl
 have n1:=b1.one
 have n2:=b2.one
 have n3:=b3.one
 have n4:=b4.one
 have n5:=b5.one
 simp [pc16_r1,a1,hoo]
 refine row_calls b1 (by omega) (by omega) fun v1 σ1 h1=>?_
 have k1:=h1.byt.one
 have o1:=(h1.2.obj o ho).trans hoo
 have m1:=h1.2.no
 simp [o1,k1]
 refine secOne (n:=1) h1.byt (by omega) fun v2 σ2 h2=>?_
 have B2:=h1.2.trans h2.2
 have o2:=(h2.2.obj o (by omega)).trans o1
 have m2:=h2.2.no
 simp [o2]
 refine row_calls (b2.keep B2) (by omega) (by decide) fun v3 σ3 h3=>?_
 have B3:=B2.trans h3.2
 have k3:=h3.byt.one
 have o3:=(h3.2.obj o (by omega)).trans o2
 have m3:=h3.2.no
 simp [o3,k3]
 refine secOne (n:=2) h3.byt (by omega) fun v4 σ4 h4=>?_
 have B4:=B3.trans h4.2
 have o4:=(h4.2.obj o (by omega)).trans o3
 have m4:=h4.2.no
 simp [o4]
 refine row_calls (b3.keep B4) (by omega) (by omega) fun v5 σ5 h5=>?_
 have B5:=B4.trans h5.2
 have k5:=h5.byt.one
 have o5:=(h5.2.obj o (by omega)).trans o4
 have m5:=h5.2.no
 simp [o5,k5]
 refine secOne (n:=3) h5.byt (by omega) fun v6 σ6 h6=>?_
 have B6:=B5.trans h6.2
 have o6:=(h6.2.obj o (by omega)).trans o5
 have m6:=h6.2.no
 simp [o6]
 refine secOne (n:=5) (bs:=[1,0,1]) (.lit _ _ rfl) (by simp) fun v7 σ7 h7=>?_
 have B7:=B6.trans h7.2
 have o7:=(h7.2.obj o (by omega)).trans o6
 have m7:=h7.2.no
 simp [o7]
 refine s_calls hmem fun v8 σ8 h8=>?_
 have B8:=B7.trans h8.2
 have k8:=h8.byt.one
 have o8:=(h8.2.obj o (by omega)).trans o7
 have m8:=h8.2.no
 simp [o8,k8]
 refine section_calls (n:=6) (l:=[[1,127,0,65],sI m.memory,[11]]) (BysO.lit (.cons (.lit _ _ rfl) (.cons h8.byt (.cons (.lit _ _ rfl) .nil)))) (by have:=sI_len m.memory; simp [sumB]; omega) (by simp) fun v9 σ9 h9=>?_
 have B9:=B8.trans h9.2
 have o9:=(h9.2.obj o (by omega)).trans o8
 have m9:=h9.2.no
 simp [o9]
 refine sized_calls (bs:=[109,97,105,110]) (.lit _ _ rfl) (by simp) fun v10 σ10 h10=>?_
 have B10:=B9.trans h10.2
 have k10:=h10.byt.one
 have o10:=(h10.2.obj o (by omega)).trans o9
 have m10:=h10.2.no
 have hmr:=wrap_range (m.main + 3)
 simp [o10,k10]
 refine u_calls (n:=mainL m) hmr.2 fun v11 σ11 h11=>?_
 have B11:=B10.trans h11.2
 have k11:=h11.byt.one
 have k10':=(h10.byt.keep h11.2).one
 have o11:=(h11.2.obj o (by omega)).trans o10
 have m11:=h11.2.no
 simp [o11,k11,k10']
 refine section_calls (n:=7) (l:=[[1],sizedL [109,97,105,110],[0],uI (mainL m)]) (BysO.lit (.cons (.lit _ _ rfl) (.cons (h10.byt.keep h11.2) (.cons (.lit _ _ rfl) (.cons h11.byt .nil))))) (by have:=uI_len (mainL m); have:=sized_len [109,97,105,110]; simp [sumB] at *; omega) (by simp) fun v12 σ12 h12=>?_
 have B12:=B11.trans h12.2
 have o12:=(h12.2.obj o (by omega)).trans o11
 have m12:=h12.2.no
 simp [o12]
 refine row_calls (b4.keep B12) (by omega) (by omega) fun v13 σ13 h13=>?_
 have B13:=B12.trans h13.2
 have k13:=h13.byt.one
 have o13:=(h13.2.obj o (by omega)).trans o12
 have m13:=h13.2.no
 simp [o13,k13]
 refine secOne (n:=10) h13.byt (by omega) fun v14 σ14 h14=>?_
 have B14:=B13.trans h14.2
 have o14:=(h14.2.obj o (by omega)).trans o13
 have m14:=h14.2.no
 simp [o14]
 refine sized_calls (bs:=[110,97,109,101]) (.lit _ _ rfl) (by simp) fun v15 σ15 h15=>?_
 have B15:=B14.trans h15.2
 have k15:=h15.byt.one
 have o15:=(h15.2.obj o (by omega)).trans o14
 have m15:=h15.2.no
 simp [o15,k15]
 refine row_calls (b5.keep B15) (by omega) (by omega) fun v16 σ16 h16=>?_
 have B16:=B15.trans h16.2
 have k16:=h16.byt.one
 have o16:=(h16.2.obj o (by omega)).trans o15
 have m16:=h16.2.no
 simp [o16,k16]
 refine sized_calls h16.byt (by omega) fun v17 σ17 h17=>?_
 have B17:=B16.trans h17.2
 have k17:=h17.byt.one
 have k15':=(h15.byt.keep (h16.2.trans h17.2)).one
 have o17:=(h17.2.obj o (by omega)).trans o16
 have m17:=h17.2.no
 simp [o17,k17,k15']
 refine section_calls (n:=0) (l:=[sizedL [110,97,109,101],[1],sizedL (rowL (namesF 3 m.funcs))]) (BysO.lit (.cons (h15.byt.keep (h16.2.trans h17.2)) (.cons (.lit _ _ rfl) (.cons h17.byt .nil)))) (by have:=sized_len (rowL (namesF 3 m.funcs)); have:=sized_len [110,97,109,101]; simp [sumB] at *; omega) (by simp) fun v18 σ18 h18=>?_
 have B18:=B17.trans h18.2
 have D17:=h18.2
 have D16:=h17.2.trans D17
 have D15:=h16.2.trans D16
 have D14:=h15.2.trans D15
 have D13:=h14.2.trans D14
 have D12:=h13.2.trans D13
 have D11:=h12.2.trans D12
 have D10:=h11.2.trans D11
 have D9:=h10.2.trans D10
 have D8:=h9.2.trans D9
 have D7:=h8.2.trans D8
 have D6:=h7.2.trans D7
 have D5:=h6.2.trans D6
 have D4:=h5.2.trans D5
 have D3:=h4.2.trans D4
 have D2:=h3.2.trans D3
 have k2z:=h2.byt.one
 have k4z:=h4.byt.one
 have k6z:=h6.byt.one
 have k7z:=h7.byt.one
 have k9z:=h9.byt.one
 have k12z:=h12.byt.one
 have k14z:=h14.byt.one
 have k18z:=h18.byt.one
 simp [k2z,k4z,k6z,k7z,k9z,k12z,k14z,k18z]
 have ef : ([magicL,sectionL 1 (rowL (headsL m.funcs)),sectionL 2 (rowL importsL),sectionL 3 (rowL (numsF 3 m.funcs)),sectionL 5 [1,0,1],sectionL 6 [[1,127,0,65],sI m.memory,[11]].flatten,sectionL 7 [[1],sizedL [109,97,105,110],[0],uI (mainL m)].flatten,sectionL 10 (rowL codes),sectionL 0 [sizedL [110,97,109,101],[1],sizedL (rowL (namesF 3 m.funcs))].flatten] : List (List UInt8)).flatten = bs:=by
  rw [e]
  simp
 refine concatB_calls (l:=[magicL,sectionL 1 (rowL (headsL m.funcs)),sectionL 2 (rowL importsL),sectionL 3 (rowL (numsF 3 m.funcs)),sectionL 5 [1,0,1],sectionL 6 [[1,127,0,65],sI m.memory,[11]].flatten,sectionL 7 [[1],sizedL [109,97,105,110],[0],uI (mainL m)].flatten,sectionL 10 (rowL codes),sectionL 0 [sizedL [110,97,109,101],[1],sizedL (rowL (namesF 3 m.funcs))].flatten]) (BysO.lit (.cons (.lit _ _ rfl) (.cons (h2.byt.keep D2) (.cons (h4.byt.keep D4) (.cons (h6.byt.keep D6) (.cons (h7.byt.keep D7) (.cons (h9.byt.keep D9) (.cons (h12.byt.keep D12) (.cons (h14.byt.keep D14) (.cons h18.byt .nil)))))))))) (by rw [← sumB_flat,ef]; omega) (by simp) fun v19 σ19 h19=>?_
 rw [ef] at h19
 simp
 exact h _ _ (NewB.behind (hA.trans B18) h19)
theorem encode_calls (V : VarsB G) {m : M} {mv : AV} {bs : List UInt8} (hm : Al.MO σ mv m) (he : encM m = some bs) (hl : bs.length ≤ 2 ^ 36) (hn : m.funcs.length ≤ 2 ^ 30) (hsz : ∀ f ∈ m.funcs,SzB f) (hmem : -(2 ^ 63) ≤ m.memory ∧ m.memory < 2 ^ 63) (h : ∀ v σ',NewB σ σ' v bs → R (.ret v) σ') : ACalls Tryz.prog G 16 [mv] σ R := by
 obtain ⟨fsv,rfl,hfs⟩:=hm
 obtain ⟨codes,hc,hbs⟩:=encM_parts he
 have hcl : ∀ c ∈ codes,c.length ≤ 2 ^ 36:=fun c hcm=>by
  have h1:=mem_len hcm
  have h2:=congrArg List.length hbs
  simp only [startL,endL,List.length_append,sectionL,sizedL,rowL,List.length_cons] at h2
  omega
 clear hbs
 refine calls16 rfl ?_
 have f1:=hfs.one
 have fl:=hfs.len
 have hA0 : ∀ c1,Adds σ (σ.newO c1):=fun c1=>(Adds.refl σ).newO
 simp [pc16,f1]
 refine head_calls (l:=[]) (.inl ⟨rfl,rfl⟩) (by simp) fun v1 σ1 h1=>?_
 have k1:=h1.byt.one
 have o1:=h1.2.obj σ.no (by simp)
 have m1:=h1.2.no
 simp at m1 o1
 simp
 refine head_calls (l:=[2]) (.inr ⟨.stat true,rfl,trivial⟩) (by simp) fun v2 σ2 h2=>?_
 have k2:=h2.byt.one
 have o2:=(h2.2.obj σ.no (by omega)).trans o1
 have m2:=h2.2.no
 simp
 refine head_calls (l:=[1]) (.inr ⟨.stat true,rfl,trivial⟩) (by simp) fun v3 σ3 h3=>?_
 have k3:=h3.byt.one
 have k1':=(h1.byt.keep (h2.2.trans h3.2)).one
 have k2':=(h2.byt.keep h3.2).one
 have o3:=(h3.2.obj σ.no (by omega)).trans o2
 have m3:=h3.2.no
 have A3 : Adds σ σ3:=((hA0 _).trans h1.2).trans (h2.2.trans h3.2)
 simp [k1',k2',k3]
 have hT : FreshT (fun _=>0) σ3:=fun _ _=>rfl
 have hT0 : ∀ τ : AS,FreshT (fun _=>0) τ:=fun _ _ _=>rfl
 have hg1 : GrowT (fun _=>0) 1 σ σ3 (.sl (.stat true) 1 [v1,v2,v3]) (headsL []):=.inr ⟨_,_,rfl,.inl rfl,.cons ((h1.row (hT0 _)).keep (h2.2.trans h3.2)) (.cons ((h2.row (hT0 _)).keep h3.2) (.cons (h3.row (hT0 _)) .nil))⟩
 refine aloop (En1 σ σ.no [fsv,.int .i64 m.memory,.int .i64 m.main]) (MU 20 4) ⟨0,fun _=>0,by omega,by simp,by simpa using hg1,.inl ⟨rfl,by simp⟩,by simp,by simp,by simp,by simp [wordsI],by simp,by simp,hT,A3,by omega,by omega,o3⟩ fun a τ hI=>?_
 refine import_body hI fun a τ ⟨T,a1,g1,g2,a5,a6,a7,hT,hA,ho,hoo⟩=>?_
 simp [pc16_r2,a1,hoo,fl]
 refine aloop (En2 σ m.funcs codes fsv σ.no [fsv,.int .i64 m.memory,.int .i64 m.main]) (MU 43 (m.funcs.length + 1)) ⟨0,T,by omega,by simp [a1],by simpa using g1,by simpa using g2,.inl ⟨rfl,by simp [a5]⟩,.inl ⟨rfl,by simp [a6]⟩,.inl ⟨rfl,by simp [a7]⟩,by simp,by simp,by simp,hT,hA,by omega,ho,hoo⟩ fun a τ hI=>?_
 refine func_body V hfs hn hsz hc hcl hI fun a τ ⟨T,a1,g1,g2,g3,g4,g5,hT,hA,ho,hoo⟩=>?_
 exact enc_end he hc hl hmem h hn a1 g1 g2 g3 g4 g5 hA ho hoo
end
end Go.Proofs.YthejpoplbllcbaaGreatDoor
set_option linter.unusedSimpArgs false
set_option linter.unusedVariables false
namespace Go.Proofs.YthejpoplbllcbaaGreatDoor.Al
open Go Go.Abs Go.Proofs.YthejpoplbllcbaaGreatDoor
def RepE (v : AV) (l : List W) : Prop := (l = [] ∧ v = .nilsl) ∨ ∃ b,v = .sl (.fam 0 b) 6 (l.map W.av)
end Go.Proofs.YthejpoplbllcbaaGreatDoor.Al
set_option linter.unusedSimpArgs false
set_option linter.unusedVariables false
namespace Go.Proofs.YthejpoplbllcbaaGreatDoor.Al
open Go Go.Abs Go.Proofs.YthejpoplbllcbaaGreatDoor
theorem mrg_W (f : Nat) (w : W) : mrg f w.av = w.av := by simp [W.av,W.cs]
theorem mrg_Ws (f : Nat) (l : List W) : (l.map W.av).map (mrg f) = l.map W.av := by simp [Function.comp_def,mrg_W]
theorem RepE.mrg {v l} (h : RepE v l) {f : Nat} : mrg f v = v := by
 rcases h with ⟨_,rfl⟩ | ⟨b,rfl⟩
 ·simp
 ·rw [mrg_sl_fam,mrg_Ws]; split <;> rfl
theorem mrg_rows {tos tO} (h : All2 RepE tos tO) (f : Nat) : tos.map (mrg f) = tos := by
 induction h with
 | nil=>rfl
 | cons h r ih=>simp [h.mrg,ih]
end Go.Proofs.YthejpoplbllcbaaGreatDoor.Al
set_option linter.unusedSimpArgs false
set_option linter.unusedVariables false
namespace Go.Proofs.YthejpoplbllcbaaGreatDoor.Al
open Go Go.Abs Go.Proofs.YthejpoplbllcbaaGreatDoor
end Go.Proofs.YthejpoplbllcbaaGreatDoor.Al
set_option linter.unusedSimpArgs false
set_option linter.unusedVariables false
namespace Go.Proofs.YthejpoplbllcbaaGreatDoor.Al
open Go Go.Abs Go.Proofs.YthejpoplbllcbaaGreatDoor
def IntsE (v : AV) (l : List Int) : Prop := (l = [] ∧ (v = .nilsl ∨ ∃ b,v = .sl (.stat b) 1 [])) ∨ ∃ b,v = .sl (.fam 0 b) 1 (l.map (.int .i64))
theorem IntsE.one {v l} (h : IntsE v l) : v.known = true ∧ v.one = true ∧ v.cells = [v] := by
 rcases h with ⟨_,rfl | ⟨b,rfl⟩⟩ | ⟨b,rfl⟩ <;> simp
def MrgOr (R : Out → AS → Prop) (o : Out) (σ' : AS) : Prop := R o σ' ∨ ∃ v g p,o = .ret v ∧ 0 < σ'.nf ∧ σ'.F g = .alive ∧ R (.ret (mrg g v)) (σ'.mrg g p)
theorem merging {P : Program} {G : Env} {f : FuncId} {args : List AV} {σ : AS} {R : Out → AS → Prop} (h : ACalls P G f args σ (MrgOr R)) : ACalls P G f args σ R := mergeOr h
theorem MrgOr.merged {R : Out → AS → Prop} {v : AV} {σ' : AS} (g : Nat) (p : Nat → Bool) (hn : 0 < σ'.nf) (h : σ'.F g = .alive) (h2 : R (.ret (mrg g v)) (σ'.mrg g p)) : MrgOr R (.ret v) σ' := .inr ⟨v,g,p,rfl,hn,h,h2⟩
def LstE (g : Nat) (v : AV) (tO : To) : Prop := (tO = [] ∧ v = .nilsl) ∨ ∃ tos,v = .sl (.fam g false) 1 tos ∧ All2 RepE tos tO
def FVE (v : AV) (p : F × Nat) : Prop := ∃ pv lv tv,v = .agg [.str p.1.name,pv,lv,.int .i64 p.1.type,tv] ∧ IntsE pv p.1.params ∧ IntsE lv p.1.locals ∧ LstE p.2 tv p.1.lists
structure Gs (τ : AS) (base : Nat) (g : Nat) (gs : List Nat) : Prop where
 nd : gs.Nodup
 each : ∀ x ∈ gs,base ≤ x ∧ x < τ.nf ∧ τ.F x = .alive ∧ x ≠ g
def OutE (τ : AS) (base : Nat) (v : AV) (l : List F) : Prop :=
 (l = [] ∧ v = .nilsl) ∨ ∃ g rows ps,v = .sl (.fam g false) 5 rows ∧ base ≤ g ∧ g < τ.nf ∧ τ.F g = .alive ∧ ps.map Prod.fst = l ∧ All2 FVE rows ps ∧ Gs τ base g (ps.map Prod.snd)
end Go.Proofs.YthejpoplbllcbaaGreatDoor.Al
set_option linter.unusedSimpArgs false
set_option linter.unusedVariables false
namespace Go.Proofs.YthejpoplbllcbaaGreatDoor.Al
open Go Go.Abs Go.Proofs.YthejpoplbllcbaaGreatDoor
def ME (τ : AS) (base : Nat) (v : AV) (m : M) : Prop := ∃ fv,v = .agg [fv,.int .i64 m.memory,.int .i64 m.main] ∧ OutE τ base fv m.funcs
end Go.Proofs.YthejpoplbllcbaaGreatDoor.Al
set_option linter.unusedSimpArgs false
set_option linter.unusedVariables false
namespace Go.Proofs.YthejpoplbllcbaaGreatDoor.Al
open Go Go.Abs Go.Proofs.YthejpoplbllcbaaGreatDoor
structure Spo (S : Nat → Prop) (σ σ' : AS) : Prop where
 no : σ.no ≤ σ'.no
 nf : σ.nf ≤ σ'.nf
 obj : ∀ o,o < σ.no → σ'.objs o = σ.objs o
 fam : ∀ k,k < σ.nf → ¬ S k → σ'.F k = σ.F k
 live : ∀ k,k < σ.nf → σ.F k ≠ .dead → σ'.F k ≠ .dead
theorem Spo.refl (S σ) : Spo S σ σ := ⟨Nat.le_refl _,Nat.le_refl _,fun _ _ => rfl,fun _ _ _ => rfl,fun _ _ h => h⟩
theorem Spo.spoil {S : Nat → Prop} {σ σ1} (h : Spo S σ σ1) {g : Nat} (hg : S g) : Spo S σ (σ1.setF g .spoiled) where
 no:=h.no
 nf:=h.nf
 obj:=h.obj
 fam k a b:=by
  have : k ≠ g:=fun e=>b (e ▸ hg)
  simp [this]; exact h.fam k a b
 live k a b:=by
  by_cases e : k = g
  ·subst e; simp
  ·simp [e]; exact h.live k a b
def SpI (v : AV) (n : Nat) (S : Nat → Prop) (σ : AS) (a : Nat → AV) (τ : AS) : Prop := ∃ i : Nat,i ≤ n ∧ a 0 = v ∧ a 2 = .int .i64 (i : Int) ∧ Spo S σ τ
end Go.Proofs.YthejpoplbllcbaaGreatDoor.Al
set_option linter.unusedSimpArgs false
set_option linter.unusedVariables false
namespace Go.Proofs.YthejpoplbllcbaaGreatDoor.Al
open Go Go.Abs Go.Proofs.YthejpoplbllcbaaGreatDoor
end Go.Proofs.YthejpoplbllcbaaGreatDoor.Al
set_option linter.unusedSimpArgs false
set_option linter.unusedVariables false
namespace Go.Proofs.YthejpoplbllcbaaGreatDoor.Al
open Go Go.Abs Go.Proofs.YthejpoplbllcbaaGreatDoor
theorem rep_e {σ : AS} (h0 : 0 < σ.nf ∧ σ.F 0 = .alive) {v l} (h : RepE v l) : RepO σ v l := by
 rcases h with h | ⟨b,h⟩
 ·exact .inl h
 ·exact .inr ⟨_,h,h0⟩
theorem ints_e {σ : AS} (h0 : 0 < σ.nf ∧ σ.F 0 = .alive) {v l} (h : IntsE v l) : IntsO σ v l := by
 rcases h with ⟨rfl,h | ⟨b,h⟩⟩ | ⟨b,h⟩
 ·exact .inl ⟨rfl,h⟩
 ·exact .inr ⟨_,h,trivial⟩
 ·exact .inr ⟨_,h,h0⟩
theorem all2_fst {R : AV → F × Nat → Prop} {S : AV → F → Prop} {rows : List AV} {ps : List (F × Nat)} (h : All2 R rows ps) (hs : ∀ v p,p ∈ ps → R v p → S v p.1) : All2 S rows (ps.map Prod.fst) := by
 induction h with
 | nil=>exact .nil
 | cons h r ih=>exact .cons (hs _ _ (by simp) h) (ih fun v p hp=>hs v p (by simp [hp]))
theorem m_e {σ : AS} {base : Nat} (h0 : 0 < σ.nf ∧ σ.F 0 = .alive) {v m} (h : ME σ base v m) : MO σ v m := by
 obtain ⟨fv,rfl,hf⟩:=h
 refine ⟨fv,rfl,?_⟩
 rcases hf with h | ⟨g,rows,ps,rfl,q1,q2,q3,q4,q5,q6⟩
 ·exact .inl h
 ·refine .inr ⟨_,rows,rfl,⟨q2,q3⟩,?_⟩
  rw [← q4]
  refine all2_fst q5 fun v p hp ⟨pv,lv,tv,e,a,b,c⟩=>⟨pv,lv,tv,e,ints_e h0 a,ints_e h0 b,?_⟩
  obtain ⟨u1,u2,u3,u4⟩:=q6.each p.2 (List.mem_map_of_mem hp)
  rcases c with c | ⟨tos,rfl,c⟩
  ·exact .inl c
  ·exact .inr ⟨_,tos,rfl,⟨u2,u3⟩,all2_mono c fun _ _ q=>rep_e h0 q⟩
end Go.Proofs.YthejpoplbllcbaaGreatDoor.Al
