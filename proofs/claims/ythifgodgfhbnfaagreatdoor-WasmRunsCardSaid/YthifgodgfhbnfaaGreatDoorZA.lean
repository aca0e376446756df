/- Parts of the proof of the row WasmRuns: contracts of functions, each under the conditions that its theorem names. -/
import Derived.Test.YthifgodgfhbnfaaGreatDoorAbsB
import Derived.Lib.IndexMore
import Derived.Test.YthifgodgfhbnfaaGreatDoorGenP
import Derived.Test.YthifgodgfhbnfaaGreatDoorShelf
set_option linter.unusedSimpArgs false
set_option linter.unusedVariables false
set_option linter.unusedSimpArgs false
set_option linter.unusedVariables false
namespace Go.Proofs.YthifgodgfhbnfaaGreatDoor
open Go Go.Abs
structure W where
 op : Int
 ty : Int
 n : Int
 body : Int
 other : Int
 name : List UInt8
deriving DecidableEq
abbrev To := List (List W)
structure F where
 name : List UInt8
 params : List Int
 locals : List Int
 type : Int
 lists : To
structure M where
 funcs : List F
 memory : Int
 main : Int
structure St where
 stack : List Int
 any : Bool
abbrev Res := Except Int
def dropE (s : St) : Res St :=
 if s.stack.length = 0 then (if s.any then .ok s else .error 14) else .ok { s with stack := s.stack.dropLast }
def takeE : List Int → St → Res St
 | [], s => .ok s
 | t :: ts, s => if s.stack.length = 0 ∨ s.stack.getLast? = some t then
   match dropE s with
   | .ok s' => takeE ts s'
   | .error e => .error e
  else .error 14
def giveS (s : St) (t : Int) : St := if t = 0 then s else { s with stack := s.stack ++ [t] }
def leftS : St := ⟨[], true⟩
def returnsE (ty : Int) (s : St) : Res St := if ty = 0 then .ok s else takeE [ty] s
def numberB (t : Int) : Bool := decide (t = 1) || decide (t = 2)
def signs : List (List UInt8 × List UInt8) := [
 ([97, 100, 100], [43]), ([115, 117, 98], [45]), ([109, 117, 108], [42]), ([100, 105, 118, 95, 115], [47]), ([114, 101, 109, 95, 115], [37]), ([97, 110, 100], [38]), ([111, 114], [124]), ([120, 111, 114], [94]),
 ([115, 104, 108], [60, 60]), ([115, 104, 114, 95, 115], [62, 62]), ([101, 113], [61, 61]), ([110, 101], [33, 61]), ([108, 116, 95, 115], [60]), ([108, 101, 95, 115], [60, 61]), ([103, 116, 95, 115], [62]), ([103, 101, 95, 115], [62, 61])]
def signOf : List (List UInt8 × List UInt8) → List UInt8 → List UInt8
 | [], _ => []
 | (x, y) :: r, s => if x = s then y else signOf r s
def bytesB (t n : Int) : Bool := decide (t = 1) && (decide (n = 1) || decide (n = 4)) || decide (t = 2) && decide (n = 8)
def formB (w : W) : Bool :=
 if w.op = 1 ∨ w.op = 5 then numberB w.ty
 else if w.op = 4 then numberB w.ty && !(signOf signs w.name == [])
 else if w.op = 8 ∨ w.op = 9 then bytesB w.ty w.n
 else decide (1 ≤ w.op) && decide (w.op ≤ 18)
def headOf (fs : List F) (n : Int) : Option (List Int × Int) :=
 if n = 0 then some ([], 2) else if n = 1 then some ([2], 0) else if n = 2 then some ([1], 0)
 else if n < 0 then none else (fs[(n - 3).toNat]?).map fun f => (f.params, f.type)
def wrapT (t v : Int) : Int := if t = 3 then IntKind.i8.wrap v else if t = 1 then IntKind.i32.wrap v else if t = 2 then v else 0
def rangedB (fs : List F) (locals : List Int) (deep : Int) (w : W) : Bool :=
 if w.op = 1 then decide (wrapT w.ty w.n = w.n)
 else if w.op = 2 ∨ w.op = 3 then decide (0 ≤ w.n) && decide (w.n < (locals.length : Int))
 else if w.op = 10 then (headOf fs w.n).isSome
 else if w.op = 14 ∨ w.op = 15 then decide (0 ≤ w.n) && decide (w.n ≤ deep)
 else true
def localAt (locals : List Int) (n : Int) : Int := locals.getD n.toNat 0
def compares : List UInt8 := [32, 101, 113, 32, 110, 101, 32, 108, 116, 95, 115, 32, 108, 101, 95, 115, 32, 103, 116, 95, 115, 32, 103, 101, 95, 115, 32]
def cmpB (s : List UInt8) : Bool := Lib.contains compares (32 :: (s ++ [32]))
def gives (r : Res St) (t : Int) : Res St := match r with
 | .ok s => .ok (giveS s t)
 | .error e => .error e
def plainE (fs : List F) (locals : List Int) (w : W) (s : St) : Res St :=
 if w.op = 1 then .ok (giveS s w.ty)
 else if w.op = 2 then .ok (giveS s (localAt locals w.n))
 else if w.op = 3 then takeE [localAt locals w.n] s
 else if w.op = 4 then gives (takeE [w.ty, w.ty] s) (if cmpB w.name then 1 else w.ty)
 else if w.op = 5 then gives (takeE [w.ty] s) 1
 else if w.op = 6 then gives (takeE [2] s) 1
 else if w.op = 7 then gives (takeE [1] s) 2
 else if w.op = 8 then gives (takeE [1] s) w.ty
 else if w.op = 9 then takeE [w.ty, 1] s
 else if w.op = 10 then match headOf fs w.n with
  | some (ts, g) => gives (takeE ts.reverse s) g
  | none => .ok s
 else if w.op = 18 then dropE s
 else .ok s
abbrev Look := Int → Int → Res Unit
def instrE (fs : List F) (locals : List Int) (ty deep : Int) (look : Look) (w : W) (s : St) : Res St :=
 if formB w = false then .error 2
 else if rangedB fs locals deep w = false then .error 11
 else if w.op = 11 ∨ w.op = 12 then match look w.body (deep + 1) with
  | .ok _ => .ok s
  | .error e => .error e
 else if w.op = 13 then match takeE [1] s with
  | .error e => .error e
  | .ok s1 => match look w.body (deep + 1) with
   | .error e => .error e
   | .ok _ => if 0 ≤ w.other then match look w.other (deep + 1) with
     | .error e => .error e
     | .ok _ => .ok s1
    else .ok s1
 else if w.op = 15 then match takeE [1] s with
  | .error e => .error e
  | .ok s1 => if w.n = deep then gives (returnsE ty s1) ty else .ok s1
 else if w.op = 14 then if w.n = deep then match returnsE ty s with
   | .error e => .error e
   | .ok _ => .ok leftS
  else .ok leftS
 else if w.op = 16 then match returnsE ty s with
  | .error e => .error e
  | .ok _ => .ok leftS
 else if w.op = 17 then .ok leftS
 else plainE fs locals w s
def instrsE (fs : List F) (locals : List Int) (ty deep : Int) (look : Look) : List W → St → Res St
 | [], s => .ok s
 | w :: ws, s => match instrE fs locals ty deep look w s with
  | .error e => .error e
  | .ok s' => instrsE fs locals ty deep look ws s'
def endE (ty deep : Int) (s : St) : Res Unit := match (if deep = 0 then returnsE ty s else .ok s) with
 | .error e => .error e
 | .ok s' => if s'.stack.length = 0 then .ok () else .error 14
def lookE (fs : List F) (locals : List Int) (ty : Int) (lists : To) : Nat → Look
 | 0, _, _ => .error (-1)
 | k + 1, at_, deep => match instrsE fs locals ty deep (lookE fs locals ty lists k) (lists.getD at_.toNat []) ⟨[], false⟩ with
  | .error e => .error e
  | .ok s => endE ty deep s
def namesL (w : W) : List Int := if w.op = 11 ∨ w.op = 12 ∨ (w.op = 13 ∧ w.other < 0) then [w.body] else if w.op = 13 then [w.body, w.other] else []
def nameE (at_ : Int) (named : List Bool) (n : Int) : Res (List Bool) :=
 if 0 ≤ n ∧ n < at_ ∧ named.getD n.toNat true = false then .ok (named.set n.toNat true) else .error 11
def namesE (at_ : Int) : List Int → List Bool → Res (List Bool)
 | [], named => .ok named
 | n :: ns, named => match nameE at_ named n with
  | .error e => .error e
  | .ok named' => namesE at_ ns named'
def rowE (at_ : Int) : List W → List Bool → Res (List Bool)
 | [], named => .ok named
 | w :: ws, named => match namesE at_ (namesL w) named with
  | .error e => .error e
  | .ok named' => rowE at_ ws named'
def rowsE : Nat → To → List Bool → Res (List Bool)
 | _, [], named => .ok named
 | k, l :: ls, named => match rowE (k : Int) l named with
  | .error e => .error e
  | .ok named' => rowsE (k + 1) ls named'
def listsE (ls : To) : Res Unit :=
 if ls.length = 0 then .error 11 else match rowsE 0 ls (List.replicate ls.length false) with
  | .error e => .error e
  | .ok named => if (named.take (ls.length - 1)).all (· == true) then .ok () else .error 11
def functionE (fs : List F) (f : F) : Res Unit :=
 if ((f.params ++ f.locals).all numberB && decide (0 ≤ f.type) && decide (f.type ≤ 2)) = false then .error 6 else match listsE f.lists with
  | .error e => .error e
  | .ok _ => lookE fs (f.params ++ f.locals) f.type f.lists f.lists.length ((f.lists.length : Int) - 1) 0
def functionsE (fs : List F) : List F → Res Unit
 | [] => .ok ()
 | f :: r => match functionE fs f with
  | .error e => .error e
  | .ok _ => functionsE fs r
def mainB (m : M) : Bool := decide (0 ≤ m.main) && match m.funcs[m.main.toNat]? with
 | some f => decide (f.type = 1) && decide (f.params.length = 0)
 | none => false
def checkE (m : M) : Res Unit :=
 if (decide (0 ≤ m.memory) && decide (m.memory ≤ 4096)) = false then .error 11 else match functionsE m.funcs m.funcs with
  | .error e => .error e
  | .ok _ => if mainB m then .ok () else .error 12
def errOf : Res Unit → Int
 | .ok _ => 0
 | .error e => e
end Go.Proofs.YthifgodgfhbnfaaGreatDoor
set_option linter.unusedSimpArgs false
set_option linter.unusedVariables false
namespace Go.Proofs.YthifgodgfhbnfaaGreatDoor
open Go Go.Abs
def sumTo (f : Nat → Nat) : Nat → Nat
 | 0 => 0
 | k + 1 => sumTo f k + f k
theorem sumTo_congr {f g : Nat → Nat} : ∀ k, (∀ i, i < k → f i = g i) → sumTo f k = sumTo g k
 | 0, _ => rfl
 | k + 1, h => by rw [sumTo, sumTo, sumTo_congr k fun i hi => h i (by omega), h k (by omega)]
def rt (T : Nat → Nat) (named : List Bool) (i : Nat) : Nat := if named.getD i true then 0 else T i
theorem getD_set (named : List Bool) (n i : Nat) : (named.set n true).getD i true = if i = n then true else named.getD i true := by
 rw [List.getD_eq_getElem?_getD, List.getD_eq_getElem?_getD, List.getElem?_set]
 by_cases h : n = i
 ·subst h
  rw [if_pos rfl, if_pos rfl]
  split <;> rfl
 ·rw [if_neg h, if_neg (fun e => h e.symm)]
theorem rt_set_ne (T : Nat → Nat) (named : List Bool) {n i : Nat} (h : i ≠ n) : rt T (named.set n true) i = rt T named i := by
 have e : (named.set n true).getD i true = named.getD i true := by rw [getD_set, if_neg h]
 unfold rt; rw [e]
theorem sumTo_set (T : Nat → Nat) (named : List Bool) (n : Nat) (h : named.getD n true = false) : ∀ k, n < k → sumTo (rt T (named.set n true)) k + T n = sumTo (rt T named) k
 | 0, hk => by omega
 | k + 1, hk => by
  simp only [sumTo]
  by_cases e : n = k
  ·subst e
   have h1 : sumTo (rt T (named.set n true)) n = sumTo (rt T named) n := sumTo_congr n fun i hi => rt_set_ne T named (Nat.ne_of_lt hi)
   have h2 : rt T (named.set n true) n = 0 := by
    have e : (named.set n true).getD n true = true := by rw [getD_set, if_pos rfl]
    unfold rt; rw [e]; rfl
   have h3 : rt T named n = T n := by unfold rt; rw [h]; rfl
   omega
  ·have ih := sumTo_set T named n h k (by omega)
   have h2 : rt T (named.set n true) k = rt T named k := rt_set_ne T named (fun q => e q.symm)
   omega
def sumL (l : List Int) (T : Nat → Nat) : Nat := (l.map fun n => T n.toNat).sum
theorem sumL_append (a b : List Int) (T) : sumL (a ++ b) T = sumL a T + sumL b T := by simp [sumL]
structure Named (T : Nat → Nat) (k : Nat) (named named' : List Bool) (ns : List Int) : Prop where
 inside : ∀ n ∈ ns, 0 ≤ n ∧ n < (k : Int)
 sum : sumTo (rt T named') k + sumL ns T = sumTo (rt T named) k
 rest : ∀ i, k ≤ i → named'.getD i true = named.getD i true
 len : named'.length = named.length
theorem Named.nil {T k named} : Named T k named named [] := ⟨by simp, by simp [sumL], fun _ _ => rfl, rfl⟩
theorem Named.trans {T k a b c l m} (h : Named T k a b l) (h' : Named T k b c m) : Named T k a c (l ++ m) where
 inside n hn := (List.mem_append.1 hn).elim (h.inside n) (h'.inside n)
 sum := by rw [sumL_append]; have := h.sum; have := h'.sum; omega
 rest i hi := (h'.rest i hi).trans (h.rest i hi)
 len := h'.len.trans h.len
theorem nameE_ok {T k named n named'} (h : nameE (k : Nat) named n = .ok named') : Named T k named named' [n] := by
 unfold nameE at h
 split at h
 ·rename_i hc
  cases h
  obtain ⟨h0, h1, h2⟩ := hc
  have hk : n.toNat < k := by omega
  refine ⟨by simp; exact ⟨h0, h1⟩, by simpa [sumL] using sumTo_set T named n.toNat h2 k hk, fun i hi => by rw [getD_set, if_neg (by omega)], by simp⟩
 ·cases h
theorem namesE_ok {T k} : ∀ {ns named named'}, namesE (k : Nat) ns named = .ok named' → Named T k named named' ns
 | [], _, _, h => by simp [namesE] at h; subst h; exact .nil
 | n :: ns, named, named', h => by
  rw [namesE] at h
  split at h
  ·cases h
  ·rename_i named1 h1
   exact (nameE_ok h1).trans (namesE_ok h)
theorem rowE_ok {T k} : ∀ {ws named named'}, rowE (k : Nat) ws named = .ok named' → Named T k named named' (ws.flatMap namesL)
 | [], _, _, h => by simp [rowE] at h; subst h; exact .nil
 | w :: ws, named, named', h => by
  rw [rowE] at h
  split at h
  ·cases h
  ·rename_i named1 h1
   rw [List.flatMap_cons]
   exact (namesE_ok h1).trans (rowE_ok h)
def Ahead (ls : To) : Prop := ∀ (k : Nat) (row : List W), ls[k]? = some row → ∀ n ∈ row.flatMap namesL, 0 ≤ n ∧ n < (k : Int)
theorem rowsE_ahead (ls : To) : ∀ (r : To) (k : Nat) (named named' : List Bool), ls.drop k = r → rowsE k r named = .ok named' → ∀ j row, k ≤ j → ls[j]? = some row → ∀ n ∈ row.flatMap namesL, 0 ≤ n ∧ n < (j : Int)
 | [], k, _, _, hd, _, j, row, hj, hr => by
  have : ls.length ≤ k := List.drop_eq_nil_iff.1 hd
  rw [List.getElem?_eq_none (by omega)] at hr; cases hr
 | l :: r, k, named, named', hd, h, j, row, hj, hr => by
  rw [rowsE] at h
  split at h
  ·cases h
  ·rename_i named1 h1
   have hl : ls[k]? = some l := by
    have := congrArg (·[0]?) hd
    simpa using this
   have hd' : ls.drop (k + 1) = r := by
    have := congrArg (List.drop 1) hd
    simpa [List.drop_drop] using this
   by_cases e : j = k
   ·subst e
    rw [hl] at hr; cases hr
    exact (rowE_ok (T := fun _ => 0) h1).inside
   ·exact rowsE_ahead ls r (k + 1) named1 named' hd' h j row (by omega) hr
theorem rowsE_sum (ls : To) (T g : Nat → Nat) (hT : ∀ k row, ls[k]? = some row → T k = g k + sumL (row.flatMap namesL) T) : ∀ (r : To) (k : Nat) (named named' : List Bool), ls.drop k = r → rowsE k r named = .ok named' → k ≤ ls.length →
  sumTo (rt T named) k = sumTo g k → named.length = ls.length → (∀ i, k ≤ i → i < ls.length → named.getD i true = false) →
  sumTo (rt T named') ls.length = sumTo g ls.length ∧ named'.length = ls.length ∧ (0 < ls.length → k < ls.length → named'.getD (ls.length - 1) true = false)
 | [], k, named, named', hd, h, hk, hs, hl, hf => by
  have hlen : ls.length ≤ k := List.drop_eq_nil_iff.1 hd
  simp [rowsE] at h
  subst h
  obtain rfl : k = ls.length := by omega
  exact ⟨hs, hl, fun _ h => by omega⟩
 | l :: r, k, named, named', hd, h, hk, hs, hlen, hf => by
  rw [rowsE] at h
  split at h
  ·cases h
  ·rename_i named1 h1
   have hl : ls[k]? = some l := by
    have := congrArg (·[0]?) hd
    simpa using this
   have hd' : ls.drop (k + 1) = r := by
    have := congrArg (List.drop 1) hd
    simpa [List.drop_drop] using this
   have hk' : k < ls.length := (List.getElem?_eq_some_iff.1 hl).1
   have N := rowE_ok (T := T) h1
   have hkk : named1.getD k true = false := (N.rest k (Nat.le_refl _)).trans (hf k (Nat.le_refl _) hk')
   have hsum : sumTo (rt T named1) (k + 1) = sumTo g (k + 1) := by
    simp only [sumTo]
    have h3 : rt T named1 k = T k := by unfold rt; rw [hkk]; rfl
    have := N.sum
    have := hT k l hl
    omega
   have key := rowsE_sum ls T g hT r (k + 1) named1 named' hd' h hk' hsum (N.len.trans hlen) fun i hi hil => (N.rest i (by omega)).trans (hf i (by omega) hil)
   refine ⟨key.1, key.2.1, fun h0 _ => ?_⟩
   by_cases e : k + 1 < ls.length
   ·exact key.2.2 h0 e
   ·have : r = [] := by
     have hdl := congrArg List.length hd'
     rw [List.length_drop] at hdl
     exact List.length_eq_zero_iff.1 (by omega)
    subst this
    simp [rowsE] at h
    subst h
    rw [show ls.length - 1 = k from by omega]
    exact hkk
def tot (g : Nat → Nat) (ls : To) : Nat → Nat → Nat
 | 0, _ => 0
 | f + 1, k => g k + sumL ((ls.getD k []).flatMap namesL) (tot g ls f)
theorem sumL_congr {l : List Int} {T U : Nat → Nat} (h : ∀ n ∈ l, T n.toNat = U n.toNat) : sumL l T = sumL l U := by
 induction l with
 | nil => rfl
 | cons n l ih =>
  simp only [sumL, List.map_cons, List.sum_cons] at ih ⊢
  rw [h n (by simp), ih fun m hm => h m (by simp [hm])]
theorem tot_stable (g : Nat → Nat) {ls : To} (ha : Ahead ls) : ∀ (f : Nat) (k : Nat), k < f → tot g ls (f + 1) k = tot g ls f k := by
 intro f
 induction f with
 | zero => intro k h; omega
 | succ f ih =>
  intro k hk
  rw [tot, tot]
  congr 1
  refine sumL_congr fun n hn => ?_
  cases hr : ls[k]? with
  | none => rw [List.getD_eq_getElem?_getD, hr] at hn; simp at hn
  | some row =>
   rw [List.getD_eq_getElem?_getD, hr] at hn
   have := ha k row hr n hn
   exact ih n.toNat (by omega)
def totF (g : Nat → Nat) (ls : To) (k : Nat) : Nat := tot g ls ls.length k
theorem totF_eq (g : Nat → Nat) {ls : To} (ha : Ahead ls) {k : Nat} {row : List W} (h : ls[k]? = some row) : totF g ls k = g k + sumL (row.flatMap namesL) (totF g ls) := by
 have hk := (List.getElem?_eq_some_iff.1 h).1
 unfold totF
 rw [← tot_stable g ha ls.length k hk, tot, List.getD_eq_getElem?_getD, h]
 rfl
theorem sumTo_zero : ∀ k, sumTo (fun _ => 0) k = 0
 | 0 => rfl
 | k + 1 => by rw [sumTo, sumTo_zero k]
theorem listsE_ok {ls : To} (h : listsE ls = .ok ()) : 0 < ls.length ∧ Ahead ls ∧ ∀ g, totF g ls (ls.length - 1) = sumTo g ls.length := by
 unfold listsE at h
 split at h
 ·cases h
 ·rename_i h0
  split at h
  ·cases h
  ·rename_i named hr
   split at h
   ·rename_i hall
    have ha : Ahead ls := fun k row hk => rowsE_ahead ls ls 0 _ _ (by simp) hr k row (Nat.zero_le _) hk
    refine ⟨by omega, ha, fun g => ?_⟩
    obtain ⟨h1, h2, h3⟩ := rowsE_sum ls (totF g ls) g (fun k row hk => totF_eq g ha hk) ls 0 _ _ (by simp) hr (Nat.zero_le _) rfl (by simp) fun i _ hi => by
     rw [List.getD_eq_getElem?_getD, List.getElem?_replicate, if_pos hi]; rfl
    obtain ⟨L, hL⟩ : ∃ L, ls.length = L + 1 := ⟨ls.length - 1, by omega⟩
    have h3' := h3 (by omega) (by omega)
    rw [hL] at h1 h3' hall ⊢
    simp only [Nat.add_sub_cancel] at h3' hall ⊢
    rw [← h1, sumTo]
    have z : sumTo (rt (totF g ls) named) L = 0 := by
     have : sumTo (rt (totF g ls) named) L = sumTo (fun _ => 0) L := sumTo_congr L fun i hi => by
      have hm : (named.take L)[i]? = some true := by
       have hlt : i < (named.take L).length := by rw [List.length_take]; omega
       rw [List.getElem?_eq_getElem hlt]
       have := List.all_eq_true.1 hall _ (List.getElem_mem hlt)
       simpa using this
      rw [List.getElem?_take, if_pos hi] at hm
      have e : named.getD i true = true := by rw [List.getD_eq_getElem?_getD, hm]; rfl
      unfold rt; rw [e]; rfl
     rw [this, sumTo_zero]
    have e : rt (totF g ls) named L = totF g ls L := by unfold rt; rw [h3']; rfl
    rw [z, e]; omega
   ·cases h
end Go.Proofs.YthifgodgfhbnfaaGreatDoor
set_option linter.unusedSimpArgs false
set_option linter.unusedVariables false
namespace Go.Proofs.YthifgodgfhbnfaaGreatDoor
open Go Go.Abs
abbrev Rec := Int → To → Option (Int × To)
def leavesW (w : W) : Bool := w.op == 14 || w.op == 16 || w.op == 17
def plists (rec : Rec) (w : W) (to : To) : Option (W × To) :=
 if w.op = 13 then
  match rec w.body to with
  | none => none
  | some (b, to1) =>
   if 0 ≤ w.other then
    match rec w.other to1 with
    | none => none
    | some (o, to2) => some ({ w with body := b, other := o }, to2)
   else some ({ w with body := b }, to1)
 else if w.op = 11 ∨ w.op = 12 then
  match rec w.body to with
  | none => none
  | some (b, to1) => some ({ w with body := b }, to1)
 else some (w, to)
def pchosen (rec : Rec) (n : Int) (w : W) (to : To) : Option (List W × To) :=
 let at_ := if n = 0 then w.other else w.body
 if at_ < 0 then some ([], to) else
  match rec at_ to with
  | none => none
  | some (b, to1) => some ([⟨11, 0, 0, b, 0, []⟩], to1)
def ptogether (rec : Rec) (a b : W) (to : To) : Option (List W × Bool × To) :=
 let number := decide (a.op = 1) && decide (a.ty = 1)
 if (a.op = 1 ∨ a.op = 2) ∧ b.op = 18 then some ([], true, to)
 else if a.op = 1 ∧ b.op = 5 then some ([⟨1, 1, if a.n = 0 then 1 else 0, 0, 0, []⟩], decide (a.ty = b.ty), to)
 else if a.op = 1 ∧ b.op = 15 then
  if a.n = 0 then some ([], number, to) else some ([⟨14, 0, b.n, 0, 0, []⟩], number, to)
 else if a.op = 1 ∧ b.op = 13 then
  if number then
   match pchosen rec a.n b to with
   | none => none
   | some (l, to1) => some (l, true, to1)
  else some ([], false, to)
 else some ([], false, to)
def ploop (rec : Rec) : List W → List W → To → Option (List W × To)
 | [], l, to => some (l, to)
 | w :: ws, l, to =>
  match l.getLast? with
  | none =>
   match plists rec w to with
   | none => none
   | some (w', to2) => ploop rec ws (l ++ [w']) to2
  | some p =>
   if leavesW p then some (l, to) else
   match ptogether rec p w to with
   | none => none
   | some (two, is, to1) =>
    if is then ploop rec ws (l.dropLast ++ two) to1
    else match plists rec w to1 with
     | none => none
     | some (w', to2) => ploop rec ws (l ++ [w']) to2
def Good (l : List W) : Prop := ∀ w ∈ l.dropLast, leavesW w = false
def sumC (c : Nat → Nat) (ls : To) : Nat := (ls.map fun l => c l.length).sum
theorem sumC_append (c a b) : sumC c (a ++ b) = sumC c a + sumC c b := by simp [sumC]
end Go.Proofs.YthifgodgfhbnfaaGreatDoor
set_option linter.unusedSimpArgs false
set_option linter.unusedVariables false
namespace Go.Proofs.YthifgodgfhbnfaaGreatDoor
open Go Go.Abs
theorem functionE_lists {fs : List F} {f : F} (h : functionE fs f = .ok ()) : listsE f.lists = .ok () := by
 unfold functionE at h
 split at h
 ·cases h
 ·split at h
  ·cases h
  ·assumption
theorem functionsE_all {fs : List F} : ∀ {r : List F}, functionsE fs r = .ok () → ∀ f ∈ r, functionE fs f = .ok ()
 | [], _, f, hf => by simp at hf
 | g :: r, h, f, hf => by
  rw [functionsE] at h
  split at h
  ·cases h
  ·rename_i u hg
   rcases List.mem_cons.1 hf with rfl | hf
   ·exact hg
   ·exact functionsE_all h f hf
theorem checkE_functions {m : M} (h : checkE m = .ok ()) : ∀ f ∈ m.funcs, functionE m.funcs f = .ok () := by
 unfold checkE at h
 split at h
 ·cases h
 ·split at h
  ·cases h
  ·rename_i u hf
   exact functionsE_all hf
end Go.Proofs.YthifgodgfhbnfaaGreatDoor
set_option linter.unusedSimpArgs false
set_option linter.unusedVariables false
namespace Go.Proofs.YthifgodgfhbnfaaGreatDoor.Rf
open Go Go.Abs Go.Proofs.YthifgodgfhbnfaaGreatDoor
def rowN (r : List W) : List Int := r.flatMap namesL
def rowsN (l : To) : List Int := l.flatMap rowN
def NOk (L : Nat) (named : List Bool) (P : List Int) : Prop := named.length = L ∧ ∀ i, i < L → named[i]? = some (decide (0 < P.count (i : Int)))
theorem nameE_to {L : Nat} {named : List Bool} {P : List Int} {k : Nat} {n : Int} (h : NOk L named P) (hk : k ≤ L) (h0 : 0 ≤ n ∧ n < (k : Int)) (hc : P.count n = 0) : ∃ named', nameE (k : Int) named n = .ok named' ∧ NOk L named' (P ++ [n]) := by
 obtain ⟨i, hi⟩ := Int.eq_ofNat_of_zero_le h0.1
 subst hi
 have hi : i < L := by omega
 have hg := h.2 i hi
 rw [hc] at hg
 have e : named.getD (Int.toNat (i : Int)) true = false := by rw [Int.toNat_natCast, List.getD_eq_getElem?_getD, hg]; rfl
 refine ⟨named.set i true, ?_, by simp [h.1], fun j hj => ?_⟩
 ·unfold nameE
  rw [if_pos ⟨h0.1, h0.2, e⟩, Int.toNat_natCast]
 ·rw [List.getElem?_set, List.count_append]
  by_cases hij : i = j
  ·subst hij
   rw [if_pos rfl, if_pos (by rw [h.1]; exact hj)]
   simp
  ·rw [if_neg hij, h.2 j hj]
   have : List.count (j : Int) [(i : Int)] = 0 := by
    rw [List.count_singleton]
    have : ¬ ((i : Int) == (j : Int)) = true := by simp; omega
    simp [this]
   rw [this, Nat.add_zero]
theorem namesE_to {L k : Nat} (hk : k ≤ L) : ∀ {ns : List Int} {named : List Bool} {P : List Int}, NOk L named P → (∀ n ∈ ns, 0 ≤ n ∧ n < (k : Int)) → (∀ n : Int, (P ++ ns).count n ≤ 1) → ∃ named', namesE (k : Int) ns named = .ok named' ∧ NOk L named' (P ++ ns)
 | [], named, P, h, _, _ => ⟨named, rfl, by simpa using h⟩
 | n :: ns, named, P, h, h0, hc => by
  have h1 := hc n
  rw [List.count_append, List.count_cons_self] at h1
  obtain ⟨nm, e1, e2⟩ := nameE_to h hk (h0 n (by simp)) (by omega)
  obtain ⟨nm2, e3, e4⟩ := namesE_to hk (ns := ns) e2 (fun m hm => h0 m (by simp [hm])) (fun m => by have := hc m; simpa using this)
  refine ⟨nm2, ?_, by simpa using e4⟩
  rw [namesE, e1]; exact e3
theorem rowE_to {L k : Nat} (hk : k ≤ L) : ∀ {r : List W} {named : List Bool} {P : List Int}, NOk L named P → (∀ n ∈ rowN r, 0 ≤ n ∧ n < (k : Int)) → (∀ n : Int, (P ++ rowN r).count n ≤ 1) → ∃ named', rowE (k : Int) r named = .ok named' ∧ NOk L named' (P ++ rowN r)
 | [], named, P, h, _, _ => ⟨named, rfl, by simpa [rowN] using h⟩
 | w :: r, named, P, h, h0, hc => by
  have e : rowN (w :: r) = namesL w ++ rowN r := by simp [rowN]
  rw [e] at h0 hc ⊢
  obtain ⟨nm, e1, e2⟩ := namesE_to hk h (ns := namesL w) (fun n hn => h0 n (by simp [hn])) (fun n => by
   have := hc n
   rw [← List.append_assoc, List.count_append] at this
   omega)
  obtain ⟨nm2, e3, e4⟩ := rowE_to hk (r := r) e2 (fun m hm => h0 m (by simp [hm])) (fun m => by rw [List.append_assoc]; exact hc m)
  refine ⟨nm2, ?_, by rw [← List.append_assoc]; exact e4⟩
  rw [rowE, e1]; exact e3
theorem rowsE_to {L : Nat} : ∀ {k : Nat} {ls : To} {named : List Bool} {P : List Int}, k + ls.length ≤ L → NOk L named P → (∀ i r, ls[i]? = some r → ∀ n ∈ rowN r, 0 ≤ n ∧ n < ((k + i : Nat) : Int)) → (∀ n : Int, (P ++ rowsN ls).count n ≤ 1) → ∃ named', rowsE k ls named = .ok named' ∧ NOk L named' (P ++ rowsN ls)
 | k, [], named, P, _, h, _, _ => ⟨named, rfl, by simpa [rowsN] using h⟩
 | k, r :: ls, named, P, hk, h, h0, hc => by
  have e : rowsN (r :: ls) = rowN r ++ rowsN ls := by simp [rowsN]
  rw [e] at hc ⊢
  simp only [List.length_cons] at hk
  obtain ⟨nm, e1, e2⟩ := rowE_to (k := k) (by omega) h (r := r) (fun n hn => by have := h0 0 r rfl n hn; simpa using this) (fun n => by
   have := hc n
   rw [← List.append_assoc, List.count_append] at this
   omega)
  obtain ⟨nm2, e3, e4⟩ := rowsE_to (k := k + 1) (ls := ls) (by omega) e2 (fun i q hq m hm => by have := h0 (i + 1) q (by simpa using hq) m hm; simp at this ⊢; omega) (fun m => by rw [List.append_assoc]; exact hc m)
  refine ⟨nm2, ?_, by rw [← List.append_assoc]; exact e4⟩
  rw [rowsE, e1]; exact e3
theorem listsE_of {ls : To} (h0 : ls.length ≠ 0) (hv : ∀ (i : Nat) r, ls[i]? = some r → ∀ n ∈ rowN r, 0 ≤ n ∧ n < (i : Int)) (hc : ∀ i : Nat, i + 1 < ls.length → (rowsN ls).count (i : Int) = 1) : listsE ls = .ok () := by
 have hall : ∀ n ∈ rowsN ls, 0 ≤ n ∧ n < ((ls.length - 1 : Nat) : Int) := fun n hn => by
  simp only [rowsN, List.mem_flatMap] at hn
  obtain ⟨r, hr, hn⟩ := hn
  obtain ⟨i, hi, e⟩ := List.getElem_of_mem hr
  have := hv i r (by rw [List.getElem?_eq_getElem hi, e]) n hn
  omega
 have hc1 : ∀ n : Int, (rowsN ls).count n ≤ 1 := fun n => by
  by_cases hm : n ∈ rowsN ls
  ·have := hall n hm
   obtain ⟨i, hi⟩ := Int.eq_ofNat_of_zero_le this.1
   subst hi
   rw [hc i (by omega)]
   exact Nat.le_refl _
  ·rw [List.count_eq_zero_of_not_mem hm]; omega
 obtain ⟨nm, e1, e2, e3⟩ := rowsE_to (L := ls.length) (k := 0) (ls := ls) (named := List.replicate ls.length false) (P := []) (by omega) ⟨by simp, fun i hi => by simp [hi]⟩ (fun i r hr n hn => by have := hv i r hr n hn; simpa using this) (by simpa using hc1)
 unfold listsE
 rw [if_neg h0, e1]
 simp only
 rw [if_pos]
 rw [List.all_eq_true]
 intro b hb
 obtain ⟨i, hi, e⟩ := List.getElem_of_mem hb
 simp at hi
 have := e3 i (by omega)
 rw [List.nil_append, hc i (by omega)] at this
 rw [← e, List.getElem_take]
 have h4 := List.getElem?_eq_some_iff.1 this
 obtain ⟨h5, h6⟩ := h4
 rw [h6]
 rfl
end Go.Proofs.YthifgodgfhbnfaaGreatDoor.Rf
set_option linter.unusedSimpArgs false
set_option linter.unusedVariables false
namespace Go.Proofs.YthifgodgfhbnfaaGreatDoor
open Go Go.Abs
def W.cs (w : W) : List AV := [.int .i64 w.op, .int .i64 w.ty, .int .i64 w.n, .int .i64 w.body, .int .i64 w.other, .str w.name]
def W.av (w : W) : AV := .agg w.cs
inductive All2 {α β : Type} (R : α → β → Prop) : List α → List β → Prop
 | nil : All2 R [] []
 | cons {x y xs ys} (h : R x y) (r : All2 R xs ys) : All2 R (x :: xs) (y :: ys)
def RepL (v : AV) (l : List W) : Prop := (l = [] ∧ v = .nilsl) ∨ ∃ b, v = .sl (.stat b) 6 (l.map W.av)
def ToV (σ : AS) (v : AV) (to : To) : Prop :=
 (to = [] ∧ v = .nilsl) ∨ ∃ g tos, v = .sl (.fam g false) 1 tos ∧ g < σ.nf ∧ σ.F g = .alive ∧ All2 RepL tos to
def FromV (v : AV) (frm : To) : Prop := ∃ b rows, v = .sl (.stat b) 1 rows ∧ All2 RepL rows frm
def famOf : AV → Option Nat
 | .sl (.fam g _) _ _ => some g
 | _ => none
def Maker (σ : AS) (x : Nat) (fv : AV) (to : To) : Prop := x < σ.no ∧ ∃ tv, σ.objs x = some [fv, tv] ∧ ToV σ tv to
def Uses (σ : AS) (x f : Nat) : Prop := ∃ fv tv, σ.objs x = some [fv, tv] ∧ famOf tv = some f
structure Keep (x : Nat) (σ σ' : AS) : Prop where
 no : σ.no ≤ σ'.no
 nf : σ.nf ≤ σ'.nf
 obj : ∀ o, o < σ.no → o ≠ x → σ'.objs o = σ.objs o
 fam : ∀ f, f < σ.nf → ¬ Uses σ x f → σ'.F f = σ.F f
 use : ∀ f, f < σ.nf → Uses σ' x f → Uses σ x f
end Go.Proofs.YthifgodgfhbnfaaGreatDoor
set_option linter.unusedSimpArgs false
set_option linter.unusedVariables false
namespace Go.Proofs.YthifgodgfhbnfaaGreatDoor
open Go Go.Abs
end Go.Proofs.YthifgodgfhbnfaaGreatDoor
set_option linter.unusedSimpArgs false
set_option linter.unusedVariables false
namespace Go.Proofs.YthifgodgfhbnfaaGreatDoor
open Go Go.Abs
end Go.Proofs.YthifgodgfhbnfaaGreatDoor
set_option linter.unusedSimpArgs false
set_option linter.unusedVariables false
namespace Go.Proofs.YthifgodgfhbnfaaGreatDoor
open Go Go.Abs
def RL (σ : AS) (x base : Nat) (lv : AV) (l : List W) : Prop :=
 (l = [] ∧ lv = .nilsl) ∨ ∃ f, lv = .sl (.fam f false) 6 (l.map W.av) ∧ base ≤ f ∧ f < σ.nf ∧ σ.F f = .alive ∧ ¬ Uses σ x f
theorem All2.length {α β : Type} {R : α → β → Prop} {xs ys} (h : All2 R xs ys) : xs.length = ys.length := by
 induction h <;> simp_all
theorem All2.get {α β : Type} {R : α → β → Prop} {xs ys} (h : All2 R xs ys) {i : Nat} {y} (hy : ys[i]? = some y) : ∃ x, xs[i]? = some x ∧ R x y := by
 induction h generalizing i with
 | nil => simp at hy
 | cons h r ih =>
  cases i with
  | zero => simp at hy; subst hy; exact ⟨_, by simp, h⟩
  | succ i => simp at hy; simpa using ih hy
theorem All2.append {α β : Type} {R : α → β → Prop} {xs ys xs' ys'} (h : All2 R xs ys) (h' : All2 R xs' ys') : All2 R (xs ++ xs') (ys ++ ys') := by
 induction h with
 | nil => exact h'
 | cons h r ih => exact .cons h ih
def RowV (ws : List W) (row : AV) : Prop := RepL row ws
theorem freezeOr {P : Program} {G : Env} {f : FuncId} {args : List AV} {σ : AS} {R : Out → AS → Prop}
  (h : ACalls P G f args σ fun o σ' => R o σ' ∨ ∃ v g p, o = .ret v ∧ σ'.F g = .alive ∧ R (.ret (frz g v)) (σ'.frz g p)) : ACalls P G f args σ R := by
 intro M w cargs S g c
 refine (h M w cargs S g c).mono fun e w' ⟨o, σ', M', hR, h2, h3, h4⟩ => ?_
 rcases hR with hR | ⟨v, k, p, ho, ha, hR⟩
 ·exact ⟨o, σ', M', hR, h2, h3, h4⟩
 subst ho
 refine ⟨_, _, M'.frz k, hR, ?_, h3.frz ha, h4.trans (ext_frz ha)⟩
 cases e <;> simp only [OutRel] at h2 ⊢
 exact h2.frz ha
theorem frz_W (f : Nat) (w : W) : frz f w.av = w.av := by simp [W.av, W.cs]
theorem frz_Ws (f : Nat) (l : List W) : (l.map W.av).map (frz f) = l.map W.av := by simp [Function.comp_def, frz_W]
theorem RepL.frz {v l} (h : RepL v l) (f : Nat) : frz f v = v := by
 rcases h with ⟨_, rfl⟩ | ⟨b, rfl⟩
 ·simp
 ·rw [frz_sl_stat, frz_Ws]
theorem frz_rows {tos to} (h : All2 RepL tos to) (f : Nat) : tos.map (frz f) = tos := by
 induction h with
 | nil => rfl
 | cons h r ih => simp [h.frz f, ih]
theorem FromV.frz {v frm} (h : FromV v frm) (f : Nat) : frz f v = v := by
 obtain ⟨b, rows, rfl, h⟩ := h
 rw [frz_sl_stat, frz_rows h]
end Go.Proofs.YthifgodgfhbnfaaGreatDoor
set_option linter.unusedSimpArgs false
set_option linter.unusedVariables false
namespace Go.Proofs.YthifgodgfhbnfaaGreatDoor
open Go Go.Abs
def LI (rec : Rec) (σ : AS) (x : Nat) (fv row : AV) (ws lfin : List W) (tofin : To) (a : Nat → AV) (τ : AS) : Prop := ∃ (i : Nat) (l : List W) (to : To),
 i ≤ ws.length ∧ l.length ≤ i ∧ a 0 = .ptr x 0 ∧ a 17 = row ∧ a 18 = .int .i64 (ws.length : Int) ∧ a 19 = .int .i64 (i : Int) ∧ RL τ x σ.nf (a 5) l ∧ Keep x σ τ ∧ Maker τ x fv to ∧ ploop rec (ws.drop i) l to = some (lfin, tofin)
end Go.Proofs.YthifgodgfhbnfaaGreatDoor
set_option linter.unusedSimpArgs false
set_option linter.unusedVariables false
namespace Go.Proofs.YthifgodgfhbnfaaGreatDoor
open Go Go.Abs
end Go.Proofs.YthifgodgfhbnfaaGreatDoor
set_option linter.unusedSimpArgs false
set_option linter.unusedVariables false
namespace Go.Proofs.YthifgodgfhbnfaaGreatDoor
open Go Go.Abs
structure Adds (σ σ' : AS) : Prop where
 no : σ.no ≤ σ'.no
 nf : σ.nf ≤ σ'.nf
 obj : ∀ o, o < σ.no → σ'.objs o = σ.objs o
 fam : ∀ f, f < σ.nf → σ'.F f = σ.F f
theorem Adds.refl (σ) : Adds σ σ := ⟨Nat.le_refl _, Nat.le_refl _, fun _ _ => rfl, fun _ _ => rfl⟩
theorem Adds.trans {σ σ1 σ2} (h : Adds σ σ1) (h' : Adds σ1 σ2) : Adds σ σ2 where
 no := Nat.le_trans h.no h'.no
 nf := Nat.le_trans h.nf h'.nf
 obj o a := by rw [h'.obj o (Nat.lt_of_lt_of_le a h.no), h.obj o a]
 fam f a := by rw [h'.fam f (Nat.lt_of_lt_of_le a h.nf), h.fam f a]
theorem Adds.newO {σ σ' cs} (h : Adds σ σ') : Adds σ (σ'.newO cs) where
 no := Nat.le_trans h.no (by simp)
 nf := h.nf
 obj o a := by have := h.no; simp; rw [if_neg (by omega)]; exact h.obj o a
 fam := h.fam
theorem Adds.setO {σ σ' o cs} (h : Adds σ σ') (ho : σ.no ≤ o) : Adds σ (σ'.setO o cs) where
 no := h.no
 nf := h.nf
 obj p a := by simp; rw [if_neg (by omega)]; exact h.obj p a
 fam := h.fam
theorem Adds.newF {σ σ'} (h : Adds σ σ') : Adds σ σ'.newF where
 no := h.no
 nf := Nat.le_trans h.nf (by simp)
 obj := h.obj
 fam f a := by have := h.nf; simp; rw [if_neg (by omega)]; exact h.fam f a
theorem Adds.setF {σ σ' f s} (h : Adds σ σ') (hf : σ.nf ≤ f) : Adds σ (σ'.setF f s) where
 no := h.no
 nf := h.nf
 obj := h.obj
 fam g a := by simp; rw [if_neg (by omega)]; exact h.fam g a
theorem Adds.frz {σ σ' f p} (h : Adds σ σ') (hf : σ.nf ≤ f) (hp : ∀ o, o < σ.no → p o = false) : Adds σ (σ'.frz f p) where
 no := h.no
 nf := h.nf
 obj o a := by simp [AS.frz, hp o a]; exact h.obj o a
 fam g a := by simp [AS.frz, frzF]; rw [if_neg (by omega)]; exact h.fam g a
def IntsV (v : AV) (l : List Int) : Prop := (l = [] ∧ v = .nilsl) ∨ ∃ b, v = .sl (.stat b) 1 (l.map (.int .i64))
theorem IntsV.frz {v l} (h : IntsV v l) (f : Nat) : frz f v = v := by
 rcases h with ⟨_, rfl⟩ | ⟨b, rfl⟩ <;> simp [Function.comp_def]
theorem IntsV.one {v l} (h : IntsV v l) : v.known = true ∧ v.one = true ∧ v.cells = [v] := by
 rcases h with ⟨_, rfl⟩ | ⟨b, rfl⟩ <;> simp
def FrzOr (R : Out → AS → Prop) (o : Out) (σ' : AS) : Prop := R o σ' ∨ ∃ v g p, o = .ret v ∧ σ'.F g = .alive ∧ R (.ret (frz g v)) (σ'.frz g p)
theorem freezing {P : Program} {G : Env} {f : FuncId} {args : List AV} {σ : AS} {R : Out → AS → Prop} (h : ACalls P G f args σ (FrzOr R)) : ACalls P G f args σ R := freezeOr h
theorem FrzOr.froze {R : Out → AS → Prop} {v : AV} {σ' : AS} (g : Nat) (p : Nat → Bool) (h : σ'.F g = .alive) (h2 : R (.ret (frz g v)) (σ'.frz g p)) : FrzOr R (.ret v) σ' := .inr ⟨v, g, p, rfl, h, h2⟩
def ListsV (v : AV) (to : To) : Prop := (to = [] ∧ v = .nilsl) ∨ FromV v to
theorem ListsV.one {v l} (h : ListsV v l) : v.known = true ∧ v.one = true ∧ v.cells = [v] := by
 rcases h with ⟨_, rfl⟩ | ⟨b, _, rfl, _⟩ <;> simp
theorem ListsV.frz {v l} (h : ListsV v l) (f : Nat) : frz f v = v := by
 rcases h with ⟨_, rfl⟩ | h
 ·simp
 ·exact h.frz f
def FV (v : AV) (f : F) : Prop := ∃ pv lv tv, v = .agg [.str f.name, pv, lv, .int .i64 f.type, tv] ∧ IntsV pv f.params ∧ IntsV lv f.locals ∧ ListsV tv f.lists
def FsV (v : AV) (fs : List F) : Prop := (fs = [] ∧ v = .nilsl) ∨ ∃ b rows, v = .sl (.stat b) 5 rows ∧ All2 FV rows fs
def MV (v : AV) (m : M) : Prop := ∃ fv, v = .agg [fv, .int .i64 m.memory, .int .i64 m.main] ∧ FsV fv m.funcs
theorem FV.frz {v f} (h : FV v f) (g : Nat) : frz g v = v := by
 obtain ⟨pv, lv, tv, rfl, h1, h2, h3⟩ := h
 simp [h1.frz, h2.frz, h3.frz]
end Go.Proofs.YthifgodgfhbnfaaGreatDoor
set_option linter.unusedSimpArgs false
set_option linter.unusedVariables false
namespace Go.Proofs.YthifgodgfhbnfaaGreatDoor
open Go Go.Abs
end Go.Proofs.YthifgodgfhbnfaaGreatDoor
set_option linter.unusedSimpArgs false
set_option linter.unusedVariables false
namespace Go.Proofs.YthifgodgfhbnfaaGreatDoor
open Go Go.Abs
theorem FsV.one {v l} (h : FsV v l) : v.known = true ∧ v.one = true ∧ v.cells = [v] := by
 rcases h with ⟨_, rfl⟩ | ⟨b, _, rfl, _⟩ <;> simp
end Go.Proofs.YthifgodgfhbnfaaGreatDoor
set_option linter.unusedSimpArgs false
set_option linter.unusedVariables false
namespace Go.Proofs.YthifgodgfhbnfaaGreatDoor
open Go Go.Abs
def signCells : List AV := (signs.map fun p => [AV.str p.1, AV.str p.2]).flatten
structure Vars (G : Env) : Prop where
 signs : G.g 0 = .pv (.stat true) (.agg signCells)
 max : ∃ m, G.g 1 = .pv (.stat true) (.int .i64 m)
theorem number_calls {G : Env} {σ : AS} {R : Out → AS → Prop} {t : Int} (h : R (.ret (.bool (numberB t))) σ) : ACalls Tryz.prog G 51 [.int .i64 t] σ R := by
 refine calls51 rfl ?_
 unfold numberB at h
 by_cases h1 : t = 1
 ·simp [h1] at h
  simp [pc51, h1]; exact h
 ·by_cases h2 : t = 2
  ·simp [h2] at h
   simp [pc51, h2]; exact h
  ·simp [h1, h2] at h
   simp [pc51, h1, h2]; exact h
def stopV (e : Int) : AV := .iface 77 (.agg [.int .i64 e])
theorem must_calls {G : Env} {σ : AS} {R : Out → AS → Prop} {b : Bool} {e : Int} (h1 : b = true → R (.ret (.tuple [])) σ) (h2 : b = false → R (.panic (stopV e)) σ) : ACalls Tryz.prog G 34 [.bool b, .int .i64 e] σ R := by
 refine calls34 rfl ?_
 cases b with
 | true => simp [pc34, splice]; exact h1 rfl
 | false => simp [pc34, splice]; exact h2 rfl
theorem bytes_calls {G : Env} {σ : AS} {R : Out → AS → Prop} {t n : Int} (h : R (.ret (.bool (bytesB t n))) σ) : ACalls Tryz.prog G 109 [.int .i64 t, .int .i64 n] σ R := by
 refine calls109 rfl ?_
 unfold bytesB at h
 by_cases h1 : t = 1
 ·by_cases h2 : n = 1
  ·simp [h1, h2] at h; simp [pc109, h1, h2]; exact h
  ·by_cases h4 : n = 4
   ·simp [h1, h4] at h; simp [pc109, h1, h4]; exact h
   ·simp [h1, h2, h4] at h; simp [pc109, h1, h2, h4]; exact h
 ·by_cases h2 : t = 2
  ·by_cases h8 : n = 8
   ·simp [h2, h8] at h; simp [pc109, h2, h8]; exact h
   ·simp [h2, h8] at h; simp [pc109, h2, h8]; exact h
  ·simp [h1, h2] at h; simp [pc109, h1, h2]; exact h
theorem wrap_self (k : IntKind) (n : Int) (h : k = .i8 ∨ k = .i32) : IntKind.wrap .i64 (k.wrap n) = k.wrap n := by
 have hb : -2147483648 ≤ k.wrap n ∧ k.wrap n ≤ 2147483647 := by
  rcases h with rfl | rfl <;> simp only [IntKind.wrap, IntKind.signed, IntKind.bits] <;> simp <;> omega
 rw [wrap_i64] <;> omega
theorem wrap_calls {G : Env} {σ : AS} {R : Out → AS → Prop} {t v : Int} (h : R (.ret (.int .i64 (wrapT t v))) σ) : ACalls Tryz.prog G 82 [.int .i64 t, .int .i64 v] σ R := by
 refine calls82 rfl ?_
 unfold wrapT at h
 by_cases h3 : t = 3
 ·simp [h3] at h; simp [pc82, h3, wrap_self]; exact h
 ·by_cases h1 : t = 1
  ·simp [h1] at h; simp [pc82, h1, wrap_self]; exact h
  ·by_cases h2 : t = 2
   ·simp [h2] at h; simp [pc82, h2]; exact h
   ·simp [h1, h2, h3] at h; simp [pc82, h1, h2, h3]; exact h
def GI (s : List UInt8) (σ : AS) (a : Nat → AV) (τ : AS) : Prop := ∃ i : Nat, i ≤ 16 ∧ a 0 = .str s ∧ a 5 = .agg signCells ∧ a 6 = .int .i64 (i : Int) ∧ signOf (signs.drop i) s = signOf signs s ∧ Adds σ τ
def MU (r n : Nat) (a : Nat → AV) (_ : AS) : Nat := match a r with | .int _ i => n - i.toNat | _ => 0
theorem pairs_at : ∀ (l : List (List UInt8 × List UInt8)) (i : Nat) (p : List UInt8 × List UInt8), l[i]? = some p → (((l.map fun p => [AV.str p.1, AV.str p.2]).flatten).drop (i * 2)).take 2 = [.str p.1, .str p.2]
 | [], i, p, h => by simp at h
 | q :: l, 0, p, h => by simp at h; subst h; rfl
 | q :: l, i + 1, p, h => by
  have := pairs_at l i p (by simpa using h)
  rw [show (i + 1) * 2 = i * 2 + 1 + 1 from by omega]
  simpa using this
theorem signs_at (i : Nat) (h : i < 16) : ∃ p, signs[i]? = some p ∧ (signCells.drop (i * 2)).take 2 = [.str p.1, .str p.2] :=
 ⟨_, List.getElem?_eq_getElem h, pairs_at signs i _ (List.getElem?_eq_getElem h)⟩
theorem sign_calls {G : Env} (V : Vars G) {σ : AS} {R : Out → AS → Prop} {s : List UInt8} (h : ∀ σ', Adds σ σ' → R (.ret (.str (signOf signs s))) σ') : ACalls Tryz.prog G 81 [.str s] σ R := by
 refine calls81 rfl ?_
 have hg := V.signs
 have hl : signCells.length = 32 := rfl
 simp [pc81, hg, hl]
 refine aloop (GI s σ) (MU 6 17) ⟨0, by omega, by simp, by simp, by simp, rfl, .refl _⟩ fun a τ hI => ?_
 obtain ⟨i, hi, a0, a5, a6, hs, A⟩ := hI
 by_cases hlt : i < 16
 ·obtain ⟨p, hp, hc⟩ := signs_at i hlt
  have hd : signs.drop i = p :: signs.drop (i + 1) := by
   obtain ⟨hi', e⟩ := List.getElem?_eq_some_iff.1 hp
   rw [List.drop_eq_getElem_cons hi', e]
  have hlt' : (i : Int) < 16 := by omega
  have hw3 : IntKind.wrap .i64 ((i : Int) + 1) = ((i + 1 : Nat) : Int) := by rw [wrap_i64] <;> omega
  have hle : i * 2 + 2 ≤ 32 := by omega
  obtain ⟨x, y⟩ := p
  rw [hd, signOf] at hs
  by_cases he : x = s
  ·rw [if_pos he] at hs
   simp [pc81_l1, a0, a5, a6, hlt', hl, hle, partOf, hc, splice, he]
   rw [hs]
   exact h _ ((A.newO).setO (by have := A.no; omega))
  ·rw [if_neg he] at hs
   simp [pc81_l1, a0, a5, a6, hlt', hl, hle, partOf, hc, splice, he, hw3]
   refine ⟨⟨i + 1, by omega, by simp [a0], by simp [a5], by simp, hs, (A.newO).setO (by have := A.no; omega)⟩, ?_⟩
   simp [MU, a6]; omega
 ·have he : i = 16 := by omega
  subst he
  have : signOf signs s = [] := by rw [← hs]; rfl
  rw [this] at h
  simp [pc81_l1, pc81_r1, a6]
  exact h _ A
end Go.Proofs.YthifgodgfhbnfaaGreatDoor
set_option linter.unusedSimpArgs false
set_option linter.unusedVariables false
namespace Go.Proofs.YthifgodgfhbnfaaGreatDoor
open Go Go.Abs
@[simp] theorem grown_full_cons {KS : AV → AS → Prop} {σ : AS} (bs sz f s' xs y ys) : grown bs sz (.sl (.fam f true) s' xs) (y :: ys) σ KS = (s' = sz ∧ (xs.length + (y :: ys).length) * bs ≤ 2 ^ 47 ∧ σ.F f = .alive ∧ KS (.sl (.fam σ.nf false) sz (xs ++ y :: ys)) σ.newF) := by simp [grown]
@[simp] theorem acall_under {P : Program} {G : Env} {n : Nat} {pa pb : PC} {ps : List Nat} {f0 : Nat} {a : Nat → AV} {l : Nat} {args : List AV} {σ : AS} {K PK : AV → AS → Prop} :
  acall P (G.under P n pa pb ps f0 a l) (.fn (.yield l) [] []) args σ K PK = (args.length = ps.length ∧ σ.F f0 = .alive ∧ avc P G n pa (athen (fun a1 σ1 => σ1.F f0 = .alive ∧ avc P G n pb (rq f0 K PK) a1 σ1) fun _ _ _ => False) (upds a ps args) σ) := by
 simp [acall, Env.under, ARound]
@[simp] theorem rq_normal (f0 : Nat) (K PK : AV → AS → Prop) (a : Nat → AV) (σ : AS) : rq f0 K PK .normal a σ = (σ.F f0 = .alive ∧ K (.bool true) σ) := Eq.trans rfl rfl
@[simp] theorem rq_panic (f0 : Nat) (K PK : AV → AS → Prop) (v : AV) (a : Nat → AV) (σ : AS) : rq f0 K PK (.panic v) a σ = (σ.F f0 = .alive ∧ PK v { σ with F := upd σ.F f0 .dead }) := Eq.trans rfl rfl
def intsA (l : List Int) : List AV := l.map (.int .i64)
def SV (σ : AS) (sv : AV) (st : List Int) : Prop := (st = [] ∧ sv = .nilsl) ∨ ∃ g b, sv = .sl (.fam g b) 1 (intsA st) ∧ g < σ.nf ∧ σ.F g = .alive
def UsesL (σ : AS) (x f : Nat) : Prop := ∃ cs v, σ.objs x = some cs ∧ cs[1]? = some v ∧ famOf v = some f
structure KeepL (x : Nat) (σ σ' : AS) : Prop where
 no : σ.no ≤ σ'.no
 nf : σ.nf ≤ σ'.nf
 obj : ∀ o, o < σ.no → o ≠ x → σ'.objs o = σ.objs o
 fam : ∀ f, f < σ.nf → ¬ UsesL σ x f → σ'.F f = σ.F f
 use : ∀ f, f < σ.nf → UsesL σ' x f → UsesL σ x f
theorem KeepL.refl (x σ) : KeepL x σ σ := ⟨Nat.le_refl _, Nat.le_refl _, fun _ _ _ => rfl, fun _ _ _ => rfl, fun _ _ h => h⟩
theorem KeepL.trans {x σ σ1 σ2} (h : KeepL x σ σ1) (h' : KeepL x σ1 σ2) : KeepL x σ σ2 where
 no := Nat.le_trans h.no h'.no
 nf := Nat.le_trans h.nf h'.nf
 obj o a b := by rw [h'.obj o (Nat.lt_of_lt_of_le a h.no) b, h.obj o a b]
 fam f a b := by rw [h'.fam f (Nat.lt_of_lt_of_le a h.nf) fun u => b (h.use f a u), h.fam f a b]
 use f a u := h.use f a (h'.use f (Nat.lt_of_lt_of_le a h.nf) u)
theorem Adds.keepL {x σ σ'} (h : Adds σ σ') (hx : x < σ.no) : KeepL x σ σ' where
 no := h.no
 nf := h.nf
 obj o a _ := h.obj o a
 fam f a _ := h.fam f a
 use f _ u := by unfold UsesL at *; rwa [h.obj x hx] at u
def LS (σ : AS) (x c : Nat) (s : St) (deep : Int) : Prop := x < σ.no ∧ ∃ sv, σ.objs x = some [.ptr c 0, sv, .bool s.any, .int .i64 deep] ∧ SV σ sv s.stack
theorem LS.adds {σ σ' x c s deep} (h : LS σ x c s deep) (A : Adds σ σ') : LS σ' x c s deep := by
 obtain ⟨hx, sv, ho, hs⟩ := h
 refine ⟨Nat.lt_of_lt_of_le hx A.no, sv, (A.obj x hx).trans ho, ?_⟩
 rcases hs with hs | ⟨g, b, e, h1, h2⟩
 ·exact .inl hs
 ·exact .inr ⟨g, b, e, Nat.lt_of_lt_of_le h1 A.nf, (A.fam g h1).trans h2⟩
def FinE (R : Out → AS → Prop) (x c : Nat) (deep : Int) (σ : AS) : Res St → Prop
 | .ok s' => ∀ σ', KeepL x σ σ' → LS σ' x c s' deep → R (.ret (.tuple [])) σ'
 | .error e => ∀ σ', KeepL x σ σ' → R (.panic (stopV e)) σ'
theorem KeepL.set {x σ cs} (hx : x < σ.no) (h : ∀ f v, f < σ.nf → cs[1]? = some v → famOf v = some f → UsesL σ x f) : KeepL x σ (σ.setO x cs) where
 no := Nat.le_refl _
 nf := Nat.le_refl _
 obj o _ ho := by simp [ho]
 fam f _ _ := rfl
 use f hf u := by
  obtain ⟨cs', v, h1, h2, h3⟩ := u
  simp at h1
  subst h1
  exact h f v hf h2 h3
theorem drop_calls {G : Env} {σ : AS} {R : Out → AS → Prop} {x c : Nat} {s : St} {deep : Int} (L : LS σ x c s deep) (hb : s.stack.length ≤ 2 ^ 40) (h : FinE R x c deep σ (dropE s)) : ACalls Tryz.prog G 112 [.ptr x 0] σ R := by
 refine calls112 rfl ?_
 have L0 := L
 obtain ⟨hx, sv, ho, hs⟩ := L
 unfold dropE at h
 rcases hs with ⟨hnil, rfl⟩ | ⟨g, b, rfl, hg1, hg2⟩
 ·have hl : s.stack.length = 0 := by rw [hnil]; rfl
  rw [if_pos hl] at h
  cases ha : s.any with
  | true =>
   rw [ha] at ho h
   rw [if_pos rfl] at h
   simp [pc112, ho]
   exact h σ (.refl _ _) L0
  | false =>
   rw [ha] at ho h
   rw [if_neg (by simp)] at h
   simp [pc112, ho]
   refine must_calls (fun q => by simp at q) fun _ => ?_
   exact h σ (.refl _ _)
 ·have hlA : (intsA s.stack).length = s.stack.length := by simp [intsA]
  by_cases hl : s.stack.length = 0
  ·rw [if_pos hl] at h
   have hl2 : intsA s.stack = [] := List.length_eq_zero_iff.1 (by omega)
   cases ha : s.any with
   | true =>
    rw [ha] at ho h
    rw [if_pos rfl] at h
    simp [pc112, ho, hl2]
    exact h σ (.refl _ _) L0
   | false =>
    rw [ha] at ho h
    rw [if_neg (by simp)] at h
    simp [pc112, ho, hl2]
    refine must_calls (fun q => by simp at q) fun _ => ?_
    exact h σ (.refl _ _)
  ·rw [if_neg hl] at h
   have hl2 : ¬ ((intsA s.stack).length : Int) = 0 := by omega
   have hl3 : (0 : Int) < ((intsA s.stack).length : Int) := by omega
   have hne : ¬ intsA s.stack = [] := fun q => by rw [q] at hl2; simp at hl2
   have hpos : 0 < (intsA s.stack).length := by omega
   have hw : IntKind.wrap .i64 (((intsA s.stack).length : Int) - 1) = (((intsA s.stack).length - 1 : Nat) : Int) := by rw [wrap_i64] <;> omega
   have e : (intsA s.stack).take ((intsA s.stack).length - 1) = intsA s.stack.dropLast := by
    rw [hlA]; unfold intsA; rw [← List.map_take, List.dropLast_eq_take]
   simp [pc112, ho, hne, hpos, splice]
   refine must_calls (fun _ => ?_) (fun q => by simp at q)
   simp [pc112, ho, hne, hpos, splice, hw]
   rw [e]
   refine h _ (.set hx fun f v hf hv hfam => ?_) ⟨by simpa using hx, _, by simp, .inr ⟨g, true, rfl, hg1, hg2⟩⟩
   simp at hv
   subst hv
   simp [famOf] at hfam
   subst hfam
   exact ⟨_, _, ho, rfl, rfl⟩
theorem setO_setO (σ : AS) (x : Nat) (a b : List AV) : (σ.setO x a).setO x b = σ.setO x b := by
 unfold AS.setO
 congr 1
 funext j
 simp only [upd]
 split <;> rfl
theorem leaves_calls' {G : Env} {σ : AS} {R : Out → AS → Prop} {x c : Nat} {s : St} {deep : Int} (L : LS σ x c s deep) (h : ∀ σ', KeepL x σ σ' → LS σ' x c leftS deep → R (.ret (.tuple [])) σ') : ACalls Tryz.prog G 99 [.ptr x 0] σ R := by
 refine calls99 rfl ?_
 obtain ⟨hx, sv, ho, hs⟩ := L
 simp [pc99, ho, splice]
 rw [setO_setO]
 refine h _ ((KeepL.set (cs := [.ptr c 0, .nilsl, .bool true, .int .i64 deep]) hx fun f v hf hv hfam => ?_)) ⟨by simpa using hx, _, by simp [leftS], .inl ⟨rfl, rfl⟩⟩
 simp at hv
 subst hv
 simp [famOf] at hfam
theorem KeepL.grow {x : Nat} {σ σ1 : AS} {cs : List AV} (hx : x < σ.no) (ho : σ1.objs = σ.objs) (hno : σ1.no = σ.no) (hnf : σ.nf ≤ σ1.nf) (hF : ∀ f, f < σ.nf → ¬ UsesL σ x f → σ1.F f = σ.F f) (h : ∀ f v, f < σ.nf → cs[1]? = some v → famOf v = some f → False) : KeepL x σ (σ1.setO x cs) where
 no := by simp [hno]
 nf := by simpa using hnf
 obj o _ hne := by simp [hne, ho]
 fam f hf hu := hF f hf hu
 use f hf u := by
  obtain ⟨cs', v, h1, h2, h3⟩ := u
  simp at h1
  subst h1
  exact (h f v hf h2 h3).elim
theorem give_calls {G : Env} {σ : AS} {R : Out → AS → Prop} {x c : Nat} {s : St} {deep t : Int} (L : LS σ x c s deep) (hb : s.stack.length ≤ 2 ^ 40) (h : ∀ σ', KeepL x σ σ' → LS σ' x c (giveS s t) deep → R (.ret (.tuple [])) σ') : ACalls Tryz.prog G 98 [.ptr x 0, .int .i64 t] σ R := by
 refine calls98 rfl ?_
 have L0 := L
 obtain ⟨hx, sv, ho, hs⟩ := L
 by_cases ht : t = 0
 ·have e : giveS s t = s := by simp [giveS, ht]
  rw [e] at h
  simp [pc98, ht]
  exact h σ (.refl _ _) L0
 ·have e : giveS s t = { s with stack := s.stack ++ [t] } := by simp [giveS, ht]
  rw [e] at h
  rcases hs with ⟨hnil, rfl⟩ | ⟨g, b, rfl, hg1, hg2⟩
  ·simp [pc98, ht, ho, splice]
   refine h _ (.grow hx rfl rfl (by simp) (fun f hf _ => by simp; omega) fun f v hf hv hfam => ?_) ⟨by simpa using hx, .sl (.fam σ.nf false) 1 (intsA (s.stack ++ [t])), by simp [hnil, intsA], .inr ⟨σ.nf, false, rfl, by simp, by simp⟩⟩
   ·simp at hv; subst hv; simp [famOf] at hfam; omega
  ·have hlA : (intsA s.stack).length = s.stack.length := by simp [intsA]
   have ea : intsA s.stack ++ [.int .i64 t] = intsA (s.stack ++ [t]) := by simp [intsA]
   cases b with
   | true =>
    simp [pc98, ht, ho, splice, hg2, hlA]
    refine ⟨by omega, h _ (.grow hx rfl rfl (by simp) (fun f hf _ => by simp; omega) fun f v hf hv hfam => ?_) ⟨by simpa using hx, .sl (.fam σ.nf false) 1 (intsA (s.stack ++ [t])), by simp [intsA], .inr ⟨σ.nf, false, rfl, by simp, by simp⟩⟩⟩
    ·simp at hv; subst hv; simp [famOf] at hfam; omega
   | false =>
    simp [pc98, ht, ho, splice, hg2, hlA]
    refine ⟨by omega, h _ (.grow hx rfl rfl (by simp) (fun f hf hu => ?_) fun f v hf hv hfam => ?_) ⟨by simpa using hx, .sl (.fam σ.nf false) 1 (intsA (s.stack ++ [t])), by simp [intsA], .inr ⟨σ.nf, false, rfl, by simp, by simp⟩⟩⟩
    ·have : f ≠ g := by rintro rfl; exact hu ⟨_, _, ho, rfl, rfl⟩
     simp [this]; omega
    ·simp at hv; subst hv; simp [famOf] at hfam; omega
end Go.Proofs.YthifgodgfhbnfaaGreatDoor
set_option linter.unusedSimpArgs false
set_option linter.unusedVariables false
namespace Go.Proofs.YthifgodgfhbnfaaGreatDoor
open Go Go.Abs
theorem backward_calls {G : Env} {σ : AS} {R : Out → AS → Prop} {tv : AV} (hk : tv.known = true) (hc : tv.cells = [tv]) (h : R (.ret (.fn (.func 119) [] [.ptr σ.no 0])) (σ.newO [tv])) : ACalls Tryz.prog G 111 [tv] σ R := by
 refine calls111 rfl ?_
 simp [pc111, hk, hc]
 exact h
theorem takeE_cons (t : Int) (ts : List Int) (s : St) : takeE (t :: ts) s = if s.stack.length = 0 ∨ s.stack.getLast? = some t then (match dropE s with | .ok s' => takeE ts s' | .error e => .error e) else .error 14 := rfl
theorem dropE_le {s s' : St} (h : dropE s = .ok s') : s'.stack.length ≤ s.stack.length := by
 unfold dropE at h
 split at h
 ·split at h
  ·cases h; exact Nat.le_refl _
  ·cases h
 ·cases h; simp
@[simp] theorem upds_two (a : Nat → AV) (p q : Nat) (x y : AV) : upds a [p, q] [x, y] = upd (upd a p x) q y := Eq.trans rfl rfl
theorem SV.len {σ : AS} {sv : AV} {st : List Int} (h : SV σ sv st) (K : AV → Prop) : alen Tryz.prog 25 sv K = K (.int .i64 (st.length : Int)) := by
 rcases h with ⟨rfl, rfl⟩ | ⟨g, b, rfl, _⟩
 ·simp
 ·simp [intsA]
theorem SV.last {σ : AS} {sv : AV} {st : List Int} (h : SV σ sv st) (hn : 0 < st.length) : ∃ φ v, Readable σ.F φ ∧ st.getLast? = some v ∧ ∀ (n : Int), n = (st.length : Int) - 1 → ∀ K : AV → Prop, aindexAddr Tryz.prog 25 sv (.int .i64 n) K = K (.pv φ (.int .i64 v)) := by
 rcases h with ⟨rfl, _⟩ | ⟨g, b, rfl, _, hg⟩
 ·simp at hn
 ·refine ⟨.fam g b, st[st.length - 1], hg, by rw [List.getLast?_eq_getElem?, List.getElem?_eq_getElem (by omega)], fun n hn2 K => ?_⟩
  have e : n.toNat = st.length - 1 := by omega
  have h0 : 0 ≤ n := by omega
  have hlt : st.length - 1 < st.length := by omega
  simp [intsA, e, h0, hlt]
theorem IntsV.len {tv : AV} {ts : List Int} (h : IntsV tv ts) (K : AV → Prop) : alen Tryz.prog 25 tv K = K (.int .i64 (ts.length : Int)) := by
 rcases h with ⟨rfl, rfl⟩ | ⟨b, rfl⟩ <;> simp
def TI (x c : Nat) (deep : Int) (o f0 l : Nat) (σN : AS) (ts : List Int) (s0 : St) (a : Nat → AV) (τ : AS) : Prop := ∃ (i : Nat) (s : St), i ≤ ts.length ∧ a 0 = .fn (.yield l) [] [] ∧ a 1 = .ptr o 0 ∧ a 3 = .int .i64 ((i : Int) - 1) ∧ LS τ x c s deep ∧ KeepL x σN τ ∧ s.stack.length ≤ s0.stack.length ∧
 takeE (ts.take i).reverse s = takeE ts.reverse s0
def TM (a : Nat → AV) (_ : AS) : Nat := match a 3 with | .int _ n => (n + 1).toNat | _ => 0
set_option maxRecDepth 20000 in
theorem take_calls {G : Env} {σ : AS} {R : Out → AS → Prop} {x c : Nat} {s : St} {deep : Int} {ts : List Int} {tv : AV} (hv : IntsV tv ts) (hts : ts.length ≤ 2 ^ 40) (L : LS σ x c s deep) (hb : s.stack.length ≤ 2 ^ 40) (h : FinE R x c deep σ (takeE ts.reverse s)) : ACalls Tryz.prog G 97 [.ptr x 0, tv] σ R := by
 obtain ⟨v1, v2, v3⟩ := hv.one
 refine acalls_range (px := pc97_x) (py := pc97_yx) (pa := pc97_yya) (pb := pc97_yyb) mixed Tryz.func97 (n := 33) (res := []) rfl rfl rfl (by kernel_rfl) (by kernel_rfl) (by kernel_rfl) (by kernel_rfl) (by decide) (by simp) ?_
 simp [pc97_x, pc97_yx]
 refine backward_calls v1 v3 ?_
 simp
 generalize hσ2 : (σ.newO [AV.ptr x 0]).newO [tv] = σ2
 have hno2 : σ2.no = σ.no + 2 := by rw [← hσ2]; simp
 have hnf2 : σ2.nf = σ.nf := by rw [← hσ2]; simp
 have A2 : Adds σ σ2 := by rw [← hσ2]; exact (Adds.refl σ).newO.newO
 have hb0 : σ2.objs σ.no = some [.ptr x 0] := by rw [← hσ2]; simp
 have ho0 : σ2.objs (σ.no + 1) = some [tv] := by rw [← hσ2]; simp
 have hxl := L.1
 refine ⟨119, [.ptr (σ.no + 1) 0], by simp, by simp, fun l => ?_⟩
 refine calls119 rfl ?_
 have L2 : LS σ2.newF x c s deep := (L.adds A2).adds (Adds.refl σ2).newF
 have AN : Adds σ σ2.newF := A2.newF
 have hnu : ∀ τ, KeepL x σ2.newF τ → τ.F σ2.nf = .alive := fun τ K => by
  rw [K.fam σ2.nf (by simp) ?_]
  ·simp
  ·rintro ⟨cs, v, e1, e2, e3⟩
   obtain ⟨hx, sv, e4, e5⟩ := L
   have : σ2.newF.objs x = some [.ptr c 0, sv, .bool s.any, .int .i64 deep] := (AN.obj x hx).trans e4
   rw [this] at e1
   cases e1
   simp at e2
   subst e2
   rcases e5 with ⟨_, rfl⟩ | ⟨g, b, rfl, hg, _⟩
   ·simp [famOf] at e3
   ·simp [famOf] at e3; omega
 -- a state behind the loop
 have back : ∀ τ, KeepL x σ2.newF τ → KeepL x σ { τ with F := upd τ.F σ2.nf .dead } := by
  intro τ K
  have K' := (AN.keepL hxl).trans K
  exact ⟨K'.no, K'.nf, K'.obj, fun f hf hu => by simp only [upd]; rw [if_neg (by omega)]; exact K'.fam f hf hu, K'.use⟩
 have backL : ∀ τ s', KeepL x σ2.newF τ → LS τ x c s' deep → LS { τ with F := upd τ.F σ2.nf .dead } x c s' deep := by
  intro τ s' K ⟨e1, sv, e2, e3⟩
  refine ⟨e1, sv, e2, ?_⟩
  rcases e3 with e3 | ⟨g, b, e4, e5, e6⟩
  ·exact .inl e3
  ·refine .inr ⟨g, b, e4, e5, ?_⟩
   have hne : g ≠ σ2.nf := by
    rintro rfl
    have u : UsesL τ x σ2.nf := ⟨_, _, e2, rfl, by rw [e4]; rfl⟩
    obtain ⟨cs, v, q1, q2, q3⟩ := K.use σ2.nf (by simp) u
    obtain ⟨hx, sv', q4, q5⟩ := L2
    rw [q4] at q1
    cases q1
    simp at q2
    subst q2
    rcases q5 with ⟨_, rfl⟩ | ⟨g', b', rfl, hg', _⟩
    ·simp [famOf] at q3
    ·obtain ⟨hx1, sv1, p1, p2⟩ := L
     have : σ2.newF.objs x = some [.ptr c 0, sv1, .bool s.any, .int .i64 deep] := (AN.obj x hx1).trans p1
     rw [q4] at this
     simp at this
     subst this
     rcases p2 with ⟨_, p3⟩ | ⟨g2, b2, p3, p4, _⟩
     ·cases p3
     ·simp at p3; simp [famOf] at q3; omega
   simp only [upd]; rw [if_neg hne]; exact e6
 have ho1 : σ2.newF.objs (σ.no + 1) = some [tv] := by simpa using ho0
 have hw0 : IntKind.wrap .i64 ((ts.length : Int) - 1) = (ts.length : Int) - 1 := by rw [wrap_i64] <;> omega
 have start : ∀ a, TI x c deep (σ.no + 1) σ2.nf l σ2.newF ts s a σ2.newF → ALoop Tryz.prog (Env.under G Tryz.prog 33 pc97_yya pc97_yyb [9, 10] σ2.nf (upd (upd (upd (frame0 [AV.ptr x 0, tv]) 2 (AV.ptr σ.no 0)) 7 tv) 8 (AV.fn (Fn.func 119) [] [AV.ptr (σ.no + 1) 0])) l) 19 pc119_l1
   (ablock 0 (afin Tryz.prog [] fun o σ' => match o with
    | .ret v => σ'.F σ2.nf = .alive ∧ R (.ret (.tuple [])) { σ' with F := upd σ'.F σ2.nf .dead }
    | .panic v => R (.panic v) σ')) a σ2.newF := by
  intro a hI
  refine aloop (TI x c deep (σ.no + 1) σ2.nf l σ2.newF ts s) TM hI fun a τ hI => ?_
  obtain ⟨i, s1, hi, a0, a1, a3, L1, K1, hle, hq⟩ := hI
  have hal := hnu τ K1
  have hob : τ.objs (σ.no + 1) = some [tv] := by
   rw [K1.obj (σ.no + 1) (by simp; omega) (by omega)]; exact ho1
  have hob0 : τ.objs σ.no = some [.ptr x 0] := by
   rw [K1.obj σ.no (by simp; omega) (by omega)]; simpa using hb0
  cases i with
  | zero =>
   simp [takeE] at hq
   rw [← hq] at h
   simp [pc119_l1, a3]
   exact ⟨hal, h _ (back τ K1) (backL τ s1 K1 L1)⟩
  | succ j =>
   have hj : j < ts.length := by omega
   rcases hv with ⟨rfl, _⟩ | ⟨b, rfl⟩
   ·simp at hj
   have hrev : (ts.take (j + 1)).reverse = ts[j] :: (ts.take j).reverse := by rw [List.take_succ_eq_append_getElem hj, List.reverse_append]; rfl
   rw [hrev, takeE_cons] at hq
   obtain ⟨hx1, sv1, hs1, hs2⟩ := L1
   have L1' : LS τ x c s1 deep := ⟨hx1, sv1, hs1, hs2⟩
   have hf0 := hal
   have hsl := hs2.len
   have hwj : IntKind.wrap .i64 ((j : Int) - 1) = (j : Int) - 1 := by rw [wrap_i64] <;> omega
   have next : ∀ (a' : Nat → AV) (τ' : AS) (s' : St), KeepL x τ τ' → LS τ' x c s' deep → takeE (ts.take j).reverse s' = takeE ts.reverse s → s'.stack.length ≤ s1.stack.length → a' 0 = .fn (.yield l) [] [] → a' 1 = .ptr (σ.no + 1) 0 → a' 3 = .int .i64 ((j : Int) - 1) →
     TI x c deep (σ.no + 1) σ2.nf l σ2.newF ts s a' τ' ∧ TM a' τ' < TM a τ := by
    intro a' τ' s' K' L' e' l' b0 b1 b3
    refine ⟨⟨j, s', by omega, b0, b1, b3, L', K1.trans K', by omega, e'⟩, ?_⟩
    simp only [TM, a3, b3]
    omega
   by_cases hn : s1.stack.length = 0
   ·have hn' : s1.stack = [] := List.length_eq_zero_iff.1 hn
    rw [if_pos (.inl hn)] at hq
    simp [pc119_l1, a0, a1, a3, hob, hj, pc97_yya, pc97_yyb, hal, hob0, hs1, hsl, hn']
    refine must_calls (fun _ => ?_) (fun q => by simp at q)
    simp [hob0]
    refine drop_calls L1' (by omega) ?_
    cases hd : dropE s1 with
    | ok s' =>
     rw [hd] at hq
     intro τ' K' L'
     simp [hal, hnu τ' (K1.trans K'), a0, a1, a3, hwj]
     exact next _ τ' s' K' L' hq (dropE_le hd) (by simp [a0]) (by simp [a1]) (by simp)
    | error e =>
     rw [hd] at hq
     simp only at hq
     rw [← hq] at h
     intro τ' K'
     simp [hal, hnu τ' (K1.trans K')]
     exact h _ (back τ' (K1.trans K'))
   ·obtain ⟨φ, v, hrd, hlast, hix⟩ := hs2.last (by omega)
    have hix' := hix _ rfl
    have hw1 : IntKind.wrap .i64 ((s1.stack.length : Int) - 1) = (s1.stack.length : Int) - 1 := by rw [wrap_i64] <;> omega
    have hne : ¬ s1.stack = [] := fun q => hn (by rw [q]; rfl)
    by_cases hvt : v = ts[j]
    ·rw [if_pos (.inr (by rw [hlast, hvt]))] at hq
     subst hvt
     simp [pc119_l1, a0, a1, a3, hob, hj, pc97_yya, pc97_yyb, hal, hob0, hs1, hsl, hne, hix', hw1, hrd]
     refine must_calls (fun _ => ?_) (fun q => by simp at q)
     simp [hob0]
     refine drop_calls L1' (by omega) ?_
     cases hd : dropE s1 with
     | ok s' =>
      rw [hd] at hq
      intro τ' K' L'
      simp [hal, hnu τ' (K1.trans K'), a0, a1, a3, hwj]
      exact next _ τ' s' K' L' hq (dropE_le hd) (by simp [a0]) (by simp [a1]) (by simp)
     | error e =>
      rw [hd] at hq
      simp only at hq
      rw [← hq] at h
      intro τ' K'
      simp [hal, hnu τ' (K1.trans K')]
      exact h _ (back τ' (K1.trans K'))
    ·rw [if_neg (by rintro (q | q); exact hn q; rw [hlast] at q; exact hvt (Option.some.inj q))] at hq
     rw [← hq] at h
     simp [pc119_l1, a0, a1, a3, hob, hj, pc97_yya, pc97_yyb, hal, hob0, hs1, hsl, hne, hix', hw1, hrd, hvt]
     refine must_calls (fun q => by simp at q) (fun _ => ?_)
     simp [hal]
     exact h _ (back τ K1)
 simp [pc119, ho1, hv.len, hw0]
 exact start _ ⟨ts.length, s, Nat.le_refl _, by simp, by simp, by simp, L2, .refl _ _, Nat.le_refl _, by rw [List.take_length]⟩
end Go.Proofs.YthifgodgfhbnfaaGreatDoor
set_option linter.unusedSimpArgs false
set_option linter.unusedVariables false
namespace Go.Proofs.YthifgodgfhbnfaaGreatDoor
open Go Go.Abs
def CkAt (σ : AS) (c : Nat) (m : M) (f : F) (ls : List Int) : Prop := c < σ.no ∧ ∃ fsv pv lv tv sv, σ.objs c = some [fsv, .int .i64 m.memory, .int .i64 m.main, .str f.name, pv, lv, .int .i64 f.type, tv, sv] ∧ FsV fsv m.funcs ∧ IntsV pv f.params ∧ IntsV lv f.locals ∧ ListsV tv f.lists ∧ IntsV sv ls
theorem CkAt.adds {σ σ' c m f ls} (h : CkAt σ c m f ls) (A : Adds σ σ') : CkAt σ' c m f ls := by
 obtain ⟨hc, fsv, pv, lv, tv, sv, ho, r⟩ := h
 exact ⟨Nat.lt_of_lt_of_le hc A.no, fsv, pv, lv, tv, sv, (A.obj c hc).trans ho, r⟩
theorem CkAt.keep {σ σ' x c m f ls} (h : CkAt σ c m f ls) (K : KeepL x σ σ') (hx : c ≠ x) : CkAt σ' c m f ls := by
 obtain ⟨hc, fsv, pv, lv, tv, sv, ho, r⟩ := h
 exact ⟨Nat.lt_of_lt_of_le hc K.no, fsv, pv, lv, tv, sv, (K.obj c hc hx).trans ho, r⟩
theorem FsV.len {fv : AV} {fs : List F} (h : FsV fv fs) (K : AV → Prop) : alen Tryz.prog 22 fv K = K (.int .i64 (fs.length : Int)) := by
 rcases h with ⟨rfl, rfl⟩ | ⟨b, rows, rfl, hr⟩
 ·simp
 ·simp [hr.length]
theorem ListsV.len {tv : AV} {ls : To} (h : ListsV tv ls) (K : AV → Prop) : alen Tryz.prog 39 tv K = K (.int .i64 (ls.length : Int)) := by
 rcases h with ⟨rfl, rfl⟩ | ⟨b, rows, rfl, hr⟩
 ·simp
 ·simp [hr.length]
theorem RepL.len {v : AV} {l : List W} (h : RepL v l) (K : AV → Prop) : alen Tryz.prog 42 v K = K (.int .i64 (l.length : Int)) := by
 rcases h with ⟨rfl, rfl⟩ | ⟨b, rfl⟩ <;> simp
theorem returns_calls {G : Env} {σ : AS} {R : Out → AS → Prop} {x c : Nat} {s : St} {deep : Int} {m : M} {f : F} {ls : List Int} (L : LS σ x c s deep) (C : CkAt σ c m f ls) (hb : s.stack.length ≤ 2 ^ 40) (h : FinE R x c deep σ (returnsE f.type s)) : ACalls Tryz.prog G 77 [.ptr x 0] σ R := by
 refine calls77 rfl ?_
 obtain ⟨hc, fsv, pv, lv, tv, lsv, hco, _⟩ := C
 obtain ⟨hx, sv, ho, hs⟩ := L
 unfold returnsE at h
 by_cases ht : f.type = 0
 ·rw [if_pos ht] at h
  simp [pc77, ho, hco, ht]
  exact h σ (.refl _ _) ⟨hx, sv, ho, hs⟩
 ·rw [if_neg ht] at h
  simp [pc77, ho, hco, ht]
  refine take_calls (ts := [f.type]) (.inr ⟨_, rfl⟩) (by simp) ⟨hx, sv, ho, hs⟩ hb ?_
  have e : [f.type].reverse = [f.type] := rfl
  rw [e]
  revert h
  cases takeE [f.type] s with
  | ok s' => intro h σ' K L; simp; exact h σ' K L
  | error e => intro h σ' K; simp; exact h σ' K
theorem form_calls {G : Env} (V : Vars G) {σ : AS} {R : Out → AS → Prop} {w : W} (h : ∀ σ', Adds σ σ' → R (.ret (.bool (formB w))) σ') : ACalls Tryz.prog G 95 [w.av] σ R := by
 refine calls95 rfl ?_
 unfold formB at h
 have A : Adds σ (σ.newO w.cs) := (Adds.refl σ).newO
 simp only [W.cs] at A
 by_cases h1 : w.op = 1
 ·rw [if_pos (.inl h1)] at h
  simp [pc95, W.av, W.cs, h1]
  refine number_calls ?_
  simp
  simpa [h1] using h _ A
 by_cases h5 : w.op = 5
 ·rw [if_pos (.inr h5)] at h
  simp [pc95, W.av, W.cs, h5]
  refine number_calls ?_
  simp
  simpa [h5] using h _ A
 rw [if_neg (by omega)] at h
 by_cases h4 : w.op = 4
 ·rw [if_pos h4] at h
  simp [pc95, W.av, W.cs, h4]
  refine number_calls ?_
  cases hn : numberB w.ty with
  | false =>
   rw [hn] at h
   simp
   simpa [h4] using h _ A
  | true =>
   rw [hn] at h
   simp
   refine sign_calls V fun σ1 A1 => ?_
   simp
   have := h _ ((by simpa [h4] using A : Adds σ _).trans A1)
   cases hq : signOf signs w.name with
   | nil => rw [hq] at this; simpa using this
   | cons a l => rw [hq] at this; simpa using this
 rw [if_neg h4] at h
 by_cases h8 : w.op = 8
 ·rw [if_pos (.inl h8)] at h
  simp [pc95, W.av, W.cs, h8]
  refine bytes_calls ?_
  simp
  simpa [h8] using h _ A
 by_cases h9 : w.op = 9
 ·rw [if_pos (.inr h9)] at h
  simp [pc95, W.av, W.cs, h9]
  refine bytes_calls ?_
  simp
  simpa [h9] using h _ A
 rw [if_neg (by omega)] at h
 by_cases k1 : 1 ≤ w.op
 ·by_cases k2 : w.op ≤ 18
  ·simp [k1, k2] at h
   simp [pc95, W.av, W.cs, h1, h5, h4, h8, h9, k1, k2]
   exact h _ A
  ·simp [k1, k2] at h
   simp [pc95, W.av, W.cs, h1, h5, h4, h8, h9, k1, k2]
   exact h _ A
 ·simp [k1] at h
  simp [pc95, W.av, W.cs, h1, h5, h4, h8, h9, k1]
  exact h _ A
def HeadV (v : AV) (r : Option (List Int × Int)) : Prop := match r with
 | some (ts, g) => ∃ tv, v = .tuple [.agg [tv, .int .i64 g], .bool true] ∧ IntsV tv ts
 | none => v = .tuple [.agg [.nilsl, .int .i64 0], .bool false]
theorem headOf_calls {G : Env} {σ : AS} {R : Out → AS → Prop} {mv : AV} {m : M} {n : Int} (hm : MV mv m) (hb : n ≤ 2 ^ 63 - 1) (h : ∀ v σ', HeadV v (headOf m.funcs n) → Adds σ σ' → R (.ret v) σ') : ACalls Tryz.prog G 110 [mv, .int .i64 n] σ R := by
 refine calls110 rfl ?_
 obtain ⟨fv, rfl, hf⟩ := hm
 unfold headOf at h
 have A0 : ∀ c1 c2 c3 : List AV, Adds σ (((σ.newO c1).newO c2).setO (σ.no + 1) c3) := fun _ _ _ => ((Adds.refl σ).newO.newO).setO (by omega)
 by_cases n0 : n = 0
 ·rw [if_pos n0] at h
  simp [pc110, n0, splice]
  exact h _ _ ⟨_, rfl, .inl ⟨rfl, rfl⟩⟩ (A0 _ _ _)
 rw [if_neg n0] at h
 by_cases n1 : n = 1
 ·rw [if_pos n1] at h
  simp [pc110, n1, splice]
  exact h _ _ ⟨_, rfl, .inr ⟨_, rfl⟩⟩ (A0 _ _ _)
 rw [if_neg n1] at h
 by_cases n2 : n = 2
 ·rw [if_pos n2] at h
  simp [pc110, n2, splice]
  exact h _ _ ⟨_, rfl, .inr ⟨_, rfl⟩⟩ (A0 _ _ _)
 rw [if_neg n2] at h
 by_cases n3 : n < 0
 ·rw [if_pos n3] at h
  simp [pc110, n0, n1, n2, n3, splice]
  exact h _ _ rfl (A0 _ _ _)
 rw [if_neg n3] at h
 have hw : IntKind.wrap .i64 (n - 3) = n - 3 := by rw [wrap_i64] <;> omega
 have hl := hf.len
 by_cases n4 : (m.funcs.length : Int) ≤ n - 3
 ·have e : m.funcs[(n - 3).toNat]? = none := List.getElem?_eq_none (by omega)
  rw [e] at h
  simp [pc110, n0, n1, n2, n3, n4, splice, hl, hw]
  exact h _ _ rfl (A0 _ _ _)
 ·rcases hf with ⟨e0, rfl⟩ | ⟨b, rows, rfl, hr⟩
  ·rw [e0] at n4; simp at n4; omega
  have hlt : (n - 3).toNat < m.funcs.length := by omega
  have hg : m.funcs[(n - 3).toNat]? = some m.funcs[(n - 3).toNat] := List.getElem?_eq_getElem hlt
  obtain ⟨row, hrow, pv, lv, tv, rfl, hp, hlv, htv⟩ := hr.get hg
  rw [hg] at h
  have h3 : 0 ≤ n - 3 := by omega
  have p1 := hp.one
  simp [pc110, n0, n1, n2, n3, n4, splice, hl, hw, hrow, h3, p1]
  refine ⟨by omega, ⟨hlv.one.2.1, htv.one.2.1⟩, h _ _ ⟨_, rfl, hp⟩ ?_⟩
  exact (((Adds.refl σ).newO.newO.newO).setO (by omega)).setO (by omega)
theorem ranged_calls {G : Env} {σ : AS} {R : Out → AS → Prop} {x c : Nat} {s : St} {deep : Int} {m : M} {f : F} {ls : List Int} {w : W} (L : LS σ x c s deep) (C : CkAt σ c m f ls) (hb : w.n ≤ 2 ^ 63 - 1) (h : ∀ σ', Adds σ σ' → R (.ret (.bool (rangedB m.funcs ls deep w))) σ') : ACalls Tryz.prog G 96 [.ptr x 0, w.av] σ R := by
 refine calls96 rfl ?_
 obtain ⟨hc, fsv, pv, lv, tv, lsv, hco, hfs, hpv, hlv, htv, hls⟩ := C
 obtain ⟨hx, sv, ho, hs⟩ := L
 have A : Adds σ (σ.newO w.cs) := (Adds.refl σ).newO
 simp only [W.cs] at A
 have hx' : x ≠ σ.no := by omega
 have hc' : c ≠ σ.no := by omega
 unfold rangedB at h
 by_cases h1 : w.op = 1
 ·rw [if_pos h1] at h
  simp [pc96, W.av, W.cs, h1]
  refine wrap_calls ?_
  simp
  simpa [h1] using h _ A
 rw [if_neg h1] at h
 by_cases h2 : w.op = 2 ∨ w.op = 3
 ·rw [if_pos h2] at h
  have hl := hls.len
  by_cases k1 : 0 ≤ w.n
  ·by_cases k2 : w.n < (ls.length : Int)
   ·simp [k1, k2] at h
    rcases h2 with h2 | h2 <;> simp [pc96, W.av, W.cs, h1, h2, ho, hco, hx', hc', hl, k1, k2] <;> exact h _ (by simpa [h2] using A)
   ·simp [k1, k2] at h
    rcases h2 with h2 | h2 <;> simp [pc96, W.av, W.cs, h1, h2, ho, hco, hx', hc', hl, k1, k2] <;> exact h _ (by simpa [h2] using A)
  ·simp [k1] at h
   rcases h2 with h2 | h2 <;> simp [pc96, W.av, W.cs, h1, h2, ho, hco, hx', hc', hl, k1] <;> exact h _ (by simpa [h2] using A)
 rw [if_neg h2] at h
 have h2a : ¬ w.op = 2 := fun q => h2 (.inl q)
 have h2b : ¬ w.op = 3 := fun q => h2 (.inr q)
 by_cases h10 : w.op = 10
 ·rw [if_pos h10] at h
  simp [pc96, W.av, W.cs, h10, ho, hco, hx', hc']
  have hx'' : x ≠ σ.no + 1 := by omega
  have hc'' : c ≠ σ.no + 1 := by omega
  have A' : Adds σ (σ.newO [.int .i64 10, .int .i64 w.ty, .int .i64 w.n, .int .i64 w.body, .int .i64 w.other, .str w.name]) := by simpa [h10] using A
  constructor
  ·refine headOf_calls (m := m) ⟨_, rfl, hfs⟩ hb fun v σ1 hv A1 => ?_
   have A2 := A'.trans A1
   cases hq : headOf m.funcs w.n with
   | none =>
    rw [hq] at hv h
    simp only [HeadV] at hv
    subst hv
    simp [splice]
    exact h _ (A2.newO.setO A2.no)
   | some p =>
    rw [hq] at hv h
    obtain ⟨y, rfl, hy⟩ := hv
    have y1 := hy.one
    simp [splice, y1]
    exact h _ (A2.newO.setO A2.no)
  ·simp [ho, hco, hx', hc', hx'', hc'']
   refine headOf_calls (m := m) ⟨_, rfl, hfs⟩ hb fun v σ1 hv A1 => ?_
   have A2 : Adds σ σ1 := (A'.newO).trans A1
   have hnew : σ1.objs (σ.no + 1) = some [.nilsl, .int .i64 0] := (A1.obj (σ.no + 1) (by simp)).trans (by simp)
   cases hq : headOf m.funcs w.n with
   | none =>
    rw [hq] at hv h
    simp only [HeadV] at hv
    subst hv
    simp [splice, hnew]
    exact h _ (A2.setO (by omega))
   | some p =>
    rw [hq] at hv h
    obtain ⟨y, rfl, hy⟩ := hv
    have y1 := hy.one
    simp [splice, y1, hnew]
    exact h _ (A2.setO (by omega))
 rw [if_neg h10] at h
 by_cases h14 : w.op = 14 ∨ w.op = 15
 ·rw [if_pos h14] at h
  by_cases k1 : 0 ≤ w.n
  ·by_cases k2 : w.n ≤ deep
   ·simp [k1, k2] at h
    rcases h14 with h14 | h14 <;> simp [pc96, W.av, W.cs, h14, ho, hco, hx', hc', k1, k2] <;> exact h _ (by simpa [h14] using A)
   ·simp [k1, k2] at h
    rcases h14 with h14 | h14 <;> simp [pc96, W.av, W.cs, h14, ho, hco, hx', hc', k1, k2] <;> exact h _ (by simpa [h14] using A)
  ·simp [k1] at h
   rcases h14 with h14 | h14 <;> simp [pc96, W.av, W.cs, h14, ho, hco, hx', hc', k1] <;> exact h _ (by simpa [h14] using A)
 rw [if_neg h14] at h
 have h14a : ¬ w.op = 14 := fun q => h14 (.inl q)
 have h14b : ¬ w.op = 15 := fun q => h14 (.inr q)
 simp [pc96, W.av, W.cs, h1, h2a, h2b, h10, h14a, h14b]
 exact h _ A
end Go.Proofs.YthifgodgfhbnfaaGreatDoor
set_option linter.unusedSimpArgs false
set_option linter.unusedVariables false
namespace Go.Proofs.YthifgodgfhbnfaaGreatDoor
open Go Go.Abs
@[simp] theorem abin_add_str {P : Program} (t) (x y : List UInt8) {K : AV → Prop} : abin P .add t (.str x) (.str y) K = (x.length + y.length < 2 ^ 62 ∧ K (.str (x ++ y))) := by simp only [abin, strCmp]
theorem Vars.cell {G : Env} (V : Vars G) {M F w} (g : GOk Tryz.prog G M F w) : ∃ m, w.cell? ⟨1, 0, none⟩ = some (.int .i64 m) := by
 obtain ⟨m, hm⟩ := V.max
 have h := g.vars 1
 rw [hm] at h
 cases h with
 | pv φ v B off cs hmem hc hv =>
  have h1 := hc trivial 0 (by simp)
  have h2 := hv trivial 0 (by simp)
  simp at h2
  generalize cs 0 = c at h1 h2
  cases h2
  exact ⟨m, h1⟩
theorem contains_calls {G : Env} (V : Vars G) {s t : List UInt8} {σ : AS} {R : Out → AS → Prop} (hl : s.length < 4294967281) (h : R (.ret (.bool (Lib.contains s t))) σ) : ACalls Tryz.prog G 113 [.str s, .str t] σ R := by
 refine ACalls.of_below fun M w cargs S g hc => ?_
 obtain ⟨m, hm⟩ := V.cell g
 obtain ⟨c0, e0, v0⟩ := hc.2 0 _ rfl
 obtain ⟨c1, e1, v1⟩ := hc.2 1 _ rfl
 obtain ⟨b0, rfl, rfl⟩ := v0.str_inv
 obtain ⟨b1, rfl, rfl⟩ := v1.str_inv
 have hcargs : cargs = #[.string b0, .string b1] := by
  have hsz : cargs.size = 2 := hc.1
  apply Array.ext
  ·simpa using hsz
  ·intro i h1 h2
   match i, h1 with
   | 0, _ => simpa using (Array.getElem?_eq_some_iff.1 e0).2
   | 1, _ => simpa using (Array.getElem?_eq_some_iff.1 e1).2
   | i + 2, h => omega
 rw [hcargs]
 refine (Tryz.strings_Contains b0 b1 m w (by simpa using hl) hm).mono fun e w' ⟨he, hw⟩ => ?_
 subst he hw
 exact ⟨⟨.bool _, _, rfl, fun M F w => .bool _, h⟩, rfl, rfl, rfl, Nat.le_refl _, fun _ _ => rfl⟩
theorem takeE_le : ∀ {ts : List Int} {s s' : St}, takeE ts s = .ok s' → s'.stack.length ≤ s.stack.length
 | [], s, s', h => by simp [takeE] at h; subst h; exact Nat.le_refl _
 | t :: ts, s, s', h => by
  rw [takeE] at h
  split at h
  ·cases hd : dropE s with
   | error e => rw [hd] at h; cases h
   | ok s1 => rw [hd] at h; exact Nat.le_trans (takeE_le h) (dropE_le hd)
  ·cases h
theorem sign_short : ∀ s, signOf signs s ≠ [] → s.length ≤ 5 := by
 have key : ∀ (l : List (List UInt8 × List UInt8)), (∀ p ∈ l, p.1.length ≤ 5) → ∀ s, signOf l s ≠ [] → s.length ≤ 5 := by
  intro l
  induction l with
  | nil => intro _ s h; simp [signOf] at h
  | cons p l ih =>
   intro hp s h
   obtain ⟨x, y⟩ := p
   rw [signOf] at h
   by_cases e : x = s
   ·subst e; exact hp (x, y) (by simp)
   ·rw [if_neg e] at h; exact ih (fun q hq => hp q (by simp [hq])) s h
 exact key signs (by decide)
section
variable {G : Env} {σ : AS} {R : Out → AS → Prop} {x c : Nat} {s : St} {deep : Int} {m : M} {f : F} {ls : List Int} {w : W}
theorem plain_calls (V : Vars G) (L : LS σ x c s deep) (C : CkAt σ c m f ls) (hcx : c ≠ x) (hb : s.stack.length ≤ 2 ^ 39) (hn : w.n ≤ 2 ^ 63 - 1) (hps : ∀ g ∈ m.funcs, g.params.length ≤ 2 ^ 30) (hf : formB w = true) (hr : rangedB m.funcs ls deep w = true)
  (h : FinE R x c deep σ (plainE m.funcs ls w s)) : ACalls Tryz.prog G 100 [.ptr x 0, w.av] σ R := by
 refine calls100 rfl ?_
 have A : Adds σ (σ.newO w.cs) := (Adds.refl σ).newO
 have La := L.adds A
 have Ca := C.adds A
 have Ka := A.keepL L.1
 have hwo : (σ.newO w.cs).objs σ.no = some [.int .i64 w.op, .int .i64 w.ty, .int .i64 w.n, .int .i64 w.body, .int .i64 w.other, .str w.name] := by simp [W.cs]
 have hwl : σ.no < (σ.newO w.cs).no := by simp
 have hxw : σ.no ≠ x := by have := L.1; omega
 simp [pc100, W.av, W.cs]
 rw [show σ.newO [AV.int IntKind.i64 w.op, AV.int IntKind.i64 w.ty, AV.int IntKind.i64 w.n, AV.int IntKind.i64 w.body, AV.int IntKind.i64 w.other, AV.str w.name] = σ.newO w.cs from rfl]
 generalize hσa : σ.newO w.cs = σa at *
 obtain ⟨hc, fsv, pv, lv, tv, lsv, hco, hfs, hpv, hlv, htv, hls⟩ := Ca
 obtain ⟨hx, sv, ho, hs⟩ := La
 have La : LS σa x c s deep := ⟨hx, sv, ho, hs⟩
 -- the ends
 have fin : ∀ r : Res St, FinE R x c deep σ r → FinE (ends (fun v σ' => R (.ret (.tuple [])) σ') fun v σ' => R (.panic v) σ') x c deep σa r := by
  intro r hr
  cases r with
  | ok s' => intro σ' K L'; simp; exact hr σ' (Ka.trans K) L'
  | error e => intro σ' K; simp; exact hr σ' (Ka.trans K)
 unfold plainE at h
 by_cases h1 : w.op = 1
 ·rw [if_pos h1] at h
  simp [h1, hwo]
  refine give_calls La (by omega) fun σ' K L' => ?_
  simp
  exact h σ' (Ka.trans K) L'
 rw [if_neg h1] at h
 by_cases h2 : w.op = 2
 ·rw [if_pos h2] at h
  have hr2 : 0 ≤ w.n ∧ w.n < (ls.length : Int) := by simpa [rangedB, h1, h2] using hr
  rcases hls with ⟨e, _⟩ | ⟨b, rfl⟩
  ·rw [e] at hr2; simp at hr2; omega
  have hlt : w.n.toNat < ls.length := by omega
  have e1 : ls.getD w.n.toNat 0 = ls[w.n.toNat] := by rw [List.getD_eq_getElem?_getD, List.getElem?_eq_getElem hlt]; rfl
  simp [h2, hwo, ho, hco, hr2.1, hlt]
  refine give_calls La (by omega) fun σ' K L' => ?_
  simp
  unfold localAt at h
  rw [e1] at h
  exact h σ' (Ka.trans K) L'
 rw [if_neg h2] at h
 by_cases h3 : w.op = 3
 ·rw [if_pos h3] at h
  have hr2 : 0 ≤ w.n ∧ w.n < (ls.length : Int) := by simpa [rangedB, h1, h2, h3] using hr
  rcases hls with ⟨e, _⟩ | ⟨b, rfl⟩
  ·rw [e] at hr2; simp at hr2; omega
  have hlt : w.n.toNat < ls.length := by omega
  have e1 : ls.getD w.n.toNat 0 = ls[w.n.toNat] := by rw [List.getD_eq_getElem?_getD, List.getElem?_eq_getElem hlt]; rfl
  simp [h3, hwo, ho, hco, hr2.1, hlt]
  unfold localAt at h
  rw [e1] at h
  refine take_calls (ts := [ls[w.n.toNat]]) (.inr ⟨_, rfl⟩) (by simp) La (by omega) ?_
  have e : [ls[w.n.toNat]].reverse = [ls[w.n.toNat]] := rfl
  rw [e]
  revert h
  cases takeE [ls[w.n.toNat]] s with
  | ok s' => intro h σ' K L; simp; exact h σ' (Ka.trans K) L
  | error e => intro h σ' K; simp; exact h σ' (Ka.trans K)
 rw [if_neg h3] at h
 -- takes, and gives
 have tgB : ∀ {R' : Out → AS → Prop} {σb : AS} (Kb : KeepL x σ σb) (Lb : LS σb x c s deep) (o : Nat) (cs : List AV) (ts : List Int) (tv : AV) (t : Int), σb.objs o = some cs → o < σb.no → o ≠ x → IntsV tv ts → ts.length ≤ 2 ^ 30 → FinE R x c deep σ (gives (takeE ts.reverse s) t) →
   (∀ σ1 s1, s1.stack.length ≤ 2 ^ 39 → KeepL x σb σ1 → LS σ1 x c s1 deep → σ1.objs o = some cs → (∀ σ2, KeepL x σ1 σ2 → LS σ2 x c (giveS s1 t) deep → R (.ret (.tuple [])) σ2) → R' (.ret (.tuple [])) σ1) →
   (∀ e σ1, R (.panic (stopV e)) σ1 → R' (.panic (stopV e)) σ1) → ACalls Tryz.prog G 97 [.ptr x 0, tv] σb R' := by
  intro R' σb Kb Lb o cs ts tv t hob hlo hox hv hl hr k1 k2
  refine take_calls hv (by omega) Lb (by omega) ?_
  cases hq : takeE ts.reverse s with
  | error e =>
   rw [hq] at hr
   exact fun σ1 K => k2 e σ1 (hr σ1 (Kb.trans K))
  | ok s1 =>
   rw [hq] at hr
   exact fun σ1 K L' => k1 σ1 s1 (by have := takeE_le hq; omega) K L' ((K.obj o hlo hox).trans hob) fun σ2 K2 L2 => hr σ2 (Kb.trans (K.trans K2)) L2
 have tg : ∀ {R' : Out → AS → Prop} (ts : List Int) (tv : AV) (t : Int), IntsV tv ts → ts.length ≤ 2 ^ 30 → FinE R x c deep σ (gives (takeE ts.reverse s) t) →
   (∀ σ1 s1, s1.stack.length ≤ 2 ^ 39 → KeepL x σa σ1 → LS σ1 x c s1 deep → σ1.objs σ.no = some [.int .i64 w.op, .int .i64 w.ty, .int .i64 w.n, .int .i64 w.body, .int .i64 w.other, .str w.name] → (∀ σ2, KeepL x σ1 σ2 → LS σ2 x c (giveS s1 t) deep → R (.ret (.tuple [])) σ2) → R' (.ret (.tuple [])) σ1) →
   (∀ e σ1, R (.panic (stopV e)) σ1 → R' (.panic (stopV e)) σ1) → ACalls Tryz.prog G 97 [.ptr x 0, tv] σa R' := fun ts tv t hv hl hr k1 k2 => tgB Ka La σ.no _ ts tv t hwo hwl hxw hv hl hr k1 k2
 by_cases h4 : w.op = 4
 ·rw [if_pos h4] at h
  have hsig : w.name.length ≤ 5 := by
   refine sign_short _ fun q => ?_
   simp [formB, h4, q] at hf
  simp [h4, hwo]
  refine tg [w.ty, w.ty] _ _ (.inr ⟨_, rfl⟩) (by simp) h (fun σ1 s1 hb1 K1 L1 hw1 fin1 => ?_) (fun e σ1 hh => by simp; exact hh)
  simp [hw1]
  refine ⟨by omega, by omega, contains_calls V ?_ ?_⟩
  ·decide
  have hcmp : Lib.contains [32, 101, 113, 32, 110, 101, 32, 108, 116, 95, 115, 32, 108, 101, 95, 115, 32, 103, 116, 95, 115, 32, 103, 101, 95, 115, 32] (32 :: (w.name ++ [32])) = cmpB w.name := rfl
  simp [hcmp]
  cases hq : cmpB w.name with
  | true =>
   rw [hq] at fin1
   simp [hw1]
   refine give_calls L1 (by omega) fun σ2 K2 L2 => ?_
   simp
   exact fin1 σ2 K2 L2
  | false =>
   rw [hq] at fin1
   simp [hw1]
   refine give_calls L1 (by omega) fun σ2 K2 L2 => ?_
   simp
   exact fin1 σ2 K2 L2
 rw [if_neg h4] at h
 by_cases h5 : w.op = 5
 ·rw [if_pos h5] at h
  simp [h5, hwo]
  refine tg [w.ty] _ _ (.inr ⟨_, rfl⟩) (by simp) h (fun σ1 s1 hb1 K1 L1 hw1 fin1 => ?_) (fun e σ1 hh => by simp; exact hh)
  simp [hw1]
  refine give_calls L1 (by omega) fun σ2 K2 L2 => ?_
  simp
  exact fin1 σ2 K2 L2
 rw [if_neg h5] at h
 by_cases h6 : w.op = 6
 ·rw [if_pos h6] at h
  simp [h6, hwo]
  refine tg [2] _ _ (.inr ⟨_, rfl⟩) (by simp) h (fun σ1 s1 hb1 K1 L1 hw1 fin1 => ?_) (fun e σ1 hh => by simp; exact hh)
  simp [hw1]
  refine give_calls L1 (by omega) fun σ2 K2 L2 => ?_
  simp
  exact fin1 σ2 K2 L2
 rw [if_neg h6] at h
 by_cases h7 : w.op = 7
 ·rw [if_pos h7] at h
  simp [h7, hwo]
  refine tg [1] _ _ (.inr ⟨_, rfl⟩) (by simp) h (fun σ1 s1 hb1 K1 L1 hw1 fin1 => ?_) (fun e σ1 hh => by simp; exact hh)
  simp [hw1]
  refine give_calls L1 (by omega) fun σ2 K2 L2 => ?_
  simp
  exact fin1 σ2 K2 L2
 rw [if_neg h7] at h
 by_cases h8 : w.op = 8
 ·rw [if_pos h8] at h
  simp [h8, hwo]
  refine tg [1] _ _ (.inr ⟨_, rfl⟩) (by simp) h (fun σ1 s1 hb1 K1 L1 hw1 fin1 => ?_) (fun e σ1 hh => by simp; exact hh)
  simp [hw1]
  refine give_calls L1 (by omega) fun σ2 K2 L2 => ?_
  simp
  exact fin1 σ2 K2 L2
 rw [if_neg h8] at h
 by_cases h9 : w.op = 9
 ·rw [if_pos h9] at h
  simp [h9, hwo]
  refine take_calls (ts := [1, w.ty]) (.inr ⟨_, rfl⟩) (by simp) La (by omega) ?_
  have e : [1, w.ty].reverse = [w.ty, 1] := rfl
  rw [e]
  revert h
  cases takeE [w.ty, 1] s with
  | ok s' => intro h σ' K L; simp; exact h σ' (Ka.trans K) L
  | error e => intro h σ' K; simp; exact h σ' (Ka.trans K)
 rw [if_neg h9] at h
 by_cases h10 : w.op = 10
 ·rw [if_pos h10] at h
  have hh : (headOf m.funcs w.n).isSome = true := by simpa [rangedB, h1, h2, h3, h10] using hr
  obtain ⟨⟨ts, g⟩, hq⟩ := Option.isSome_iff_exists.1 hh
  rw [hq] at h
  simp only at h
  have htl : ts.length ≤ 2 ^ 30 := by
   unfold headOf at hq
   split at hq
   ·cases hq; simp
   ·split at hq
    ·cases hq; simp
    ·split at hq
     ·cases hq; simp
     ·split at hq
      ·cases hq
      ·obtain ⟨fn, hfn, e⟩ := Option.map_eq_some_iff.1 hq
       cases e
       exact hps _ (List.mem_of_getElem? hfn)
  have hcw : c ≠ σa.no := by omega
  have hxw' : x ≠ σa.no := by omega
  simp [h10, hwo, ho, hco]
  constructor
  ·refine headOf_calls (m := m) ⟨_, rfl, hfs⟩ hn fun v σ1 hv A1 => ?_
   rw [hq] at hv
   obtain ⟨y, rfl, hy⟩ := hv
   have y1 := hy.one
   simp [splice, y1]
   have A2 : Adds σa ((σ1.newO [.nilsl, .int .i64 0]).setO σ1.no [y, .int .i64 g]) := A1.newO.setO A1.no
   have Lb := La.adds A2
   refine tgB (Ka.trans (A2.keepL hx)) Lb σ1.no [y, .int .i64 g] ts y g (by simp) (by simp) (by have := A1.no; omega) hy htl h (fun σ3 s1 hb1 K1 L1 hw1 fin1 => ?_) (fun e σ1 hh => by simp; exact hh)
   simp [hw1]
   refine give_calls L1 (by omega) fun σ2 K2 L2 => ?_
   simp
   exact fin1 σ2 K2 L2
  ·have hx2 : x ≠ σ.no := fun q => hxw q.symm
   simp [ho, hco, hcw, hxw', hwo, show σ.no ≠ σa.no from by omega]
   refine headOf_calls (m := m) ⟨_, rfl, hfs⟩ hn fun v σ1 hv A1 => ?_
   rw [hq] at hv
   obtain ⟨y, rfl, hy⟩ := hv
   have y1 := hy.one
   have hnew : σ1.objs σa.no = some [.nilsl, .int .i64 0] := (A1.obj σa.no (by simp)).trans (by simp)
   simp [splice, y1, hnew]
   have hle : σa.no + 1 ≤ σ1.no := by have := A1.no; simpa using this
   have A2 : Adds σa (σ1.setO σa.no [y, .int .i64 g]) := (((Adds.refl σa).newO).trans A1).setO (Nat.le_refl _)
   have Lb := La.adds A2
   refine tgB (Ka.trans (A2.keepL hx)) Lb σa.no [y, .int .i64 g] ts y g (by simp) (by simp; omega) (fun q => hxw' q.symm) hy htl h (fun σ3 s1 hb1 K1 L1 hw1 fin1 => ?_) (fun e σ1 hh => by simp; exact hh)
   simp [hw1]
   refine give_calls L1 (by omega) fun σ2 K2 L2 => ?_
   simp
   exact fin1 σ2 K2 L2
 rw [if_neg h10] at h
 by_cases h18 : w.op = 18
 ·rw [if_pos h18] at h
  simp [h18, hwo]
  refine drop_calls La (by omega) ?_
  revert h
  cases dropE s with
  | ok s' => intro h σ' K L; simp; exact h σ' (Ka.trans K) L
  | error e => intro h σ' K; simp; exact h σ' (Ka.trans K)
 rw [if_neg h18] at h
 simp [h1, h2, h3, h4, h5, h6, h7, h8, h9, h10, h18, hwo]
 exact h σa Ka La
end
end Go.Proofs.YthifgodgfhbnfaaGreatDoor
set_option linter.unusedSimpArgs false
set_option linter.unusedVariables false
namespace Go.Proofs.YthifgodgfhbnfaaGreatDoor
open Go Go.Abs
def FinU (R : Out → AS → Prop) (σ : AS) : Res Unit → Prop
 | .ok _ => ∀ σ', Adds σ σ' → R (.ret (.tuple [])) σ'
 | .error e => ∀ σ', Adds σ σ' → R (.panic (stopV e)) σ'
def LookOk (G : Env) (m : M) (f : F) (ls : List Int) (B : Int) (lk : Look) : Prop := ∀ (c : Nat) (σ : AS) (at_ deep : Int) (R : Out → AS → Prop), CkAt σ c m f ls → 0 ≤ at_ → at_ < B → 0 ≤ deep → deep + at_ ≤ 2 ^ 40 → FinU R σ (lk at_ deep) → ACalls Tryz.prog G 53 [.ptr c 0, .int .i64 at_, .int .i64 deep] σ R
section
variable {G : Env} {σ : AS} {R : Out → AS → Prop} {x c : Nat} {s : St} {deep : Int} {m : M} {f : F} {ls : List Int} {w : W} {lk : Look} {B : Int}
set_option maxRecDepth 20000 in
theorem instr_calls (V : Vars G) (IH : LookOk G m f ls B lk) (L : LS σ x c s deep) (C : CkAt σ c m f ls) (hcx : c ≠ x) (hb : s.stack.length ≤ 2 ^ 38) (hd0 : 0 ≤ deep) (hd1 : deep ≤ 2 ^ 40) (hn : w.n ≤ 2 ^ 63 - 1) (hps : ∀ g ∈ m.funcs, g.params.length ≤ 2 ^ 30)
  (hnm : ∀ n ∈ namesL w, 0 ≤ n ∧ n < B ∧ deep + 1 + n ≤ 2 ^ 40) (h : FinE R x c deep σ (instrE m.funcs ls f.type deep lk w s)) : ACalls Tryz.prog G 76 [.ptr x 0, w.av] σ R := by
 refine calls76 rfl ?_
 have A : Adds σ (σ.newO w.cs) := (Adds.refl σ).newO
 have La := L.adds A
 have Ca := C.adds A
 have Ka := A.keepL L.1
 have hwo : (σ.newO w.cs).objs σ.no = some [.int .i64 w.op, .int .i64 w.ty, .int .i64 w.n, .int .i64 w.body, .int .i64 w.other, .str w.name] := by simp [W.cs]
 have hwl : σ.no < (σ.newO w.cs).no := by simp
 have hxw : σ.no ≠ x := by have := L.1; omega
 have hcs : w.cs = [.int .i64 w.op, .int .i64 w.ty, .int .i64 w.n, .int .i64 w.body, .int .i64 w.other, .str w.name] := rfl
 simp [pc76, W.av, hcs]
 rw [show σ.newO [AV.int IntKind.i64 w.op, AV.int IntKind.i64 w.ty, AV.int IntKind.i64 w.n, AV.int IntKind.i64 w.body, AV.int IntKind.i64 w.other, AV.str w.name] = σ.newO w.cs from rfl]
 rw [show AV.agg [AV.int IntKind.i64 w.op, AV.int IntKind.i64 w.ty, AV.int IntKind.i64 w.n, AV.int IntKind.i64 w.body, AV.int IntKind.i64 w.other, AV.str w.name] = w.av from rfl]
 generalize σ.newO w.cs = σa at *
 unfold instrE at h
 refine form_calls V fun σ1 A1 => ?_
 cases hf : formB w with
 | false =>
  rw [if_pos hf] at h
  simp
  refine must_calls (fun q => by simp at q) fun _ => ?_
  simp
  exact h _ (Ka.trans (A1.keepL La.1))
 | true =>
 rw [if_neg (by rw [hf]; simp)] at h
 have hw1 := (A1.obj σ.no hwl).trans hwo
 simp
 refine must_calls (fun _ => ?_) (fun q => by simp at q)
 simp [hw1]
 rw [show AV.agg [AV.int IntKind.i64 w.op, AV.int IntKind.i64 w.ty, AV.int IntKind.i64 w.n, AV.int IntKind.i64 w.body, AV.int IntKind.i64 w.other, AV.str w.name] = w.av from rfl]
 refine ranged_calls (La.adds A1) (Ca.adds A1) hn fun σ2 A2 => ?_
 have A12 := A1.trans A2
 cases hr : rangedB m.funcs ls deep w with
 | false =>
  rw [if_pos hr] at h
  simp
  refine must_calls (fun q => by simp at q) fun _ => ?_
  simp
  exact h _ (Ka.trans (A12.keepL La.1))
 | true =>
 rw [if_neg (by rw [hr]; simp)] at h
 have hw2 := (A2.obj σ.no (Nat.lt_of_lt_of_le hwl A1.no)).trans hw1
 have L2 := La.adds A12
 have C2 := Ca.adds A12
 have K2 := Ka.trans (A12.keepL La.1)
 have hwl2 : σ.no < σ2.no := Nat.lt_of_lt_of_le hwl A12.no
 simp
 refine must_calls (fun _ => ?_) (fun q => by simp at q)
 simp [hw2]
 clear A1 A2 hw1 hwo A12 Ka La Ca
 have keepW : ∀ {σ3}, KeepL x σ2 σ3 → σ3.objs σ.no = some [.int .i64 w.op, .int .i64 w.ty, .int .i64 w.n, .int .i64 w.body, .int .i64 w.other, .str w.name] := fun K => (K.obj σ.no hwl2 hxw).trans hw2
 have L2' := L2
 have C2' := C2
 obtain ⟨hc2, fsv, pv, lv, tv, lsv, hco, _⟩ := C2'
 obtain ⟨hx2, sv, ho, _⟩ := L2'
 have hwd : IntKind.wrap .i64 (deep + 1) = deep + 1 := by rw [wrap_i64] <;> omega
 by_cases h11 : w.op = 11 ∨ w.op = 12
 ·rw [if_pos h11] at h
  have hnn : namesL w = [w.body] := by unfold namesL; rw [if_pos (by omega)]
  rw [hnn] at hnm
  have hb0 := hnm w.body (by simp)
  have go : FinU (ends (fun v σ' => R (.ret (.tuple [])) σ') fun v σ' => R (.panic v) σ') σ2 (lk w.body (deep + 1)) := by
   cases hq : lk w.body (deep + 1) with
   | ok u => rw [hq] at h; intro σ3 A3; simp; exact h σ3 (K2.trans (A3.keepL hx2)) (L2.adds A3)
   | error e => rw [hq] at h; intro σ3 A3; simp; exact h σ3 (K2.trans (A3.keepL hx2))
  rcases h11 with h11 | h11
  ·simp [h11, hw2, ho, hco, hwd]
   refine IH c σ2 w.body (deep + 1) _ C2 hb0.1 hb0.2.1 (by omega) hb0.2.2 ?_
   revert go
   cases lk w.body (deep + 1) with
   | ok u => intro go σ3 A3; have := go σ3 A3; simpa using this
   | error e => intro go σ3 A3; have := go σ3 A3; simpa using this
  ·simp [h11, hw2, ho, hco, hwd]
   refine IH c σ2 w.body (deep + 1) _ C2 hb0.1 hb0.2.1 (by omega) hb0.2.2 ?_
   revert go
   cases lk w.body (deep + 1) with
   | ok u => intro go σ3 A3; have := go σ3 A3; simpa using this
   | error e => intro go σ3 A3; have := go σ3 A3; simpa using this
 rw [if_neg h11] at h
 have h11a : ¬ w.op = 11 := fun q => h11 (.inl q)
 have h11b : ¬ w.op = 12 := fun q => h11 (.inr q)
 by_cases h13 : w.op = 13
 ·rw [if_pos h13] at h
  simp [h13, hw2]
  refine take_calls (ts := [1]) (.inr ⟨_, rfl⟩) (by simp) L2 (by omega) ?_
  rw [show [(1 : Int)].reverse = [1] from rfl]
  cases ht : takeE [1] s with
  | error e =>
   rw [ht] at h
   intro σ3 K3
   simp
   exact h σ3 (K2.trans K3)
  | ok s1 =>
   rw [ht] at h
   simp only at h
   intro σ3 K3 L3
   have C3 := C2.keep K3 hcx
   have hw3 := keepW K3
   have hwl3 : σ.no < σ3.no := Nat.lt_of_lt_of_le hwl2 K3.no
   have C3' := C3
   have L3' := L3
   obtain ⟨hc3, fsv3, pv3, lv3, tv3, lsv3, hco3, _⟩ := C3'
   obtain ⟨hx3, sv3, ho3, _⟩ := L3'
   have hb0 : 0 ≤ w.body ∧ w.body < B ∧ deep + 1 + w.body ≤ 2 ^ 40 := hnm w.body (by
    unfold namesL
    by_cases ho : w.other < 0
    ·rw [if_pos (by omega)]; simp
    ·rw [if_neg (by omega), if_pos h13]; simp)
   simp [hw3, ho3, hco3, hwd]
   refine IH c σ3 w.body (deep + 1) _ C3 hb0.1 hb0.2.1 (by omega) hb0.2.2 ?_
   cases hq : lk w.body (deep + 1) with
   | error e =>
    rw [hq] at h
    intro σ4 A4
    simp
    exact h σ4 (K2.trans (K3.trans (A4.keepL hx3)))
   | ok u =>
    rw [hq] at h
    simp only at h
    intro σ4 A4
    have hw4 := (A4.obj σ.no hwl3).trans hw3
    have ho4 := (A4.obj x hx3).trans ho3
    have hco4 := (A4.obj c hc3).trans hco3
    have L4 := L3.adds A4
    have C4 := C3.adds A4
    by_cases ho : 0 ≤ w.other
    ·rw [if_pos ho] at h
     have hb1 : 0 ≤ w.other ∧ w.other < B ∧ deep + 1 + w.other ≤ 2 ^ 40 := hnm w.other (by unfold namesL; rw [if_neg (by omega), if_pos h13]; simp)
     simp [hw4, ho, ho4, hco4, hwd]
     refine IH c σ4 w.other (deep + 1) _ C4 hb1.1 hb1.2.1 (by omega) hb1.2.2 ?_
     cases hq2 : lk w.other (deep + 1) with
     | error e =>
      rw [hq2] at h
      intro σ5 A5
      simp
      exact h σ5 (K2.trans (K3.trans ((A4.trans A5).keepL hx3)))
     | ok u =>
      rw [hq2] at h
      intro σ5 A5
      simp
      exact h σ5 (K2.trans (K3.trans ((A4.trans A5).keepL hx3))) (L4.adds A5)
    ·rw [if_neg ho] at h
     simp [hw4, ho]
     exact h σ4 (K2.trans (K3.trans (A4.keepL hx3))) L4
 rw [if_neg h13] at h
 by_cases h15 : w.op = 15
 ·rw [if_pos h15] at h
  simp [h15, hw2]
  refine take_calls (ts := [1]) (.inr ⟨_, rfl⟩) (by simp) L2 (by omega) ?_
  rw [show [(1 : Int)].reverse = [1] from rfl]
  cases ht : takeE [1] s with
  | error e =>
   rw [ht] at h
   intro σ3 K3
   simp
   exact h σ3 (K2.trans K3)
  | ok s1 =>
   rw [ht] at h
   simp only at h
   intro σ3 K3 L3
   have hs1 := takeE_le ht
   have C3 := C2.keep K3 hcx
   have hw3 := keepW K3
   have L3' := L3
   obtain ⟨hx3, sv3, ho3, _⟩ := L3'
   by_cases hq : w.n = deep
   ·rw [if_pos hq] at h
    simp [hw3, ho3, hq]
    refine returns_calls L3 C3 (by omega) ?_
    cases hq2 : returnsE f.type s1 with
    | error e =>
     rw [hq2] at h
     intro σ4 K4
     simp
     exact h σ4 (K2.trans (K3.trans K4))
    | ok s2 =>
     rw [hq2] at h
     intro σ4 K4 L4
     have hs2 : s2.stack.length ≤ s1.stack.length := by
      unfold returnsE at hq2
      split at hq2
      ·cases hq2; exact Nat.le_refl _
      ·exact takeE_le hq2
     have C4 := C3.keep K4 hcx
     have C4' := C4
     have L4' := L4
     obtain ⟨hc4, fsv4, pv4, lv4, tv4, lsv4, hco4, _⟩ := C4'
     obtain ⟨hx4, sv4, ho4, _⟩ := L4'
     simp [ho4, hco4]
     refine give_calls L4 (by omega) fun σ5 K5 L5 => ?_
     simp
     exact h σ5 (K2.trans (K3.trans (K4.trans K5))) L5
   ·rw [if_neg hq] at h
    simp [hw3, ho3, hq]
    exact h σ3 (K2.trans K3) L3
 rw [if_neg h15] at h
 have ret : ∀ {R' : Out → AS → Prop}, FinE R' x c deep σ2 (returnsE f.type s) → ACalls Tryz.prog G 77 [.ptr x 0] σ2 R' := fun hh => returns_calls L2 C2 (by omega) hh
 by_cases h14 : w.op = 14
 ·rw [if_pos h14] at h
  by_cases hq : w.n = deep
  ·rw [if_pos hq] at h
   simp [h14, hw2, ho, hq]
   refine ret ?_
   cases hq2 : returnsE f.type s with
   | error e =>
    rw [hq2] at h
    intro σ4 K4
    simp
    exact h σ4 (K2.trans K4)
   | ok s2 =>
    rw [hq2] at h
    intro σ4 K4 L4
    simp
    refine leaves_calls' L4 fun σ5 K5 L5 => ?_
    simp
    exact h σ5 (K2.trans (K4.trans K5)) L5
  ·rw [if_neg hq] at h
   simp [h14, hw2, ho, hq]
   refine leaves_calls' L2 fun σ5 K5 L5 => ?_
   simp
   exact h σ5 (K2.trans K5) L5
 rw [if_neg h14] at h
 by_cases h16 : w.op = 16
 ·rw [if_pos h16] at h
  simp [h16, hw2]
  refine ret ?_
  cases hq2 : returnsE f.type s with
  | error e =>
   rw [hq2] at h
   intro σ4 K4
   simp
   exact h σ4 (K2.trans K4)
  | ok s2 =>
   rw [hq2] at h
   intro σ4 K4 L4
   simp
   refine leaves_calls' L4 fun σ5 K5 L5 => ?_
   simp
   exact h σ5 (K2.trans (K4.trans K5)) L5
 rw [if_neg h16] at h
 by_cases h17 : w.op = 17
 ·rw [if_pos h17] at h
  simp [h17, hw2]
  refine leaves_calls' L2 fun σ5 K5 L5 => ?_
  simp
  exact h σ5 (K2.trans K5) L5
 rw [if_neg h17] at h
 simp [h11a, h11b, h13, h15, h14, h16, h17, hw2]
 rw [show AV.agg [AV.int IntKind.i64 w.op, AV.int IntKind.i64 w.ty, AV.int IntKind.i64 w.n, AV.int IntKind.i64 w.body, AV.int IntKind.i64 w.other, AV.str w.name] = w.av from rfl]
 refine plain_calls V L2 C2 hcx (by omega) hn hps hf hr ?_
 revert h
 cases plainE m.funcs ls w s with
 | ok s' => intro h σ3 K3 L3; simp; exact h σ3 (K2.trans K3) L3
 | error e => intro h σ3 K3; simp; exact h σ3 (K2.trans K3)
end
end Go.Proofs.YthifgodgfhbnfaaGreatDoor
set_option linter.unusedSimpArgs false
set_option linter.unusedVariables false
namespace Go.Proofs.YthifgodgfhbnfaaGreatDoor
open Go Go.Abs
theorem giveS_le (s : St) (t : Int) : (giveS s t).stack.length ≤ s.stack.length + 1 := by unfold giveS; split <;> simp
theorem gives_le {ts : List Int} {s s' : St} {t : Int} (h : gives (takeE ts s) t = .ok s') : s'.stack.length ≤ s.stack.length + 1 := by
 obtain ⟨s1, e, rfl⟩ : ∃ s1, takeE ts s = .ok s1 ∧ s' = giveS s1 t := by
  cases hq : takeE ts s with
  | error e => rw [hq] at h; cases h
  | ok s1 => rw [hq] at h; cases h; exact ⟨s1, rfl, rfl⟩
 have := takeE_le e
 have := giveS_le s1 t
 omega
theorem plainE_le {fs : List F} {ls : List Int} {w : W} {s s' : St} (h : plainE fs ls w s = .ok s') : s'.stack.length ≤ s.stack.length + 1 := by
 unfold plainE at h
 repeat' split at h
 all_goals first
  | (cases h; first | exact giveS_le _ _ | omega)
  | exact gives_le h
  | (have := takeE_le h; omega)
  | (have := dropE_le h; omega)
theorem returnsE_le {ty : Int} {s s' : St} (h : returnsE ty s = .ok s') : s'.stack.length ≤ s.stack.length := by
 unfold returnsE at h
 split at h
 ·cases h; exact Nat.le_refl _
 ·exact takeE_le h
theorem instrE_le {fs : List F} {ls : List Int} {ty deep : Int} {lk : Look} {w : W} {s s' : St} (h : instrE fs ls ty deep lk w s = .ok s') : s'.stack.length ≤ s.stack.length + 1 := by
 unfold instrE at h
 by_cases h1 : formB w = false
 ·rw [if_pos h1] at h; cases h
 rw [if_neg h1] at h
 by_cases h2 : rangedB fs ls deep w = false
 ·rw [if_pos h2] at h; cases h
 rw [if_neg h2] at h
 by_cases h3 : w.op = 11 ∨ w.op = 12
 ·rw [if_pos h3] at h
  split at h
  ·cases h; omega
  ·cases h
 rw [if_neg h3] at h
 by_cases h4 : w.op = 13
 ·rw [if_pos h4] at h
  split at h
  ·cases h
  ·rename_i s1 hs1
   have := takeE_le hs1
   split at h
   ·cases h
   ·split at h
    ·split at h
     ·cases h
     ·cases h; omega
    ·cases h; omega
 rw [if_neg h4] at h
 by_cases h5 : w.op = 15
 ·rw [if_pos h5] at h
  split at h
  ·cases h
  ·rename_i s1 hs1
   have := takeE_le hs1
   split at h
   ·cases hq : returnsE ty s1 with
    | error e => rw [hq] at h; cases h
    | ok s2 =>
     rw [hq] at h
     cases h
     have := returnsE_le hq
     have := giveS_le s2 ty
     omega
   ·cases h; omega
 rw [if_neg h5] at h
 have hl : leftS.stack.length = 0 := rfl
 by_cases h6 : w.op = 14
 ·rw [if_pos h6] at h
  split at h
  ·split at h
   ·cases h
   ·cases h; omega
  ·cases h; omega
 rw [if_neg h6] at h
 by_cases h7 : w.op = 16
 ·rw [if_pos h7] at h
  split at h
  ·cases h
  ·cases h; omega
 rw [if_neg h7] at h
 by_cases h8 : w.op = 17
 ·rw [if_pos h8] at h; cases h; omega
 rw [if_neg h8] at h
 exact plainE_le h
structure Small (m : M) : Prop where
 funcs : m.funcs.length ≤ 2 ^ 20
 params : ∀ f ∈ m.funcs, f.params.length ≤ 2 ^ 20
 locals : ∀ f ∈ m.funcs, f.locals.length ≤ 2 ^ 20
 lists : ∀ f ∈ m.funcs, f.lists.length ≤ 2 ^ 20
 rows : ∀ f ∈ m.funcs, ∀ l ∈ f.lists, l.length ≤ 2 ^ 20
 nums : ∀ f ∈ m.funcs, ∀ l ∈ f.lists, ∀ w ∈ l, w.n ≤ 2 ^ 63 - 1
theorem KeepL.made {x : Nat} {σ σ' : AS} {cs : List AV} (K : KeepL x (σ.newO cs) σ') (hx : x = σ.no) (hn : ∀ v f, cs[1]? = some v → famOf v ≠ some f) : Adds σ σ' where
 no := Nat.le_trans (by simp) K.no
 nf := by have := K.nf; simpa using this
 obj o ho := by
  rw [K.obj o (by simp; omega) (by omega)]
  simp; omega
 fam f hf := by
  rw [K.fam f (by simpa using hf) ?_]
  ·rfl
  ·rintro ⟨cs', v, h1, h2, h3⟩
   subst hx
   simp at h1
   subst h1
   exact hn v f h2 h3
def KI (x c : Nat) (deep : Int) (rv : AV) (row : List W) (σ1 : AS) (run : List W → St → Res St) (a : Nat → AV) (τ : AS) : Prop := ∃ (i : Nat) (s : St), i ≤ row.length ∧ a 2 = .int .i64 deep ∧ a 6 = .ptr x 0 ∧ a 20 = rv ∧ a 21 = .int .i64 (row.length : Int) ∧ a 22 = .int .i64 (i : Int) ∧ LS τ x c s deep ∧ KeepL x σ1 τ ∧ s.stack.length ≤ i ∧
 run (row.drop i) s = run row ⟨[], false⟩
theorem RepL.one {v l} (h : RepL v l) : v.known = true ∧ v.one = true ∧ v.cells = [v] := by
 rcases h with ⟨_, rfl⟩ | ⟨b, rfl⟩ <;> simp
theorem RepL.at {v : AV} {l : List W} (h : RepL v l) {i : Nat} (hi : i < l.length) : ∃ b, ∀ K : AV → Prop, aindexAddr Tryz.prog 42 v (.int .i64 (i : Int)) K = K (.pv (.stat b) l[i].av) := by
 rcases h with ⟨rfl, _⟩ | ⟨b, rfl⟩
 ·simp at hi
 ·exact ⟨b, fun K => by simp [hi]⟩
theorem look_ok {G : Env} (V : Vars G) {m : M} (sm : Small m) {f : F} (hfm : f ∈ m.funcs) (ha : Ahead f.lists) (ls : List Int) : ∀ k : Nat, LookOk G m f ls (min (k : Int) (f.lists.length : Int)) (lookE m.funcs ls f.type f.lists k)
 | 0 => fun c σ at_ deep R _ h0 h1 => by omega
 | k + 1 => by
  have IH := look_ok V sm hfm ha ls k
  intro c σ at_ deep R C h0 h1 hd0 hd1 h
  refine calls53 rfl ?_
  rw [lookE] at h
  obtain ⟨j, rfl⟩ : ∃ j : Nat, at_ = (j : Int) := ⟨at_.toNat, by omega⟩
  have hj : j < f.lists.length := by omega
  have hjk : j < k + 1 := by omega
  rw [Int.toNat_natCast] at h
  have hrow : f.lists.getD j [] = f.lists[j] := by rw [List.getD_eq_getElem?_getD, List.getElem?_eq_getElem hj]; rfl
  rw [hrow] at h
  have hahead := ha j _ (List.getElem?_eq_getElem hj)
  have hrl := sm.rows f hfm f.lists[j] (List.getElem_mem hj)
  have hnums := sm.nums f hfm f.lists[j] (List.getElem_mem hj)
  have C0 := C
  obtain ⟨hc, fsv, pv, lv, tv, lsv, hco, hfs, hpv, hlv, htv, hls⟩ := C
  rcases htv with ⟨e, _⟩ | ⟨b, rows, rfl, hrows⟩
  ·rw [e] at hj; simp at hj
  obtain ⟨rv, hrv, hrep⟩ := hrows.get (List.getElem?_eq_getElem hj)
  generalize f.lists[j] = row at *
  have hlen := hrep.len
  have hcx : c ≠ σ.no := by omega
  simp [pc53, hco, hcx, hrv, hlen, splice]
  refine ⟨hrep.one.2.2, ?_⟩
  generalize hσ1 : σ.newO [AV.ptr c 0, AV.nilsl, AV.bool false, AV.int IntKind.i64 deep] = σ1
  have hno1 : σ1.no = σ.no + 1 := by rw [← hσ1]; simp
  have ho1 : σ1.objs σ.no = some [.ptr c 0, .nilsl, .bool false, .int .i64 deep] := by rw [← hσ1]; simp
  have L1 : LS σ1 σ.no c ⟨[], false⟩ deep := ⟨by omega, _, ho1, .inl ⟨rfl, rfl⟩⟩
  have A1 : Adds σ σ1 := by rw [← hσ1]; exact (Adds.refl σ).newO
  have C1 := C0.adds A1
  have made : ∀ {σ'}, KeepL σ.no σ1 σ' → Adds σ σ' := fun K => by
   rw [← hσ1] at K
   exact K.made rfl fun v f hv hf => by simp at hv; subst hv; simp [famOf] at hf
  refine aloop (KI σ.no c deep rv row σ1 (instrsE m.funcs ls f.type deep (lookE m.funcs ls f.type f.lists k))) (MU 22 (row.length + 1)) ⟨0, ⟨[], false⟩, by omega, by simp, by simp, by simp, by simp, by simp, L1, .refl _ _, by simp, by simp⟩ fun a τ hI => ?_
  obtain ⟨i, s, hi, a2, a6, a20, a21, a22, L, K, hsl, hrun⟩ := hI
  have C2 := C1.keep K hcx
  by_cases hlt : i < row.length
  ·obtain ⟨b2, hix2⟩ := hrep.at hlt
   have hlt' : (i : Int) < (row.length : Int) := by omega
   rw [List.drop_eq_getElem_cons hlt, instrsE] at hrun
   simp [pc53_l1, a6, a20, a21, a22, hlt, hix2, W.av, W.cs, splice]
   have hw3 : IntKind.wrap .i64 ((i : Int) + 1) = ((i + 1 : Nat) : Int) := by rw [wrap_i64] <;> omega
   have hmem := List.getElem_mem hlt
   have A3 : Adds τ ((τ.newO [AV.int IntKind.i64 0, AV.int IntKind.i64 0, AV.int IntKind.i64 0, AV.int IntKind.i64 0, AV.int IntKind.i64 0, AV.str []]).setO τ.no row[i].cs) := ((Adds.refl τ).newO).setO (Nat.le_refl _)
   refine instr_calls (w := row[i]) V IH (L.adds A3) (C2.adds A3) hcx (by omega) hd0 (by omega) (hnums _ hmem) (fun g hg => by have := sm.params g hg; omega) (fun n hn => ?_) ?_
   ·have := hahead n (List.mem_flatMap.2 ⟨_, hmem, hn⟩)
    exact ⟨this.1, by omega, by omega⟩
   ·have KA := K.trans (A3.keepL L.1)
    cases hq : instrE m.funcs ls f.type deep (lookE m.funcs ls f.type f.lists k) row[i] s with
    | error e =>
     rw [hq] at hrun
     simp only at hrun
     rw [← hrun] at h
     intro σ' K'
     simp
     exact h σ' (made (KA.trans K'))
    | ok s' =>
     rw [hq] at hrun
     simp only at hrun
     have hle := instrE_le hq
     intro σ' K' L'
     simp [a22, hw3]
     refine ⟨⟨i + 1, s', by omega, by simp [a2], by simp [a6], by simp [a20], by simp [a21], by simp, L', KA.trans K', by omega, hrun⟩, ?_⟩
     simp only [MU, a22]
     simp; omega
  ·have he : i = row.length := by omega
   subst he
   simp [instrsE] at hrun
   rw [← hrun] at h
   simp only at h
   have L' := L
   obtain ⟨hx, sv, ho, hs⟩ := L'
   unfold endE at h
   by_cases hdz : deep = 0
   ·rw [if_pos hdz] at h
    simp [pc53_l1, pc53_r1, a2, a6, a21, a22, hdz]
    refine returns_calls (by rw [hdz] at L; exact L) C2 (by omega) ?_
    cases hq : returnsE f.type s with
    | error e =>
     rw [hq] at h
     intro σ' K'
     simp
     exact h σ' (made (K.trans K'))
    | ok s3 =>
     rw [hq] at h
     intro σ' K' L3
     obtain ⟨hx3, sv3, ho3, hs3⟩ := L3
     have hsl3 := hs3.len
     by_cases hz : s3.stack.length = 0
     ·simp only [if_pos hz] at h
      have hz' : s3.stack = [] := List.length_eq_zero_iff.1 hz
      simp [a6, ho3, hsl3, hz']
      refine must_calls (fun _ => ?_) (fun q => by simp at q)
      simp
      exact h σ' (made (K.trans K'))
     ·simp only [if_neg hz] at h
      have hz' : ¬ s3.stack = [] := fun q => hz (by rw [q]; rfl)
      simp [a6, ho3, hsl3, hz']
      refine must_calls (fun q => by simp at q) (fun _ => ?_)
      simp
      exact h σ' (made (K.trans K'))
   ·rw [if_neg hdz] at h
    have hsl3 := hs.len
    by_cases hz : s.stack.length = 0
    ·simp only [if_pos hz] at h
     have hz' : s.stack = [] := List.length_eq_zero_iff.1 hz
     simp [pc53_l1, pc53_r1, a2, a6, a21, a22, hdz, ho, hsl3, hz']
     refine must_calls (fun _ => ?_) (fun q => by simp at q)
     simp
     exact h τ (made K)
    ·simp only [if_neg hz] at h
     have hz' : ¬ s.stack = [] := fun q => hz (by rw [q]; rfl)
     simp [pc53_l1, pc53_r1, a2, a6, a21, a22, hdz, ho, hsl3, hz']
     refine must_calls (fun q => by simp at q) (fun _ => ?_)
     simp
     exact h τ (made K)
end Go.Proofs.YthifgodgfhbnfaaGreatDoor
set_option linter.unusedSimpArgs false
set_option linter.unusedVariables false
namespace Go.Proofs.YthifgodgfhbnfaaGreatDoor
open Go Go.Abs
theorem names_calls {G : Env} {σ : AS} {R : Out → AS → Prop} {w : W} (h : ∀ v σ', IntsV v (namesL w) → Adds σ σ' → R (.ret v) σ') : ACalls Tryz.prog G 74 [w.av] σ R := by
 refine calls74 rfl ?_
 have A : Adds σ (σ.newO w.cs) := (Adds.refl σ).newO
 simp only [W.cs] at A
 unfold namesL at h
 by_cases h1 : w.op = 11
 ·rw [if_pos (.inl h1)] at h
  simp [pc74, W.av, W.cs, h1]
  exact h _ _ (.inr ⟨_, rfl⟩) (by simpa [h1] using A)
 by_cases h2 : w.op = 12
 ·rw [if_pos (.inr (.inl h2))] at h
  simp [pc74, W.av, W.cs, h2]
  exact h _ _ (.inr ⟨_, rfl⟩) (by simpa [h2] using A)
 by_cases h3 : w.op = 13
 ·by_cases ho : w.other < 0
  ·rw [if_pos (.inr (.inr ⟨h3, ho⟩))] at h
   simp [pc74, W.av, W.cs, h3, ho]
   exact h _ _ (.inr ⟨_, rfl⟩) (by simpa [h3] using A)
  ·rw [if_neg (by omega), if_pos h3] at h
   simp [pc74, W.av, W.cs, h3, ho]
   exact h _ _ (.inr ⟨_, rfl⟩) (by simpa [h3] using A)
 ·rw [if_neg (by omega), if_neg h3] at h
  simp [pc74, W.av, W.cs, h1, h2, h3]
  exact h _ _ (.inl ⟨rfl, rfl⟩) A
@[simp] theorem aeq_bool4 (x y : Bool) : aeq Tryz.prog 4 (.bool x) (.bool y) = some (x == y) := by simp [aeq, aeq1, show Tryz.prog.underlying 4 = some .bool from by kernel_rfl]
@[simp] theorem callable49 : callable Tryz.prog 50 = true := by kernel_rfl
def boolsA (l : List Bool) : List AV := l.map AV.bool
def CI (σ : AS) (o len : Nat) (named : List Bool) (a : Nat → AV) (τ : AS) : Prop := ∃ i : Nat, i ≤ len ∧ a 0 = .slm o 0 1 len ∧ a 1 = .bool false ∧ a 7 = .int .i64 (len : Int) ∧ a 8 = .int .i64 (i : Int) ∧ τ = σ ∧ ∀ j, j < i → named[j]? = some true
theorem contains_false {G : Env} {σ : AS} {R : Out → AS → Prop} {o len : Nat} {named : List Bool} (ho : σ.objs o = some (boolsA named)) (hl : len ≤ named.length) (hb : len ≤ 2 ^ 40) (h : R (.ret (.bool (!(named.take len).all (· == true)))) σ) : ACalls Tryz.prog G 75 [.slm o 0 1 len, .bool false] σ R := by
 refine calls75 rfl ?_
 simp [pc75]
 refine calls94 rfl ?_
 simp [pc94]
 refine aloop (CI σ o len named) (MU 8 (len + 1)) ⟨0, by omega, by simp, by simp, by simp, by simp, rfl, fun j hj => by omega⟩ fun a τ hI => ?_
 obtain ⟨i, hi, a0, a1, a7, a8, rfl, hall⟩ := hI
 have hw3 : IntKind.wrap .i64 ((i : Int) + 1) = ((i + 1 : Nat) : Int) := by rw [wrap_i64] <;> omega
 by_cases hlt : i < len
 ·have hlt' : (i : Int) < (len : Int) := by omega
  have hin : i < named.length := by omega
  have hget : (boolsA named)[i]? = some (.bool named[i]) := by simp [boolsA, hin]
  have hge : ∀ q : i < (boolsA named).length, (boolsA named)[i]'q = .bool named[i] := fun q => by rw [List.getElem?_eq_getElem q] at hget; exact Option.some.inj hget
  have hlb : i < (boolsA named).length := by simp [boolsA]; exact hin
  cases hv : named[i] with
  | true =>
   rw [hv] at hget hge
   simp [pc94_l1, a0, a1, a7, a8, hlt, ho, hlb, hge, hw3]
   refine ⟨⟨i + 1, by omega, by simp [a0], by simp [a1], by simp [a7], by simp, rfl, fun j hj => ?_⟩, ?_⟩
   ·by_cases e : j = i
    ·subst e; rw [List.getElem?_eq_getElem hin, hv]
    ·exact hall j (by omega)
   ·simp only [MU, a8]; simp; omega
  | false =>
   rw [hv] at hget hge
   have e : (!(named.take len).all (· == true)) = true := by
    rw [Bool.not_eq_true', List.all_eq_false]
    exact ⟨false, List.mem_iff_getElem.2 ⟨i, by rw [List.length_take]; omega, by rw [List.getElem_take]; exact hv⟩, by simp⟩
   rw [e] at h
   simp [pc94_l1, a0, a1, a7, a8, hlt, ho, hlb, hge]
   exact h
 ·have he : i = len := by omega
  subst he
  have e : (!(named.take i).all (· == true)) = false := by
   rw [Bool.not_eq_false', List.all_eq_true]
   intro b hb
   obtain ⟨j, hj, rfl⟩ := List.mem_iff_getElem.1 hb
   rw [List.length_take] at hj
   have := hall j (by omega)
   rw [List.getElem?_eq_getElem (by omega)] at this
   rw [List.getElem_take]
   simp [Option.some.inj this]
  rw [e] at h
  simp [pc94_l1, pc94_r1, a7, a8]
  exact h
def FI (σ : AS) (v : AV) (ls : List Int) (a : Nat → AV) (τ : AS) : Prop := ∃ i : Nat, i ≤ ls.length ∧ a 0 = v ∧ a 1 = .fn (.func 50) [] [] ∧ a 7 = .int .i64 (ls.length : Int) ∧ a 8 = .int .i64 (i : Int) ∧ τ = σ ∧ ∀ j, j < i → ∃ t, ls[j]? = some t ∧ numberB t = true
theorem containsFunc_calls {G : Env} {σ : AS} {R : Out → AS → Prop} {v : AV} {ls : List Int} (hv : IntsV v ls) (hb : ls.length ≤ 2 ^ 40) (h : R (.ret (.bool (!ls.all numberB))) σ) : ACalls Tryz.prog G 49 [v, .fn (.func 50) [] []] σ R := by
 refine calls49 rfl ?_
 simp [pc49]
 refine calls73 rfl ?_
 simp [pc73, hv.len]
 refine aloop (FI σ v ls) (MU 8 (ls.length + 1)) ⟨0, by omega, by simp, by simp, by simp, by simp, rfl, fun j hj => by omega⟩ fun a τ hI => ?_
 obtain ⟨i, hi, a0, a1, a7, a8, rfl, hall⟩ := hI
 have hw3 : IntKind.wrap .i64 ((i : Int) + 1) = ((i + 1 : Nat) : Int) := by rw [wrap_i64] <;> omega
 by_cases hlt : i < ls.length
 ·rcases hv with ⟨rfl, _⟩ | ⟨b, rfl⟩
  ·simp at hlt
  simp [pc73_l1, a0, a1, a7, a8, hlt]
  refine calls50 rfl ?_
  simp [pc50]
  refine number_calls ?_
  cases hn : numberB ls[i] with
  | true =>
   simp [a8, hw3]
   refine ⟨⟨i + 1, by omega, by simp [a0], by simp [a1], by simp [a7], by simp, rfl, fun j hj => ?_⟩, ?_⟩
   ·by_cases e : j = i
    ·subst e; exact ⟨_, List.getElem?_eq_getElem hlt, hn⟩
    ·exact hall j (by omega)
   ·simp only [MU, a8]; simp; omega
  | false =>
   have e : (!ls.all numberB) = true := by
    rw [Bool.not_eq_true', List.all_eq_false]
    exact ⟨_, List.getElem_mem hlt, by simp [hn]⟩
   rw [e] at h
   simp [a8]
   exact h
 ·have he : i = ls.length := by omega
  subst he
  have e : (!ls.all numberB) = false := by
   rw [Bool.not_eq_false', List.all_eq_true]
   intro t ht
   obtain ⟨j, hj, rfl⟩ := List.mem_iff_getElem.1 ht
   obtain ⟨t, h1, h2⟩ := hall j hj
   rw [List.getElem?_eq_getElem hj] at h1
   cases h1
   exact h2
  rw [e] at h
  simp [pc73_l1, pc73_r1, a7, a8]
  exact h
theorem concat_calls {G : Env} {σ : AS} {R : Out → AS → Prop} {pv lv : AV} {p l : List Int} (hp : IntsV pv p) (hl : IntsV lv l) (hb : p.length + l.length ≤ 2 ^ 30) (h : ∀ v σ', IntsV v (p ++ l) → Adds σ σ' → R (.ret v) σ') : ACalls Tryz.prog G 48 [.sl (.stat true) 1 [pv, lv]] σ R := by
 refine freezing (calls48 rfl ?_)
 have p1 := hp.one
 have l1 := hl.one
 have hpl := hp.len
 have hll := hl.len
 have w1 : IntKind.wrap .i64 (p.length : Int) = (p.length : Int) := by rw [wrap_i64] <;> omega
 have w2 : IntKind.wrap .i64 ((p.length : Int) + (l.length : Int)) = (p.length : Int) + (l.length : Int) := by rw [wrap_i64] <;> omega
 have w3 : IntKind.wrap .i64 1 = 1 := rfl
 have w4 : IntKind.wrap .i64 2 = 2 := rfl
 have n1 : ¬ (p.length : Int) < 0 := by omega
 have n2 : ¬ (p.length : Int) + (l.length : Int) < 0 := by omega
 simp [pc48]
 refine aloop_rounds 3 ?_
 simp [pc48_l1, p1, l1, hpl, hll, w1, w2, w3, w4, n1, n2, pc48_r1, pc48_r2]
 have hgrow : ∀ {R' : Out → AS → Prop}, (p.length + l.length = 0 → R' (.ret .nilsl) σ) → (0 < p.length + l.length → R' (.ret (.sl (.fam σ.nf false) 1 [])) σ.newF) → ACalls Tryz.prog G 72 [.nilsl, .int .i64 ((p.length : Int) + (l.length : Int))] σ R' := by
  intro R' g0 g1
  refine calls72 rfl ?_
  have w5 : IntKind.wrap .i64 0 = 0 := rfl
  by_cases hz : p.length + l.length = 0
  ·have hz' : ¬ (0 : Int) < (p.length : Int) + (l.length : Int) := by omega
   simp [pc72, n2, w5, w2, hz']
   exact g0 hz
  ·have hz' : (0 : Int) < (p.length : Int) + (l.length : Int) := by omega
   obtain ⟨n, hn⟩ : ∃ n, ((p.length : Int) + (l.length : Int)).toNat = n + 1 := ⟨((p.length : Int) + (l.length : Int)).toNat - 1, by omega⟩
   simp [pc72, n2, w5, w2, hz', hn, List.replicate_succ, bounds, optInt]
   exact ⟨by omega, by omega, by omega, by omega, g1 (by omega)⟩
 refine hgrow (fun hz => ?_) (fun hz => ?_)
 ·have e1 : p = [] := List.length_eq_zero_iff.1 (by omega)
  have e2 : l = [] := List.length_eq_zero_iff.1 (by omega)
  subst e1 e2
  have := h .nilsl σ (.inl ⟨rfl, rfl⟩) (.refl _)
  have sta : ∀ K : AV → AS → Prop, ∀ v, IntsV v [] → aappend Tryz.prog 25 25 .nilsl v σ K = K .nilsl σ := by
   intro K v hv
   rcases hv with ⟨_, rfl⟩ | ⟨b, rfl⟩ <;> simp
  simp
  refine aloop_rounds 3 ?_
  rcases hp with ⟨_, rfl⟩ | ⟨b, rfl⟩ <;> rcases hl with ⟨_, rfl⟩ | ⟨b', rfl⟩ <;> simp [pc48_l2, pc48_r1, w3, w4] <;> exact .inl this
 ·simp
  refine aloop_rounds 3 ?_
  have fin : ∀ σ', Adds σ σ' → ∀ g, σ.nf ≤ g → σ'.F g = .alive → FrzOr R (.ret (.sl (.fam g false) 1 ((p ++ l).map (.int .i64)))) σ' := by
   intro σ' A' g hg ha
   refine .froze g (fun _ => false) ha ?_
   have := h (.sl (.stat false) 1 ((p ++ l).map (.int .i64))) (σ'.frz g fun _ => false) (.inr ⟨_, rfl⟩) (A'.frz hg fun _ _ => rfl)
   simpa [Function.comp_def] using this
  have A3 : Adds σ ((σ.newF.setF σ.nf FSt.dead).newF.setF (σ.nf + 1) FSt.dead).newF := ((((Adds.refl σ).newF.setF (Nat.le_refl _)).newF).setF (by omega)).newF
  have key := fin _ A3 (σ.nf + 1 + 1) (by omega) (by simp)
  rcases hp with ⟨rfl, rfl⟩ | ⟨b, rfl⟩ <;> rcases hl with ⟨rfl, rfl⟩ | ⟨b', rfl⟩ <;> simp [pc48_l2, pc48_r1, w3, w4]
  ·simp at hz
  ·exact ⟨by simp at hb; omega, by simpa using key⟩
  ·exact ⟨by simp at hb; omega, by simpa using key⟩
  ·exact ⟨by omega, by omega, by simpa using key⟩
end Go.Proofs.YthifgodgfhbnfaaGreatDoor
set_option linter.unusedSimpArgs false
set_option linter.unusedVariables false
namespace Go.Proofs.YthifgodgfhbnfaaGreatDoor
open Go Go.Abs
structure NS (σ1 : AS) (o : Nat) (named : List Bool) (L : Nat) (τ : AS) : Prop where
 obj : τ.objs o = some (boolsA named)
 len : named.length = L
 no : σ1.no ≤ τ.no
 nf : σ1.nf ≤ τ.nf
 oth : ∀ p, p < σ1.no → p ≠ o → τ.objs p = σ1.objs p
 fam : ∀ f, f < σ1.nf → τ.F f = σ1.F f
theorem NS.adds {σ1 o named L τ τ'} (h : NS σ1 o named L τ) (ho : o < σ1.no) (A : Adds τ τ') : NS σ1 o named L τ' where
 obj := (A.obj o (Nat.lt_of_lt_of_le ho h.no)).trans h.obj
 len := h.len
 no := Nat.le_trans h.no A.no
 nf := Nat.le_trans h.nf A.nf
 oth p hp hne := (A.obj p (Nat.lt_of_lt_of_le hp h.no)).trans (h.oth p hp hne)
 fam f hf := (A.fam f (Nat.lt_of_lt_of_le hf h.nf)).trans (h.fam f hf)
theorem NS.set {σ1 o named named' L τ} (h : NS σ1 o named L τ) (hl : named'.length = L) : NS σ1 o named' L (τ.setO o (boolsA named')) where
 obj := by simp
 len := hl
 no := h.no
 nf := h.nf
 oth p hp hne := by simp [hne]; exact h.oth p hp hne
 fam f hf := h.fam f hf
def thenE {α β : Type} (r : Res α) (k : α → Res β) : Res β := match r with
 | .error e => .error e
 | .ok a => k a
theorem namesE_then (a n : Int) (ns : List Int) (named : List Bool) : namesE a (n :: ns) named = thenE (nameE a named n) fun m => namesE a ns m := by
 rw [namesE]; unfold thenE; cases nameE a named n <;> rfl
theorem rowE_then (a : Int) (w : W) (ws : List W) (named : List Bool) : rowE a (w :: ws) named = thenE (namesE a (namesL w) named) fun m => rowE a ws m := by
 rw [rowE]; unfold thenE; cases namesE a (namesL w) named <;> rfl
theorem rowsE_then (k : Nat) (l : List W) (ls : To) (named : List Bool) : rowsE k (l :: ls) named = thenE (rowE (k : Int) l named) fun m => rowsE (k + 1) ls m := by
 rw [rowsE]; unfold thenE; cases rowE (k : Int) l named <;> rfl
def NI3 (σ1 : AS) (o L : Nat) (tv : AV) (ls : To) (goal : Res (List Bool)) (a : Nat → AV) (τ : AS) : Prop := ∃ (i : Nat) (named : List Bool), i ≤ ls.length ∧ a 2 = .slm o 0 1 L ∧ a 28 = tv ∧ a 29 = .int .i64 (ls.length : Int) ∧ a 30 = .int .i64 (i : Int) ∧ NS σ1 o named L τ ∧ rowsE i (ls.drop i) named = goal
def NI2 (σ1 : AS) (o L : Nat) (tv : AV) (ls : To) (k : Nat) (rv : AV) (row : List W) (goal : Res (List Bool)) (a : Nat → AV) (τ : AS) : Prop := ∃ (j : Nat) (named : List Bool), j ≤ row.length ∧ a 2 = .slm o 0 1 L ∧ a 28 = tv ∧ a 29 = .int .i64 (ls.length : Int) ∧ a 30 = .int .i64 (k : Int) ∧ a 3 = .int .i64 (k : Int) ∧ a 35 = rv ∧ a 36 = .int .i64 (row.length : Int) ∧ a 37 = .int .i64 (j : Int) ∧ NS σ1 o named L τ ∧
 thenE (rowE (k : Int) (row.drop j) named) (fun n => rowsE (k + 1) (ls.drop (k + 1)) n) = goal
def NI1 (σ1 : AS) (o L : Nat) (tv : AV) (ls : To) (k : Nat) (rv : AV) (row : List W) (j : Nat) (nv : AV) (ns : List Int) (goal : Res (List Bool)) (a : Nat → AV) (τ : AS) : Prop := ∃ (q : Nat) (named : List Bool), q ≤ ns.length ∧ a 2 = .slm o 0 1 L ∧ a 28 = tv ∧ a 29 = .int .i64 (ls.length : Int) ∧ a 30 = .int .i64 (k : Int) ∧ a 3 = .int .i64 (k : Int) ∧ a 35 = rv ∧ a 36 = .int .i64 (row.length : Int) ∧ a 37 = .int .i64 (j : Int) ∧
 a 42 = nv ∧ a 43 = .int .i64 (ns.length : Int) ∧ a 44 = .int .i64 (q : Int) ∧ NS σ1 o named L τ ∧
 thenE (thenE (namesE (k : Int) (ns.drop q) named) fun n => rowE (k : Int) (row.drop (j + 1)) n) (fun n => rowsE (k + 1) (ls.drop (k + 1)) n) = goal
theorem IntsV.at {v : AV} {l : List Int} (h : IntsV v l) {i : Nat} (hi : i < l.length) : ∃ b, ∀ K : AV → Prop, aindexAddr Tryz.prog 25 v (.int .i64 (i : Int)) K = K (.pv (.stat b) (.int .i64 l[i])) := by
 rcases h with ⟨rfl, _⟩ | ⟨b, rfl⟩
 ·simp at hi
 ·exact ⟨b, fun K => by simp [hi]⟩
theorem ListsV.at {v : AV} {l : To} (h : ListsV v l) {i : Nat} (hi : i < l.length) : ∃ b rv, RepL rv l[i] ∧ ∀ K : AV → Prop, aindexAddr Tryz.prog 39 v (.int .i64 (i : Int)) K = K (.pv (.stat b) rv) := by
 rcases h with ⟨rfl, _⟩ | ⟨b, rows, rfl, hr⟩
 ·simp at hi
 ·obtain ⟨rv, h1, h2⟩ := hr.get (List.getElem?_eq_getElem hi)
  exact ⟨b, rv, h2, fun K => by simp [h1]⟩
theorem splice_bool {named : List Bool} {n : Nat} (h : n < named.length) (b : Bool) : splice (boolsA named) n [.bool b] = boolsA (named.set n b) := by
 unfold splice boolsA
 rw [List.set_eq_take_append_cons_drop, if_pos h]
 simp
set_option maxRecDepth 20000 in
theorem clists_calls {G : Env} (V : Vars G) {σ : AS} {R : Out → AS → Prop} {c : Nat} {m : M} {f : F} {ls0 : List Int} (C : CkAt σ c m f ls0) (hb : f.lists.length ≤ 2 ^ 20) (hrows : ∀ l ∈ f.lists, l.length ≤ 2 ^ 20) (h : FinU R σ (listsE f.lists)) : ACalls Tryz.prog G 52 [.ptr c 0] σ R := by
 refine calls52 rfl ?_
 obtain ⟨hc, fsv, pv, lv, tv, lsv, hco, hfs, hpv, hlv, htv, hls⟩ := C
 have hlen := htv.len
 unfold listsE at h
 by_cases hz : f.lists.length = 0
 ·rw [if_pos hz] at h
  have hz' : f.lists = [] := List.length_eq_zero_iff.1 hz
  simp [pc52, hco, hlen, hz']
  refine must_calls (fun q => by simp at q) (fun _ => ?_)
  simp
  exact h σ (.refl _)
 ·rw [if_neg hz] at h
  have hz' : ¬ f.lists = [] := fun q => hz (by rw [q]; rfl)
  have hpos : 0 < f.lists.length := by omega
  simp [pc52, hco, hlen, hz', hpos]
  refine must_calls (fun _ => ?_) (fun q => by simp at q)
  simp [hco, hlen]
  have hto : ((f.lists.length : Int)).toNat = f.lists.length := by omega
  generalize hgoal : rowsE 0 f.lists (List.replicate f.lists.length false) = goal at h
  refine ⟨1, 1, .bool false, by simp, by simp, by simp, rfl, rfl, rfl, by omega, by omega, by omega, ?_⟩
  have hflat : flat (List.replicate f.lists.length (AV.bool false)) = boolsA (List.replicate f.lists.length false) := by
   unfold flat boolsA
   induction f.lists.length with
   | zero => rfl
   | succ n ih => rw [List.replicate_succ, List.replicate_succ, List.flatMap_cons, List.map_cons, ih]; rfl
  have hcn : c ≠ σ.no := by omega
  simp [hflat, hcn, hco, hlen]
  generalize hσ1 : σ.newO (boolsA (List.replicate f.lists.length false)) = σ1
  have hno1 : σ1.no = σ.no + 1 := by rw [← hσ1]; simp
  have A1 : Adds σ σ1 := by rw [← hσ1]; exact (Adds.refl σ).newO
  have N1 : NS σ1 σ.no (List.replicate f.lists.length false) f.lists.length σ1 := ⟨by rw [← hσ1]; simp, by simp, Nat.le_refl _, Nat.le_refl _, fun _ _ _ => rfl, fun _ _ => rfl⟩
  have toA : ∀ {named τ}, NS σ1 σ.no named f.lists.length τ → Adds σ τ := fun N => ⟨by have := N.no; omega, Nat.le_trans A1.nf N.nf, fun o ho => (N.oth o (by omega) (by omega)).trans (A1.obj o ho), fun g hg => (N.fam g (Nat.lt_of_lt_of_le hg A1.nf)).trans (A1.fam g hg)⟩
  refine aloop (NI3 σ1 σ.no f.lists.length tv f.lists goal) (MU 30 (f.lists.length + 1)) ⟨0, _, by omega, by simp, by simp, by simp, by simp, N1, by simpa using hgoal⟩ fun a τ hI => ?_
  obtain ⟨i, named0, hi, a2, a28, a29, a30, N0, hg0⟩ := hI
  by_cases hlt : i < f.lists.length
  ·obtain ⟨b, rv, hrep, hix⟩ := htv.at hlt
   have hrl := hrows _ (List.getElem_mem hlt)
   rw [List.drop_eq_getElem_cons hlt, rowsE_then] at hg0
   generalize f.lists[i] = row at *
   have hrlen := hrep.len
   have hr1 := hrep.one
   have hlt' : (i : Int) < (f.lists.length : Int) := by omega
   simp [pc52_l3, a2, a28, a29, a30, hlt, hix, hr1, hrlen]
   refine aloop (NI2 σ1 σ.no f.lists.length tv f.lists i rv row goal) (MU 37 (row.length + 1)) ⟨0, named0, by omega, by simp [a2], by simp [a28], by simp [a29], by simp [a30], by simp, by simp, by simp, by simp, N0, by simpa using hg0⟩ fun b ρ hI => ?_
   obtain ⟨j, named1, hj, b2, b28, b29, b30, b3, b35, b36, b37, N2, hg1⟩ := hI
   by_cases hjl : j < row.length
   ·obtain ⟨q2, hix2⟩ := hrep.at hjl
    rw [List.drop_eq_getElem_cons hjl, rowE_then] at hg1
    simp [pc52_l2, b35, b36, b37, hjl, hix2, W.av, W.cs, splice]
    rw [show AV.agg [AV.int IntKind.i64 row[j].op, AV.int IntKind.i64 row[j].ty, AV.int IntKind.i64 row[j].n, AV.int IntKind.i64 row[j].body, AV.int IntKind.i64 row[j].other, AV.str row[j].name] = row[j].av from rfl]
    refine names_calls fun nv σ3 hnv A3 => ?_
    have A3' : Adds ρ σ3 := (((Adds.refl ρ).newO).setO (Nat.le_refl _)).trans A3
    have N3 := N2.adds (by omega) A3'
    have hnl := hnv.len
    simp [hnl]
    refine aloop (NI1 σ1 σ.no f.lists.length tv f.lists i rv row j nv (namesL row[j]) goal) (MU 44 ((namesL row[j]).length + 1)) ⟨0, named1, by omega, by simp [b2], by simp [b28], by simp [b29], by simp [b30], by simp [b3], by simp [b35], by simp [b36], by simp [b37], by simp, by simp, by simp, N3, by simpa using hg1⟩ fun d π hI => ?_
    obtain ⟨q, named, hq, d2, d28, d29, d30, d3, d35, d36, d37, d42, d43, d44, N, hg⟩ := hI
    have ho := N.obj
    have hnlen := N.len
    have hbl : (boolsA named).length = f.lists.length := by simp [boolsA, hnlen]
    by_cases hql : q < (namesL row[j]).length
    ·obtain ⟨q3, hix3⟩ := hnv.at hql
     rw [List.drop_eq_getElem_cons hql, namesE_then] at hg
     have hw3 : IntKind.wrap .i64 ((q : Int) + 1) = ((q + 1 : Nat) : Int) := by
      have : (namesL row[j]).length ≤ 2 := by unfold namesL; split <;> (try split) <;> simp
      rw [wrap_i64] <;> omega
     generalize hn : (namesL row[j])[q] = n at *
     by_cases hok : 0 ≤ n ∧ n < (i : Int)
     ·have hnl2 : n.toNat < f.lists.length := by omega
      have hnn : n.toNat < named.length := by omega
      have hget : (boolsA named)[n.toNat]? = some (.bool named[n.toNat]) := by simp [boolsA, hnn]
      have hge : ∀ p : n.toNat < (boolsA named).length, (boolsA named)[n.toNat]'p = .bool named[n.toNat] := fun p => by rw [List.getElem?_eq_getElem p] at hget; exact Option.some.inj hget
      have hlb : n.toNat < (boolsA named).length := by omega
      have hgd : named.getD n.toNat true = named[n.toNat] := by rw [List.getD_eq_getElem?_getD, List.getElem?_eq_getElem hnn]; rfl
      have hnL : n < (f.lists.length : Int) := by omega
      cases hv : named[n.toNat] with
      | true =>
       have hE : nameE (i : Int) named n = .error 11 := by unfold nameE; rw [if_neg (by rw [hgd, hv]; simp)]
       rw [hE] at hg
       simp [thenE] at hg
       rw [← hg] at h
       rw [hv] at hget hge
       simp [pc52_l1, d2, d3, d42, d43, d44, hql, hix3, hok.1, hok.2, ho, hlb, hge, hnL]
       refine must_calls (fun q => by simp at q) (fun _ => ?_)
       simp
       exact h _ (toA N)
      | false =>
       have hE : nameE (i : Int) named n = .ok (named.set n.toNat true) := by unfold nameE; rw [if_pos ⟨hok.1, hok.2, by rw [hgd, hv]⟩]
       rw [hE] at hg
       simp only [thenE] at hg
       rw [hv] at hget hge
       simp [pc52_l1, d2, d3, d42, d43, d44, hql, hix3, hok.1, hok.2, ho, hlb, hge, hnL]
       refine must_calls (fun _ => ?_) (fun q => by simp at q)
       simp [d2, d44, hok.1, hnL, ho, hlb, hw3]
       rw [splice_bool hnn]
       refine ⟨hlb, ⟨q + 1, named.set n.toNat true, by omega, by simp [d2], by simp [d28], by simp [d29], by simp [d30], by simp [d3], by simp [d35], by simp [d36], by simp [d37], by simp [d42], by simp [d43], by simp, N.set (by simp [hnlen]), hg⟩, ?_⟩
       simp only [MU, d44]; simp; omega
     ·have hE : nameE (i : Int) named n = .error 11 := by unfold nameE; rw [if_neg (fun q => hok ⟨q.1, q.2.1⟩)]
      rw [hE] at hg
      simp [thenE] at hg
      rw [← hg] at h
      by_cases h0 : 0 ≤ n
      ·have h1 : ¬ n < (i : Int) := fun q => hok ⟨h0, q⟩
       simp [pc52_l1, d2, d3, d42, d43, d44, hql, hix3, h0, h1]
       refine must_calls (fun q => by simp at q) (fun _ => ?_)
       simp
       exact h _ (toA N)
      ·simp [pc52_l1, d2, d3, d42, d43, d44, hql, hix3, h0]
       refine must_calls (fun q => by simp at q) (fun _ => ?_)
       simp
       exact h _ (toA N)
    ·have he : q = (namesL row[j]).length := by omega
     subst he
     have hnil : (namesL row[j]).drop (namesL row[j]).length = [] := by simp
     rw [hnil] at hg
     simp only [namesE, thenE] at hg
     have hw3 : IntKind.wrap .i64 ((j : Int) + 1) = ((j + 1 : Nat) : Int) := by rw [wrap_i64] <;> omega
     simp [pc52_l1, pc52_r1, d37, d43, d44, hw3]
     refine ⟨⟨j + 1, named, by omega, by simp [d2], by simp [d28], by simp [d29], by simp [d30], by simp [d3], by simp [d35], by simp [d36], by simp, N, hg⟩, ?_⟩
     simp only [MU, b37]; simp; omega
   ·have he : j = row.length := by omega
    subst he
    have hnil : row.drop row.length = [] := by simp
    rw [hnil] at hg1
    simp only [rowE, thenE] at hg1
    have hw3 : IntKind.wrap .i64 ((i : Int) + 1) = ((i + 1 : Nat) : Int) := by rw [wrap_i64] <;> omega
    simp [pc52_l2, pc52_r2, b30, b36, b37, hw3]
    refine ⟨⟨i + 1, named1, by omega, by simp [b2], by simp [b28], by simp [b29], by simp, N2, hg1⟩, ?_⟩
    simp only [MU, a30]; simp; omega
  ·have he : i = f.lists.length := by omega
   subst he
   have hnil : f.lists.drop f.lists.length = [] := by simp
   rw [hnil] at hg0
   simp only [rowsE] at hg0
   rw [← hg0] at h
   simp only at h
   have hw3 : IntKind.wrap .i64 ((f.lists.length : Int) - 1) = ((f.lists.length - 1 : Nat) : Int) := by rw [wrap_i64] <;> omega
   simp [pc52_l3, pc52_r3, a2, a29, a30, hw3]
   refine contains_false N0.obj (by rw [N0.len]; omega) (by omega) ?_
   cases hq : (named0.take (f.lists.length - 1)).all (· == true) with
   | true =>
    rw [if_pos hq] at h
    simp
    refine must_calls (fun _ => ?_) (fun q => by simp at q)
    simp
    exact h _ (toA N0)
   | false =>
    rw [if_neg (by rw [hq]; simp)] at h
    simp
    refine must_calls (fun q => by simp at q) (fun _ => ?_)
    simp
    exact h _ (toA N0)
end Go.Proofs.YthifgodgfhbnfaaGreatDoor
set_option linter.unusedSimpArgs false
set_option linter.unusedVariables false
namespace Go.Proofs.YthifgodgfhbnfaaGreatDoor
open Go Go.Abs
theorem function_calls {G : Env} (V : Vars G) {m : M} (sm : Small m) {f : F} (hfm : f ∈ m.funcs) {σ0 σ : AS} {R : Out → AS → Prop} {c : Nat} (A0 : Adds σ0 σ) (hc0 : σ0.no ≤ c) (C : CkAt σ c m f []) (h : FinU R σ0 (functionE m.funcs f)) : ACalls Tryz.prog G 35 [.ptr c 0] σ R := by
 refine calls35 rfl ?_
 have C0 := C
 obtain ⟨hc, fsv, pv, lv, tv, lsv, hco, hfs, hpv, hlv, htv, hls⟩ := C
 have p1 := hpv.one
 have l1 := hlv.one
 have hpb := sm.params f hfm
 have hlb := sm.locals f hfm
 simp [pc35, hco, p1, l1]
 refine concat_calls hpv hlv (by omega) fun v σ1 hv A1 => ?_
 have v1 := hv.one
 have hco1 := (A1.obj c hc).trans hco
 simp [hco1, v1, splice]
 generalize hσ2 : σ1.setO c [fsv, AV.int IntKind.i64 m.memory, AV.int IntKind.i64 m.main, AV.str f.name, pv, lv, AV.int IntKind.i64 f.type, tv, v] = σ2
 have hc1 : c < σ1.no := Nat.lt_of_lt_of_le hc A1.no
 have hco2 : σ2.objs c = some [fsv, .int .i64 m.memory, .int .i64 m.main, .str f.name, pv, lv, .int .i64 f.type, tv, v] := by rw [← hσ2]; simp
 have A2 : Adds σ0 σ2 := by rw [← hσ2]; exact (A0.trans A1).setO hc0
 have C2 : CkAt σ2 c m f (f.params ++ f.locals) := ⟨by rw [← hσ2]; simpa using hc1, _, _, _, _, _, hco2, hfs, hpv, hlv, htv, hv⟩
 unfold functionE at h
 have hll := sm.lists f hfm
 refine containsFunc_calls hv (by simp; omega) ?_
 have fail : ((f.params ++ f.locals).all numberB && decide (0 ≤ f.type) && decide (f.type ≤ 2)) = false → ∀ σ', Adds σ0 σ' → R (.panic (stopV 6)) σ' := fun q => by
  rw [if_pos q] at h; exact h
 cases hn : (f.params ++ f.locals).all numberB with
 | false =>
  simp
  refine must_calls (fun q => by simp at q) (fun _ => ?_)
  simp
  exact fail (by rw [hn]; rfl) _ A2
 | true =>
 by_cases k0 : 0 ≤ f.type
 ·by_cases k2 : f.type ≤ 2
  ·rw [if_neg (by rw [hn]; simp [k0, k2])] at h
   simp [hco2, k0, k2]
   refine must_calls (fun _ => ?_) (fun q => by simp at q)
   simp
   refine clists_calls V C2 hll (fun l hl => sm.rows f hfm l hl) ?_
   cases hq : listsE f.lists with
   | error e =>
    rw [hq] at h
    intro σ3 A3
    simp
    exact h σ3 (A2.trans A3)
   | ok u =>
    rw [hq] at h
    simp only at h
    intro σ3 A3
    have C3 := C2.adds A3
    have C3' := C3
    obtain ⟨hc3, fsv3, pv3, lv3, tv3, lsv3, hco3, _, _, _, htv3, _⟩ := C3'
    obtain ⟨hpos, hah, _⟩ := listsE_ok hq
    have hlen3 := htv3.len
    have hw3 : IntKind.wrap .i64 ((f.lists.length : Int) - 1) = (f.lists.length : Int) - 1 := by rw [wrap_i64] <;> omega
    simp [hco3, hlen3, hw3]
    refine look_ok V sm hfm hah (f.params ++ f.locals) f.lists.length c σ3 ((f.lists.length : Int) - 1) 0 _ C3 (by omega) (by omega) (by omega) (by omega) ?_
    revert h
    cases lookE m.funcs (f.params ++ f.locals) f.type f.lists f.lists.length ((f.lists.length : Int) - 1) 0 with
    | ok u => intro h σ4 A4; simp; exact h σ4 ((A2.trans A3).trans A4)
    | error e => intro h σ4 A4; simp; exact h σ4 ((A2.trans A3).trans A4)
  ·simp [hco2, k0, k2]
   refine must_calls (fun q => by simp at q) (fun _ => ?_)
   simp
   exact fail (by simp [k2]) _ A2
 ·simp [hco2, k0]
  refine must_calls (fun q => by simp at q) (fun _ => ?_)
  simp
  exact fail (by simp [k0]) _ A2
theorem FsV.at {v : AV} {l : List F} (h : FsV v l) {i : Nat} (hi : i < l.length) : ∃ b fv, FV fv l[i] ∧ ∀ K : AV → Prop, aindexAddr Tryz.prog 22 v (.int .i64 (i : Int)) K = K (.pv (.stat b) fv) := by
 rcases h with ⟨rfl, _⟩ | ⟨b, rows, rfl, hr⟩
 ·simp at hi
 ·obtain ⟨fv, h1, h2⟩ := hr.get (List.getElem?_eq_getElem hi)
  exact ⟨b, fv, h2, fun K => by simp [h1]⟩
@[simp] theorem aeq_if20 (t : Nat) (v : AV) : aeq Tryz.prog 20 (.iface t v) .nilif = some false := by simp [aeq, aeq1, show Tryz.prog.underlying 20 = some (.interface #[]) from by kernel_rfl]
@[simp] theorem aeq_nil20 : aeq Tryz.prog 20 .nilif .nilif = some true := by simp [aeq, aeq1, show Tryz.prog.underlying 20 = some (.interface #[]) from by kernel_rfl]
@[simp] theorem abin_if20 (t : Nat) (v : AV) (K : AV → Prop) : abin Tryz.prog .neq 20 (.iface t v) .nilif K = K (.bool true) := by simp [abin]
@[simp] theorem abin_nil20 (K : AV → Prop) : abin Tryz.prog .neq 20 .nilif .nilif K = K (.bool false) := by simp [abin]
@[simp] theorem aq_normal (H : Option AV → (Nat → AV) → AS → Prop) (a : Nat → AV) (σ : AS) : aq H .normal a σ = H none a σ := Eq.trans rfl rfl
@[simp] theorem aq_ret (H : Option AV → (Nat → AV) → AS → Prop) (a : Nat → AV) (σ : AS) : aq H .ret a σ = H none a σ := Eq.trans rfl rfl
@[simp] theorem aq_panic (H : Option AV → (Nat → AV) → AS → Prop) (v : AV) (a : Nat → AV) (σ : AS) : aq H (.panic v) a σ = H (some v) a σ := Eq.trans rfl rfl
def MI (σ1 : AS) (mb eb : Nat) (fsv : AV) (m : M) (goal : Res Unit) (a : Nat → AV) (τ : AS) : Prop := ∃ i : Nat, i ≤ m.funcs.length ∧ a 1 = .ptr mb 0 ∧ a 2 = .ptr eb 0 ∧ a 16 = fsv ∧ a 17 = .int .i64 (m.funcs.length : Int) ∧ a 18 = .int .i64 (i : Int) ∧ Adds σ1 τ ∧ functionsE m.funcs (m.funcs.drop i) = goal
set_option maxRecDepth 20000 in
theorem check_calls {G : Env} (V : Vars G) {m : M} (sm : Small m) {σ : AS} {R : Out → AS → Prop} {mv : AV} (hm : MV mv m) (h : ∀ σ', Adds σ σ' → R (.ret (.int .i64 (errOf (checkE m)))) σ') : ACalls Tryz.prog G 17 [mv] σ R := by
 refine acalls_recover (px := pc17_x) (pz := pc17_z) (k := 33) (py := pc33_h) (n := 61) (nk := 8) (t := 5) (d0 := 2) (d1 := 1) (res := [.cell 2 27]) mixed Tryz.func17 rfl rfl rfl rfl (by kernel_rfl) (by kernel_rfl) (by simp) rfl rfl rfl rfl rfl rfl (by decide) Tryz.func33 rfl (by kernel_rfl) rfl rfl rfl rfl rfl rfl rfl rfl rfl (by kernel_rfl) (by decide) (by decide) (by decide) ?_
 obtain ⟨fsv, rfl, hfs⟩ := hm
 have f1 := hfs.one
 have hfl := hfs.len
 simp [pc17_x]
 have ecap : List.map (ev G (upd (upd (frame0 [AV.agg [fsv, AV.int IntKind.i64 m.memory, AV.int IntKind.i64 m.main]]) 1 (AV.ptr σ.no 0)) 2 (AV.ptr (σ.no + 1) 0))) #[Operand.tmp 2].toList = [.ptr (σ.no + 1) 0] := rfl
 rw [ecap]
 generalize hfr : upd (upd (upd (frame0 [AV.agg [fsv, AV.int IntKind.i64 m.memory, AV.int IntKind.i64 m.main]]) 1 (AV.ptr σ.no 0)) 2 (AV.ptr (σ.no + 1) 0)) 5 (AV.fn (Fn.func 33) [] [AV.ptr (σ.no + 1) 0]) = fr
 have fr1 : fr 1 = .ptr σ.no 0 := by rw [← hfr]; simp
 have fr2 : fr 2 = .ptr (σ.no + 1) 0 := by rw [← hfr]; simp
 have hno1 : ((σ.newO [fsv, AV.int IntKind.i64 m.memory, AV.int IntKind.i64 m.main]).newO [AV.int IntKind.i64 0]).no = σ.no + 2 := by simp
 have A1 : Adds σ ((σ.newO [fsv, AV.int IntKind.i64 m.memory, AV.int IntKind.i64 m.main]).newO [AV.int IntKind.i64 0]) := (Adds.refl σ).newO.newO
 have hm1 : ((σ.newO [fsv, AV.int IntKind.i64 m.memory, AV.int IntKind.i64 m.main]).newO [AV.int IntKind.i64 0]).objs σ.no = some [fsv, .int .i64 m.memory, .int .i64 m.main] := by simp
 have he1 : ((σ.newO [fsv, AV.int IntKind.i64 m.memory, AV.int IntKind.i64 m.main]).newO [AV.int IntKind.i64 0]).objs (σ.no + 1) = some [.int .i64 0] := by simp
 generalize (σ.newO [fsv, AV.int IntKind.i64 m.memory, AV.int IntKind.i64 m.main]).newO [AV.int IntKind.i64 0] = σ1 at *
 -- what is recovered
 have hand : ∀ (e : Int) (a : Nat → AV) (τ : AS), a 2 = .ptr (σ.no + 1) 0 → Adds σ1 τ → (∀ σ', Adds σ σ' → R (.ret (.int .i64 e)) σ') → AHandle Tryz.prog G 8 pc33_h 2 1 [.ptr (σ.no + 1) 0] [.cell 2 27] R (some (stopV e)) a τ := by
  intro e a τ a2 A hh
  have he := (A.obj (σ.no + 1) (by omega)).trans he1
  simp [AHandle, pc33_h, stopV, he, splice, a2]
  exact hh _ ((A1.trans A).setO (by omega))
 have done : ∀ (a : Nat → AV) (τ : AS), a 2 = .ptr (σ.no + 1) 0 → Adds σ1 τ → (∀ σ', Adds σ σ' → R (.ret (.int .i64 0)) σ') → AHandle Tryz.prog G 8 pc33_h 2 1 [.ptr (σ.no + 1) 0] [.cell 2 27] R none a (τ.setO (σ.no + 1) [.int .i64 0]) := by
  intro a τ a2 A hh
  simp [AHandle, pc33_h, splice, a2]
  exact hh _ ((A1.trans A).setO (by omega))
 unfold checkE at h
 by_cases k0 : 0 ≤ m.memory
 ·by_cases k1 : m.memory ≤ 4096
  ·rw [if_neg (by simp [k0, k1])] at h
   simp [pc17_z, fr1, hm1, k0, k1]
   refine must_calls (fun _ => ?_) (fun q => by simp at q)
   simp [fr1, hm1, f1, hfl]
   generalize hgoal : functionsE m.funcs m.funcs = goal at h
   refine aloop (MI σ1 σ.no (σ.no + 1) fsv m goal) (MU 18 (m.funcs.length + 1)) ⟨0, by omega, by simp [fr1], by simp [fr2], by simp, by simp, by simp, .refl _, by simpa using hgoal⟩ fun a τ hI => ?_
   obtain ⟨i, hi, a1, a2, a16, a17, a18, A, hg⟩ := hI
   have hm2 := (A.obj σ.no (by omega)).trans hm1
   have he2 := (A.obj (σ.no + 1) (by omega)).trans he1
   by_cases hlt : i < m.funcs.length
   ·obtain ⟨b, fv, hfv, hix⟩ := hfs.at hlt
    have hmem := List.getElem_mem hlt
    rw [List.drop_eq_getElem_cons hlt, functionsE] at hg
    generalize m.funcs[i] = f at *
    obtain ⟨pv, lv, tv, rfl, hp, hl, ht⟩ := hfv
    have p1 := hp.one
    have l1 := hl.one
    have t1 := ht.one
    have hmn : σ.no ≠ τ.no := by have := A.no; omega
    simp [pc17_z_l1, a1, a16, a17, a18, hlt, hix, p1, l1, t1, f1, splice, hm2, hmn]
    have A3 : Adds τ (((τ.newO [AV.str [], AV.nilsl, AV.nilsl, AV.int IntKind.i64 0, AV.nilsl]).setO τ.no [AV.str f.name, pv, lv, AV.int IntKind.i64 f.type, tv]).newO [fsv, AV.int IntKind.i64 m.memory, AV.int IntKind.i64 m.main, AV.str f.name, pv, lv, AV.int IntKind.i64 f.type, tv, AV.nilsl]) := (((Adds.refl τ).newO).setO (Nat.le_refl _)).newO
    refine function_calls V sm hmem A3 (by omega) ⟨by simp, _, _, _, _, _, by simp, hfs, hp, hl, ht, .inl ⟨rfl, rfl⟩⟩ ?_
    have hw3 : IntKind.wrap .i64 ((i : Int) + 1) = ((i + 1 : Nat) : Int) := by have := sm.funcs; rw [wrap_i64] <;> omega
    cases hq : functionE m.funcs f with
    | error e =>
     rw [hq] at hg
     simp only at hg
     rw [← hg] at h
     intro σ4 A4
     simp
     exact hand e _ σ4 (by simp [hide, a2]) (A.trans A4) h
    | ok u =>
     rw [hq] at hg
     simp only at hg
     intro σ4 A4
     simp [a18, hw3]
     refine ⟨⟨i + 1, by omega, by simp [a1], by simp [a2], by simp [a16], by simp [a17], by simp, A.trans A4, hg⟩, ?_⟩
     simp only [MU, a18]; simp; omega
   ·have he : i = m.funcs.length := by omega
    subst he
    have hnil : m.funcs.drop m.funcs.length = [] := by simp
    rw [hnil] at hg
    simp only [functionsE] at hg
    rw [← hg] at h
    simp only at h
    have good : mainB m = true → ∀ σ', Adds σ σ' → R (.ret (.int .i64 0)) σ' := fun q => by rw [if_pos q] at h; exact h
    have bad : mainB m = false → ∀ σ', Adds σ σ' → R (.ret (.int .i64 12)) σ' := fun q => by rw [if_neg (by rw [q]; simp)] at h; exact h
    by_cases q0 : 0 ≤ m.main
    ·by_cases q1 : m.main < (m.funcs.length : Int)
     ·have hlt2 : m.main.toNat < m.funcs.length := by omega
      obtain ⟨b, fv, hfv, hix⟩ := hfs.at hlt2
      have e1 : ((m.main.toNat : Nat) : Int) = m.main := by omega
      rw [e1] at hix
      have hfn : m.funcs[m.main.toNat]? = some m.funcs[m.main.toNat] := List.getElem?_eq_getElem hlt2
      have hmb : mainB m = (decide (m.funcs[m.main.toNat].type = 1) && decide (m.funcs[m.main.toNat].params.length = 0)) := by
       unfold mainB; rw [hfn]; simp [q0]
      generalize m.funcs[m.main.toNat] = f at *
      obtain ⟨pv, lv, tv, rfl, hp, hl, ht⟩ := hfv
      have hpl := hp.len
      have p1 := hp.one
      by_cases q2 : f.type = 1
      ·by_cases q3 : f.params.length = 0
       ·have q3' : f.params = [] := List.length_eq_zero_iff.1 q3
        simp [pc17_z_l1, pc17_z_r1, a1, a2, a16, a17, a18, hm2, he2, hfl, f1, q0, q1, hix, q2, hpl, p1, q3', splice]
        refine must_calls (fun _ => ?_) (fun q => by simp at q)
        simp [a2, he2, splice]
        exact done _ τ (by simp [a2]) A (good (by rw [hmb]; simp [q2, q3']))
       ·have q3' : ¬ f.params = [] := fun q => q3 (by rw [q]; rfl)
        simp [pc17_z_l1, pc17_z_r1, a1, a2, a16, a17, a18, hm2, he2, hfl, f1, q0, q1, hix, q2, hpl, p1, q3', splice]
        refine must_calls (fun q => by simp at q) (fun _ => ?_)
        simp
        exact hand 12 _ τ (by simp [hide, a2]) A (bad (by rw [hmb]; simp [q3']))
      ·simp [pc17_z_l1, pc17_z_r1, a1, a2, a16, a17, a18, hm2, he2, hfl, f1, q0, q1, hix, q2, splice]
       refine must_calls (fun q => by simp at q) (fun _ => ?_)
       simp
       exact hand 12 _ τ (by simp [hide, a2]) A (bad (by rw [hmb]; simp [q2]))
     ·simp [pc17_z_l1, pc17_z_r1, a1, a2, a16, a17, a18, hm2, he2, hfl, f1, q0, q1, splice]
      refine must_calls (fun q => by simp at q) (fun _ => ?_)
      simp
      refine hand 12 _ τ (by simp [hide, a2]) A (bad ?_)
      unfold mainB
      rw [List.getElem?_eq_none (by omega)]
      simp
    ·simp [pc17_z_l1, pc17_z_r1, a1, a2, a16, a17, a18, hm2, he2, hfl, f1, q0, splice]
     refine must_calls (fun q => by simp at q) (fun _ => ?_)
     simp
     exact hand 12 _ τ (by simp [hide, a2]) A (bad (by simp [mainB, q0]))
  ·rw [if_pos (by simp [k1])] at h
   simp [pc17_z, fr1, hm1, k0, k1]
   refine must_calls (fun q => by simp at q) (fun _ => ?_)
   simp
   exact hand 11 _ σ1 (by simp [hide, fr2]) (.refl _) h
 ·rw [if_pos (by simp [k0])] at h
  simp [pc17_z, fr1, hm1, k0]
  refine must_calls (fun q => by simp at q) (fun _ => ?_)
  simp
  exact hand 11 _ σ1 (by simp [hide, fr2]) (.refl _) h
end Go.Proofs.YthifgodgfhbnfaaGreatDoor
set_option linter.unusedSimpArgs false
set_option linter.unusedVariables false
namespace Go.Proofs.YthifgodgfhbnfaaGreatDoor
open Go Go.Abs
theorem Adds.mk1 {σ : AS} {c1 c2} : Adds σ ((σ.newO c1).setO σ.no c2) := ((Adds.refl σ).newO).setO (Nat.le_refl _)
def SlW (σ : AS) (v : AV) (l : List W) : Prop := (l = [] ∧ v = .nilsl) ∨ ∃ φ, v = .sl φ 6 (l.map W.av) ∧ Readable σ.F φ
theorem aeqW (w u : W) : aeq Tryz.prog 46 (.agg [.int .i64 w.op, .int .i64 w.ty, .int .i64 w.n, .int .i64 w.body, .int .i64 w.other, .str w.name]) (.agg [.int .i64 u.op, .int .i64 u.ty, .int .i64 u.n, .int .i64 u.body, .int .i64 u.other, .str u.name]) = some (decide (w = u)) := by
 simp [aeq, aeqFs]
 have key : (w = u) ↔ (w.op = u.op ∧ w.ty = u.ty ∧ w.n = u.n ∧ w.body = u.body ∧ w.other = u.other ∧ w.name = u.name) := by
  constructor
  ·rintro rfl; simp
  ·rintro ⟨h1, h2, h3, h4, h5, h6⟩
   cases w; cases u; simp_all
 by_cases h1 : w.op = u.op <;> by_cases h2 : w.ty = u.ty <;> by_cases h3 : w.n = u.n <;> by_cases h4 : w.body = u.body <;> by_cases h5 : w.other = u.other <;> by_cases h6 : w.name = u.name <;> simp [key, h1, h2, h3, h4, h5, h6]
def SI (va vb : AV) (a b : List W) (σ : AS) (f : Nat → AV) (τ : AS) : Prop := ∃ i : Nat, i ≤ a.length ∧ f 0 = va ∧ f 1 = vb ∧ f 5 = .int .i64 (i : Int) ∧ a.take i = b.take i ∧ τ = σ
def SM (a : List W) (f : Nat → AV) (_ : AS) : Nat := match f 5 with
 | .int _ n => a.length - n.toNat
 | _ => 0
theorem same_calls {G : Env} {va vb : AV} {a b : List W} {σ : AS} {R : Out → AS → Prop} (ha : SlW σ va a) (hb : SlW σ vb b) (hl : a.length ≤ 2 ^ 30) (h : R (.ret (.bool (decide (a = b)))) σ) : ACalls Tryz.prog G 92 [va, vb] σ R := by
 refine calls92 rfl ?_
 by_cases hab : a.length = b.length
 ·have loop : ∀ f, f 0 = va → f 1 = vb → f 5 = .int .i64 0 → ALoop Tryz.prog G 27 pc92_l1 (ablock 0 (athen (avc Tryz.prog G 27 pc92_r1 (afin Tryz.prog [.tmp 4] R)) (afin Tryz.prog [.tmp 4] R))) f σ := by
   intro f f0 f1 f5
   refine aloop (SI va vb a b σ) (SM a) ⟨0, Nat.zero_le _, f0, f1, by simpa using f5, by simp, rfl⟩ fun f τ ⟨i, hi, f0, f1, f5, ht, hτ⟩ => ?_
   subst hτ
   have hmu : SM a f τ = a.length - i := by simp [SM, f5]
   by_cases hlt : i < a.length
   ·have hltb : i < b.length := by omega
    obtain ⟨φ, rfl, hφ⟩ : ∃ φ, va = .sl φ 6 (a.map W.av) ∧ Readable τ.F φ := by
     rcases ha with ⟨rfl, _⟩ | ha
     ·simp at hlt
     ·exact ha
    obtain ⟨ψ, rfl, hψ⟩ : ∃ φ, vb = .sl φ 6 (b.map W.av) ∧ Readable τ.F φ := by
     rcases hb with ⟨rfl, _⟩ | hb
     ·simp at hltb
     ·exact hb
    have hw2 : IntKind.wrap .i64 ((i : Int) + 1) = (i : Int) + 1 := by rw [wrap_i64] <;> omega
    have ea : a.take (i + 1) = a.take i ++ [a[i]] := by simp
    have eb : b.take (i + 1) = b.take i ++ [b[i]] := by simp
    by_cases hw : a[i] = b[i]
    ·simp [pc92_l1, f0, f1, f5, hlt, hltb, W.av, W.cs, hφ, hψ, aeqW, hw, hw2]
     refine ⟨⟨i + 1, hlt, by simp [f0, W.av, W.cs], by simp [f1, W.av, W.cs], by simp, by rw [ea, eb, ht, hw], rfl⟩, ?_⟩
     rw [hmu]
     have : ((i : Int) + 1).toNat = i + 1 := by omega
     simp [SM, this]; omega
    ·have hne : ¬ a = b := fun e => hw (by subst e; rfl)
     simp [hne] at h
     simp [pc92_l1, f0, f1, f5, hlt, hltb, W.av, W.cs, hφ, hψ, aeqW, hw, hw2, h]
   ·have he : i = a.length := by omega
    subst he
    have e : a = b := by rw [List.take_length, hab, List.take_length] at ht; exact ht
    have hla : a.length = b.length := hab
    simp [e] at h
    rcases ha with ⟨rfl, rfl⟩ | ⟨φ, rfl, hφ⟩
    ·simp [pc92_l1, pc92_r1, f0, f1, f5, h]
    ·simp [pc92_l1, pc92_r1, f0, f1, f5, h]
  rcases ha with ⟨rfl, rfl⟩ | ⟨φ, rfl, hφ⟩ <;> rcases hb with ⟨rfl, rfl⟩ | ⟨ψ, rfl, hψ⟩
  ·simp [pc92]
   refine loop _ ?_ ?_ ?_ <;> simp
  ·simp at hab
   simp [pc92, ← hab]
   refine loop _ ?_ ?_ ?_ <;> simp
  ·simp at hab
   subst hab
   simp [pc92]
   refine loop _ ?_ ?_ ?_ <;> simp
  ·simp [pc92, hab]
   refine loop _ ?_ ?_ ?_ <;> simp
 ·have hne : ¬ a = b := fun e => hab (by rw [e])
  have hi : ¬ (a.length : Int) = b.length := by omega
  simp [hne] at h
  rcases ha with ⟨rfl, rfl⟩ | ⟨φ, rfl, hφ⟩ <;> rcases hb with ⟨rfl, rfl⟩ | ⟨ψ, rfl, hψ⟩
  ·simp at hab
  ·simp at hab
   have hi' : ¬ (0 : Int) = b.length := by simpa using hi
   simp [pc92, hi', h]
  ·simp at hab
   have hi' : ¬ (a.length : Int) = 0 := by simpa using hi
   simp [pc92, hab, h]
  ·simp [pc92, hi, h]
end Go.Proofs.YthifgodgfhbnfaaGreatDoor
set_option linter.unusedSimpArgs false
set_option linter.unusedVariables false
namespace Go.Proofs.YthifgodgfhbnfaaGreatDoor
open Go Go.Abs
end Go.Proofs.YthifgodgfhbnfaaGreatDoor
set_option linter.unusedSimpArgs false
set_option linter.unusedVariables false
namespace Go.Proofs.YthifgodgfhbnfaaGreatDoor
open Go Go.Abs
structure Fits (m : M) : Prop where
 funcs : m.funcs.length ≤ 2 ^ 47
 params : ∀ f ∈ m.funcs, f.params.length ≤ 2 ^ 47
 locals : ∀ f ∈ m.funcs, f.locals.length ≤ 2 ^ 47
 lists : ∀ f ∈ m.funcs, f.lists.length ≤ 2 ^ 47
 rows : ∀ f ∈ m.funcs, ∀ l ∈ f.lists, l.length ≤ 2 ^ 47
structure SmallF (f : F) : Prop where
 params : f.params.length ≤ 3000
 locals : f.locals.length ≤ 3000
 lists : f.lists.length ≤ 300
 rows : ∀ l ∈ f.lists, l.length ≤ 3000
def BO (fv : AV) (m : M) (mb : Nat) (σ1 : AS) (a : Nat → AV) (τ : AS) : Prop := ∃ (i z : Nat), i ≤ m.funcs.length ∧ z ≤ 3000 ∧ a 1 = .ptr mb 0 ∧ a 3 = .int .i64 (z : Int) ∧ a 4 = .int .i64 (i : Int) ∧ Adds σ1 τ ∧ ∀ j f, j < i → m.funcs[j]? = some f → SmallF f
def BN (m : M) (mb fb : Nat) (σ1 : AS) (i : Nat) (f : F) (base : Nat) (a : Nat → AV) (τ : AS) : Prop := ∃ (k : Nat) (z : Int), k ≤ f.lists.length ∧ a 1 = .ptr mb 0 ∧ a 4 = .int .i64 (i : Int) ∧ a 5 = .ptr fb 0 ∧ a 6 = .int .i64 (k : Int) ∧ a 3 = .int .i64 z ∧ Adds σ1 τ ∧ (f.lists.length ≤ 300 → z = ((base + sumC id (f.lists.take k) : Nat) : Int))
theorem sumC_take_succ {ls : To} {k : Nat} (h : k < ls.length) : sumC id (ls.take (k + 1)) = sumC id (ls.take k) + ls[k].length := by
 rw [List.take_succ_eq_append_getElem h, sumC_append]
 simp [sumC]
theorem sumC_bound {ls : To} {B : Nat} (h : ∀ l ∈ ls, l.length ≤ B) : sumC id ls ≤ ls.length * B := by
 induction ls with
 | nil => simp [sumC]
 | cons l ls ih =>
  have h1 := h l (by simp)
  have h2 := ih fun x hx => h x (by simp [hx])
  simp only [sumC, List.map_cons, List.sum_cons, List.length_cons, id] at h2 ⊢
  rw [Nat.add_mul]; omega
theorem sumC_mem {ls : To} {l : List W} (h : l ∈ ls) : l.length ≤ sumC id ls := by
 induction ls with
 | nil => simp at h
 | cons x ls ih =>
  simp only [sumC, List.map_cons, List.sum_cons, id] at ih ⊢
  rcases List.mem_cons.1 h with rfl | h
  ·omega
  ·have := ih h; omega
set_option maxRecDepth 20000 in
theorem big_calls {G : Env} {σ : AS} {R : Out → AS → Prop} {mv : AV} {m : M} (hm : MV mv m) (hf : Fits m) (h : ∀ b σ', (b = false → m.funcs.length ≤ 12 ∧ ∀ f ∈ m.funcs, SmallF f) → Adds σ σ' → R (.ret (.bool b)) σ') : ACalls Tryz.prog G 4 [mv] σ R := by
 refine calls4 rfl ?_
 obtain ⟨fv, rfl, hfs⟩ := hm
 have f1 := hfs.one
 have hfl := hfs.len
 by_cases hb : (12 : Int) < (m.funcs.length : Int)
 ·simp [pc4, hfl, f1, hb]
  exact h true _ (by simp) (Adds.refl σ).newO
 ·simp [pc4, hfl, f1, hb]
  have A1 : Adds σ (σ.newO [fv, AV.int IntKind.i64 m.memory, AV.int IntKind.i64 m.main]) := (Adds.refl σ).newO
  have hm1 : (σ.newO [fv, AV.int IntKind.i64 m.memory, AV.int IntKind.i64 m.main]).objs σ.no = some [fv, .int .i64 m.memory, .int .i64 m.main] := by simp
  have hno1 : (σ.newO [fv, AV.int IntKind.i64 m.memory, AV.int IntKind.i64 m.main]).no = σ.no + 1 := by simp
  generalize σ.newO [fv, AV.int IntKind.i64 m.memory, AV.int IntKind.i64 m.main] = σ1 at *
  refine aloop (BO fv m σ.no σ1) (MU 4 (m.funcs.length + 1)) ⟨0, 0, by omega, by omega, by simp, by simp, by simp, .refl _, fun j f hj => by omega⟩ fun a τ hI => ?_
  obtain ⟨i, z, hi, hz, a1, a3, a4, A, hall⟩ := hI
  have hm2 := (A.obj σ.no (by omega)).trans hm1
  by_cases hlt : i < m.funcs.length
  ·obtain ⟨b, rv, hfv, hix⟩ := hfs.at hlt
   have hmem := List.getElem_mem hlt
   have hget : m.funcs[i]? = some m.funcs[i] := List.getElem?_eq_getElem hlt
   have q1 := hf.params _ hmem
   have q2 := hf.locals _ hmem
   have q3 := hf.lists _ hmem
   have q4 := hf.rows _ hmem
   generalize m.funcs[i] = f at *
   obtain ⟨pv, lv, tv, rfl, hp, hl, ht⟩ := hfv
   have p1 := hp.one
   have l1 := hl.one
   have t1 := ht.one
   have hpl := hp.len
   have hll := hl.len
   have htl := ht.len
   have w1 : IntKind.wrap .i64 ((z : Int) + (f.params.length : Int)) = (z : Int) + (f.params.length : Int) := by rw [wrap_i64] <;> omega
   have w2 : IntKind.wrap .i64 ((z : Int) + (f.params.length : Int) + (f.locals.length : Int)) = (z : Int) + (f.params.length : Int) + (f.locals.length : Int) := by rw [wrap_i64] <;> omega
   have w3 : IntKind.wrap .i64 ((z : Int) + (f.params.length : Int) + (f.locals.length : Int) + (f.lists.length : Int)) = (z : Int) + (f.params.length : Int) + (f.locals.length : Int) + (f.lists.length : Int) := by rw [wrap_i64] <;> omega
   have hlt' : (i : Int) < (m.funcs.length : Int) := by omega
   have hmn : σ.no ≠ τ.no := by have := A.no; omega
   simp [pc4_l2, a1, a3, a4, hm2, hfl, f1, hlt, hix, p1, l1, t1, hpl, hll, htl, w1, w2, w3, splice]
   have A3 : Adds τ ((τ.newO [AV.str [], AV.nilsl, AV.nilsl, AV.int IntKind.i64 0, AV.nilsl]).setO τ.no [AV.str f.name, pv, lv, AV.int IntKind.i64 f.type, tv]) := ((Adds.refl τ).newO).setO (Nat.le_refl _)
   have hf3 : ((τ.newO [AV.str [], AV.nilsl, AV.nilsl, AV.int IntKind.i64 0, AV.nilsl]).setO τ.no [AV.str f.name, pv, lv, AV.int IntKind.i64 f.type, tv]).objs τ.no = some [.str f.name, pv, lv, .int .i64 f.type, tv] := by simp
   have hn3 : ((τ.newO [AV.str [], AV.nilsl, AV.nilsl, AV.int IntKind.i64 0, AV.nilsl]).setO τ.no [AV.str f.name, pv, lv, AV.int IntKind.i64 f.type, tv]).no = τ.no + 1 := by simp
   generalize (τ.newO [AV.str [], AV.nilsl, AV.nilsl, AV.int IntKind.i64 0, AV.nilsl]).setO τ.no [AV.str f.name, pv, lv, AV.int IntKind.i64 f.type, tv] = σ3 at *
   have hbase : f.lists.length ≤ 300 → ((z : Int) + (f.params.length : Int) + (f.locals.length : Int) + (f.lists.length : Int)) = ((z + f.params.length + f.locals.length + f.lists.length + sumC id (f.lists.take 0) : Nat) : Int) := fun _ => by simp [sumC]
   refine aloop (BN m σ.no τ.no σ3 i f (z + f.params.length + f.locals.length + f.lists.length)) (MU 6 (f.lists.length + 1)) ⟨0, _, by omega, by simp [a1], by simp [a4], by simp, by simp, by simp, .refl _, hbase⟩ fun b ρ hJ => ?_
   obtain ⟨k, y, hk, b1, b4, b5, b6, b3, A4, hy⟩ := hJ
   have hf4 := (A4.obj τ.no (by omega)).trans hf3
   by_cases hkl : k < f.lists.length
   ·obtain ⟨b', rv, hrep, hix2⟩ := ht.at hkl
    have hrl := q4 _ (List.getElem_mem hkl)
    have r1 := hrep.one
    have hrlen := hrep.len
    have w5 : IntKind.wrap .i64 ((k : Int) + 1) = ((k + 1 : Nat) : Int) := by rw [wrap_i64] <;> omega
    simp [pc4_l1, b1, b4, b5, b6, b3, hf4, htl, hkl, hix2, r1, hrlen, w5]
    refine ⟨⟨k + 1, IntKind.wrap .i64 (y + (f.lists[k].length : Int)), by omega, by simp [b1], by simp [b4], by simp [b5], by simp, by simp, A4, fun h3 => ?_⟩, ?_⟩
    ·have e := hy h3
     have hB := sumC_bound (ls := f.lists.take k) (B := 2 ^ 47) fun l hl => q4 l (List.mem_of_mem_take hl)
     have hkk : (f.lists.take k).length ≤ 300 := by rw [List.length_take]; omega
     have hB2 : sumC id (f.lists.take k) ≤ 300 * 2 ^ 47 := Nat.le_trans hB (Nat.mul_le_mul_right _ hkk)
     rw [sumC_take_succ hkl, e, wrap_i64] <;> omega
    ·simp only [MU, b6]; simp; omega
   ·have he : k = f.lists.length := by omega
    subst he
    rw [List.take_length] at hy
    have w5 : IntKind.wrap .i64 ((i : Int) + 1) = ((i + 1 : Nat) : Int) := by have := hf.funcs; rw [wrap_i64] <;> omega
    by_cases hbig : (3000 : Int) < y
    ·simp [pc4_l1, pc4_r1, b5, b6, b3, hf4, htl, hbig]
     exact h true _ (by simp) (A1.trans (A.trans (A3.trans A4)))
    ·by_cases hbl : (300 : Int) < (f.lists.length : Int)
     ·simp [pc4_l1, pc4_r1, b5, b6, b3, hf4, htl, hbig, hbl]
      exact h true _ (by simp) (A1.trans (A.trans (A3.trans A4)))
     ·simp [pc4_l1, pc4_r1, pc4_r2, b4, b5, b6, b3, hf4, htl, hbig, hbl, w5]
      have e := hy (by omega)
      refine ⟨⟨i + 1, y.toNat, by omega, by omega, by simp [b1], by simp [b3]; omega, by simp, A.trans (A3.trans A4), fun j g hj hg => ?_⟩, ?_⟩
      ·by_cases ej : j = i
       ·subst ej
        rw [hget] at hg
        cases hg
        exact ⟨by omega, by omega, by omega, fun l hl => by have := sumC_mem hl; omega⟩
       ·exact hall j g (by omega) hg
      ·simp only [MU, a4]; simp; omega
  ·have he : i = m.funcs.length := by omega
   subst he
   simp [pc4_l2, pc4_r3, a1, a4, hm2, hfl, f1]
   refine h false _ (fun _ => ⟨by omega, fun f hf => ?_⟩) (A1.trans A)
   obtain ⟨j, hj, rfl⟩ := List.mem_iff_getElem.1 hf
   exact hall j _ hj (List.getElem?_eq_getElem hj)
end Go.Proofs.YthifgodgfhbnfaaGreatDoor
set_option linter.unusedSimpArgs false
set_option linter.unusedVariables false
namespace Go.Proofs.YthifgodgfhbnfaaGreatDoor
open Go Go.Abs
def SJ (va vb : AV) (p q : List Int) (σ : AS) (a : Nat → AV) (τ : AS) : Prop := ∃ i : Nat, i ≤ p.length ∧ a 0 = va ∧ a 1 = vb ∧ a 5 = .int .i64 (i : Int) ∧ τ = σ ∧ p.take i = q.take i
theorem sameInts_calls {G : Env} {σ : AS} {R : Out → AS → Prop} {va vb : AV} {p q : List Int} (ha : IntsV va p) (hb : IntsV vb q) (hl : p.length ≤ 2 ^ 40) (h : R (.ret (.bool (decide (p = q)))) σ) : ACalls Tryz.prog G 23 [va, vb] σ R := by
 refine calls23 rfl ?_
 have hal := ha.len
 have hbl := hb.len
 by_cases he : p.length = q.length
 ·have he' : (p.length : Int) = (q.length : Int) := by omega
  simp [pc23, hal, hbl, he]
  refine aloop (SJ va vb p q σ) (MU 5 (p.length + 1)) ⟨0, by omega, by simp, by simp, by simp, rfl, by simp⟩ fun a τ hI => ?_
  obtain ⟨i, hi, a0, a1, a5, rfl, ht⟩ := hI
  by_cases hlt : i < p.length
  ·have hlq : i < q.length := by omega
   obtain ⟨b1, hx1⟩ := ha.at hlt
   obtain ⟨b2, hx2⟩ := hb.at hlq
   have w5 : IntKind.wrap .i64 ((i : Int) + 1) = ((i + 1 : Nat) : Int) := by rw [wrap_i64] <;> omega
   by_cases hv : p[i] = q[i]
   ·simp [pc23_l1, a0, a1, a5, hal, hlt, hx1, hx2, hv, w5]
    refine ⟨⟨i + 1, by omega, by simp [a0], by simp [a1], by simp, rfl, ?_⟩, ?_⟩
    ·rw [List.take_succ_eq_append_getElem hlt, List.take_succ_eq_append_getElem hlq, ht, hv]
    ·simp only [MU, a5]; simp; omega
   ·have hne : p ≠ q := by rintro rfl; exact hv rfl
    rw [decide_eq_false hne] at h
    simp [pc23_l1, a0, a1, a5, hal, hlt, hx1, hx2, hv]
    exact h
  ·have e : i = p.length := by omega
   subst e
   rw [List.take_length, List.take_of_length_le (by omega)] at ht
   rw [decide_eq_true ht] at h
   simp [pc23_l1, pc23_r1, a0, a1, a5, hal]
   exact h
 ·have hne : p ≠ q := by rintro rfl; exact he rfl
  rw [decide_eq_false hne] at h
  have he' : ¬ (p.length : Int) = (q.length : Int) := by omega
  simp [pc23, hal, hbl, he']
  exact h
end Go.Proofs.YthifgodgfhbnfaaGreatDoor
set_option linter.unusedSimpArgs false
set_option linter.unusedVariables false
namespace Go.Proofs.YthifgodgfhbnfaaGreatDoor
open Go Go.Abs
structure Less (f f' : F) : Prop where
 name : f'.name = f.name
 params : f'.params = f.params
 locals : f'.locals = f.locals
 type : f'.type = f.type
 lists : f'.lists.length ≤ f.lists.length
 size : sumC id f'.lists ≤ sumC id f.lists
 good : ∀ l ∈ f'.lists, Good l
end Go.Proofs.YthifgodgfhbnfaaGreatDoor
set_option linter.unusedSimpArgs false
set_option linter.unusedVariables false
namespace Go.Proofs.YthifgodgfhbnfaaGreatDoor
open Go Go.Abs
end Go.Proofs.YthifgodgfhbnfaaGreatDoor
set_option linter.unusedSimpArgs false
set_option linter.unusedVariables false
namespace Go.Proofs.YthifgodgfhbnfaaGreatDoor
open Go Go.Abs
def OutG (τ : AS) (base sz : Nat) (v : AV) (ys : List AV) : Prop := (ys = [] ∧ v = .nilsl) ∨ ∃ g, v = .sl (.fam g false) sz ys ∧ base ≤ g ∧ g < τ.nf ∧ τ.F g = .alive
theorem OutG.keep {τ τ' : AS} {base sz : Nat} {v : AV} {ys : List AV} (h : OutG τ base sz v ys) (A : Adds τ τ') : OutG τ' base sz v ys := by
 rcases h with h | ⟨g, rfl, h1, h2, h3⟩
 ·exact .inl h
 ·have := A.nf
  exact .inr ⟨g, rfl, h1, by omega, (A.fam g h2).trans h3⟩
def CpI (sz : Nat) (v : AV) (xs : List AV) (σ : AS) (a : Nat → AV) (τ : AS) : Prop := ∃ i : Nat, i ≤ xs.length ∧ a 0 = v ∧ a 4 = .int .i64 (i : Int) ∧ OutG τ σ.nf sz (a 3) (xs.take i) ∧ Adds σ τ
theorem take_snoc {α : Type} {l : List α} {i : Nat} {x : α} (h : l[i]? = some x) : l.take (i + 1) = l.take i ++ [x] := by
 obtain ⟨hi, rfl⟩ := List.getElem?_eq_some_iff.1 h
 exact List.take_succ_eq_append_getElem hi
theorem copyInts_calls {G : Env} {v : AV} {l : List Int} {σ : AS} {R : Out → AS → Prop} (hv : IntsV v l) (hl : l.length ≤ 2 ^ 40) (h : ∀ v' σ', IntsV v' l → Adds σ σ' → R (.ret v') σ') : ACalls Tryz.prog G 19 [v] σ R := by
 refine freezing (calls19 rfl ?_)
 have v1 := hv.one
 have v2 := hv.len
 simp [pc19]
 refine aloop (CpI 1 v (l.map (.int .i64)) σ) (MU 4 (l.length + 1)) ⟨0, by omega, by simp, by simp, .inl ⟨by simp, by simp⟩, .refl _⟩ fun a τ hI => ?_
 obtain ⟨i, hi, a0, a4, hO, hA⟩ := hI
 have hi : i ≤ l.length := by simpa using hi
 by_cases hlt : i < l.length
 ·obtain ⟨b, hix⟩ := hv.at hlt
  have hget : (l.map (AV.int .i64))[i]? = some (.int .i64 l[i]) := by simp [hlt]
  have w1 : IntKind.wrap .i64 ((i : Int) + 1) = ((i + 1 : Nat) : Int) := by rw [wrap_i64] <;> omega
  have htl : (l.take i).length = i := by simp; omega
  have ts := take_snoc hget
  generalize l[i] = x at *
  rcases hO with ⟨he, h3⟩ | ⟨g, h3, h4, h5, h6⟩
  ·simp [pc19_l1, a0, a4, v1, v2, hlt, hix, h3, w1]
   refine ⟨⟨i + 1, by simp; omega, by simp [a0], by simp, .inr ⟨τ.nf, ?_, hA.nf, by simp, by simp⟩, hA.newF⟩, ?_⟩
   ·rw [ts, he]; simp
   ·simp only [MU, a4]; simp; omega
  ·simp [pc19_l1, a0, a4, v1, v2, hlt, hix, h3, w1, h6]
   have hgn := hA.nf
   refine ⟨by omega, ⟨i + 1, by simp; omega, by simp [a0], by simp, .inr ⟨τ.nf, ?_, hgn, by simp, by simp⟩, ?_⟩, ?_⟩
   ·rw [ts]; simp
   ·exact ⟨by simpa using hA.no, by simp; omega, fun o ho => by simpa using hA.obj o ho, fun f hf => by
     have : f ≠ g := by omega
     simp [this]
     rw [if_neg (by omega)]
     exact hA.fam f hf⟩
   ·simp only [MU, a4]; simp; omega
 ·have he : i = l.length := by omega
  have hlt' : ¬ (i : Int) < (l.length : Int) := by omega
  have htk : (l.map (AV.int .i64)).take i = l.map (AV.int .i64) := List.take_of_length_le (by simp; omega)
  rw [htk] at hO
  rcases hO with ⟨hn, h3⟩ | ⟨g, h3, h4, h5, h6⟩
  ·simp [pc19_l1, pc19_r1, a0, a4, v1, v2, hlt, h3]
   exact .inl (h _ _ (.inl ⟨by simpa using hn, rfl⟩) hA)
  ·simp [pc19_l1, pc19_r1, a0, a4, v1, v2, hlt, h3]
   refine .froze g (fun _ => false) h6 ?_
   have := h (.sl (.stat false) 1 (l.map (.int .i64))) (τ.frz g fun _ => false) (.inr ⟨_, rfl⟩) (hA.frz h4 fun _ _ => rfl)
   simpa [Function.comp_def] using this
theorem copyWs_calls {G : Env} {v : AV} {l : List W} {σ : AS} {R : Out → AS → Prop} (hv : RepL v l) (hl : l.length ≤ 2 ^ 40) (h : ∀ v' σ', RepL v' l → Adds σ σ' → R (.ret v') σ') : ACalls Tryz.prog G 78 [v] σ R := by
 refine freezing (calls78 rfl ?_)
 have v1 := hv.one
 have v2 := hv.len
 simp [pc78]
 refine aloop (CpI 6 v (l.map W.av) σ) (MU 4 (l.length + 1)) ⟨0, by omega, by simp, by simp, .inl ⟨by simp, by simp⟩, .refl _⟩ fun a τ hI => ?_
 obtain ⟨i, hi, a0, a4, hO, hA⟩ := hI
 have hi : i ≤ l.length := by simpa using hi
 by_cases hlt : i < l.length
 ·obtain ⟨b, hix⟩ := hv.at hlt
  have hget : (l.map W.av)[i]? = some l[i].av := by simp [hlt]
  have w1 : IntKind.wrap .i64 ((i : Int) + 1) = ((i + 1 : Nat) : Int) := by rw [wrap_i64] <;> omega
  have ts := take_snoc hget
  generalize l[i] = x at *
  rcases hO with ⟨he, h3⟩ | ⟨g, h3, h4, h5, h6⟩
  ·simp [pc78_l1, a0, a4, v1, v2, hlt, hix, h3, w1, W.av, W.cs]
   refine ⟨⟨i + 1, by simp; omega, by simp [a0], by simp, .inr ⟨τ.nf, ?_, hA.nf, by simp, by simp⟩, hA.newF⟩, ?_⟩
   ·rw [ts, he]; simp [W.av, W.cs]
   ·simp only [MU, a4]; simp; omega
  ·have htl : ((l.map W.av).take i).length = i := by simp; omega
   generalize (l.map W.av).take i = done at *
   simp [pc78_l1, a0, a4, v1, v2, hlt, hix, h3, w1, h6, W.av, W.cs]
   have hgn := hA.nf
   refine ⟨by omega, ⟨i + 1, by simp; omega, by simp [a0], by simp, .inr ⟨τ.nf, ?_, hgn, by simp, by simp⟩, ?_⟩, ?_⟩
   ·rw [ts]; simp [W.av, W.cs]
   ·exact ⟨by simpa using hA.no, by simp; omega, fun o ho => by simpa using hA.obj o ho, fun f hf => by
     have : f ≠ g := by omega
     simp [this]
     rw [if_neg (by omega)]
     exact hA.fam f hf⟩
   ·simp only [MU, a4]; simp; omega
 ·have he : i = l.length := by omega
  have hlt' : ¬ (i : Int) < (l.length : Int) := by omega
  have htk : (l.map W.av).take i = l.map W.av := List.take_of_length_le (by simp; omega)
  rw [htk] at hO
  rcases hO with ⟨hn, h3⟩ | ⟨g, h3, h4, h5, h6⟩
  ·simp [pc78_l1, pc78_r1, a0, a4, v1, v2, hlt, h3]
   exact .inl (h _ _ (.inl ⟨by simpa using hn, rfl⟩) hA)
  ·simp [pc78_l1, pc78_r1, a0, a4, v1, v2, hlt, h3]
   refine .froze g (fun _ => false) h6 ?_
   have := h (.sl (.stat false) 6 (l.map W.av)) (τ.frz g fun _ => false) (.inr ⟨_, rfl⟩) (hA.frz h4 fun _ _ => rfl)
   rw [frz_sl_fam, if_pos rfl, frz_Ws]
   exact this
def CpL (v : AV) (l : To) (σ : AS) (a : Nat → AV) (τ : AS) : Prop := ∃ (i : Nat) (rows : List AV), i ≤ l.length ∧ a 0 = v ∧ a 4 = .int .i64 (i : Int) ∧ All2 RepL rows (l.take i) ∧ OutG τ σ.nf 1 (a 3) rows ∧ Adds σ τ
theorem copyLists_calls {G : Env} {v : AV} {l : To} {σ : AS} {R : Out → AS → Prop} (hv : ListsV v l) (hl : l.length ≤ 2 ^ 40) (hr : ∀ r ∈ l, r.length ≤ 2 ^ 40) (h : ∀ v' σ', ListsV v' l → Adds σ σ' → R (.ret v') σ') : ACalls Tryz.prog G 54 [v] σ R := by
 refine freezing (calls54 rfl ?_)
 have v1 := hv.one
 have v2 := hv.len
 simp [pc54]
 refine aloop (CpL v l σ) (MU 4 (l.length + 1)) ⟨0, [], by omega, by simp, by simp, by simpa using All2.nil, .inl ⟨rfl, by simp⟩, .refl _⟩ fun a τ hI => ?_
 obtain ⟨i, rows, hi, a0, a4, hR, hO, hA⟩ := hI
 by_cases hlt : i < l.length
 ·obtain ⟨b, rv, hrv, hix⟩ := hv.at hlt
  have hget : l[i]? = some l[i] := List.getElem?_eq_getElem hlt
  have w1 : IntKind.wrap .i64 ((i : Int) + 1) = ((i + 1 : Nat) : Int) := by rw [wrap_i64] <;> omega
  have ts := take_snoc hget
  have hrl := hr _ (List.getElem_mem hlt)
  generalize l[i] = row at *
  have r1 := hrv.one
  have hlen : rows.length = i := by rw [hR.length]; simp; omega
  simp [pc54_l1, a0, a4, v1, v2, hlt, hix, r1]
  refine copyWs_calls hrv hrl fun rv' σ1 hrv' A1 => ?_
  have q1 := hrv'.one
  have hO1 := hO.keep A1
  have hA1 := hA.trans A1
  have hR1 : All2 RepL (rows ++ [rv']) (l.take (i + 1)) := by rw [ts]; exact hR.append (.cons hrv' .nil)
  have hgn := hA1.nf
  rcases hO1 with ⟨rfl, h3⟩ | ⟨g, h3, h4, h5, h6⟩
  ·simp [q1, h3, w1, a4]
   refine ⟨⟨i + 1, [rv'], by omega, by simp [a0], by simp, by simpa using hR1, .inr ⟨σ1.nf, by simp, hgn, by simp, by simp⟩, hA1.newF⟩, ?_⟩
   simp only [MU, a4]; simp; omega
  ·simp [q1, h3, w1, h6, a4]
   refine ⟨by omega, ⟨i + 1, rows ++ [rv'], by omega, by simp [a0], by simp, hR1, .inr ⟨σ1.nf, by simp, hgn, by simp, by simp⟩, ?_⟩, ?_⟩
   ·exact ⟨by simpa using hA1.no, by simp; omega, fun o ho => by simpa using hA1.obj o ho, fun f hf => by
     have : f ≠ g := by omega
     simp [this]
     rw [if_neg (by omega)]
     exact hA1.fam f hf⟩
   ·simp only [MU, a4]; simp; omega
 ·have hlt' : ¬ (i : Int) < (l.length : Int) := by omega
  have htk : l.take i = l := List.take_of_length_le (by omega)
  rw [htk] at hR
  rcases hO with ⟨rfl, h3⟩ | ⟨g, h3, h4, h5, h6⟩
  ·simp [pc54_l1, pc54_r1, a0, a4, v1, v2, hlt, h3]
   have hn : l = [] := by have := hR.length; exact List.length_eq_zero_iff.1 (by simpa using this.symm)
   exact .inl (h _ _ (.inl ⟨hn, rfl⟩) hA)
  ·simp [pc54_l1, pc54_r1, a0, a4, v1, v2, hlt, h3]
   refine .froze g (fun _ => false) h6 ?_
   have := h (.sl (.stat false) 1 rows) (τ.frz g fun _ => false) (.inr ⟨_, _, rfl, hR⟩) (hA.frz h4 fun _ _ => rfl)
   rw [frz_sl_fam, if_pos rfl, frz_rows hR]
   exact this
theorem copyF_calls {G : Env} {v : AV} {f : F} {σ : AS} {R : Out → AS → Prop} (hv : FV v f) (h1 : f.params.length ≤ 2 ^ 40) (h2 : f.locals.length ≤ 2 ^ 40) (h3 : f.lists.length ≤ 2 ^ 40) (h4 : ∀ r ∈ f.lists, r.length ≤ 2 ^ 40) (h : ∀ v' σ', FV v' f → Adds σ σ' → R (.ret v') σ') : ACalls Tryz.prog G 36 [v] σ R := by
 refine calls36 rfl ?_
 obtain ⟨pv, lv, tv, rfl, hp, hl, ht⟩ := hv
 have p1 := hp.one
 have l1 := hl.one
 have t1 := ht.one
 simp [pc36, p1, l1, t1]
 have o1 : ((σ.newO [AV.str f.name, pv, lv, AV.int IntKind.i64 f.type, tv]).newO [AV.str [], AV.nilsl, AV.nilsl, AV.int IntKind.i64 0, AV.nilsl]).objs σ.no = some [AV.str f.name, pv, lv, AV.int IntKind.i64 f.type, tv] := by simp
 have o2 : ((σ.newO [AV.str f.name, pv, lv, AV.int IntKind.i64 f.type, tv]).newO [AV.str [], AV.nilsl, AV.nilsl, AV.int IntKind.i64 0, AV.nilsl]).objs (σ.no + 1) = some [AV.str [], AV.nilsl, AV.nilsl, AV.int IntKind.i64 0, AV.nilsl] := by simp
 have n1 : ((σ.newO [AV.str f.name, pv, lv, AV.int IntKind.i64 f.type, tv]).newO [AV.str [], AV.nilsl, AV.nilsl, AV.int IntKind.i64 0, AV.nilsl]).no = σ.no + 2 := by simp
 have A1 : Adds σ ((σ.newO [AV.str f.name, pv, lv, AV.int IntKind.i64 f.type, tv]).newO [AV.str [], AV.nilsl, AV.nilsl, AV.int IntKind.i64 0, AV.nilsl]) := (Adds.refl σ).newO.newO
 generalize (σ.newO [AV.str f.name, pv, lv, AV.int IntKind.i64 f.type, tv]).newO [AV.str [], AV.nilsl, AV.nilsl, AV.int IntKind.i64 0, AV.nilsl] = σ1 at *
 refine copyInts_calls hp h1 fun pv' σ2 hp' A2 => ?_
 have p2 := hp'.one
 have o1 := (A2.obj _ (by omega)).trans o1
 have o2 := (A2.obj _ (by omega)).trans o2
 have n2 := A2.no
 have A2 := A1.trans A2
 simp [p2, o1, l1, splice]
 have o1 : (σ2.setO σ.no [AV.str f.name, pv', lv, AV.int IntKind.i64 f.type, tv]).objs σ.no = some [AV.str f.name, pv', lv, AV.int IntKind.i64 f.type, tv] := by simp
 have o2 : (σ2.setO σ.no [AV.str f.name, pv', lv, AV.int IntKind.i64 f.type, tv]).objs (σ.no + 1) = some [AV.str [], AV.nilsl, AV.nilsl, AV.int IntKind.i64 0, AV.nilsl] := by simp [o2]
 have n3 : (σ2.setO σ.no [AV.str f.name, pv', lv, AV.int IntKind.i64 f.type, tv]).no = σ2.no := by simp
 have A3 : Adds σ (σ2.setO σ.no [AV.str f.name, pv', lv, AV.int IntKind.i64 f.type, tv]) := A2.setO (Nat.le_refl _)
 generalize σ2.setO σ.no [AV.str f.name, pv', lv, AV.int IntKind.i64 f.type, tv] = σ3 at *
 refine copyInts_calls hl h2 fun lv' σ4 hl' A4 => ?_
 have l2 := hl'.one
 have o1 := (A4.obj _ (by omega)).trans o1
 have o2 := (A4.obj _ (by omega)).trans o2
 have n4 := A4.no
 have A4 := A3.trans A4
 simp [p2, l2, o1, t1, splice]
 have o1 : (σ4.setO σ.no [AV.str f.name, pv', lv', AV.int IntKind.i64 f.type, tv]).objs σ.no = some [AV.str f.name, pv', lv', AV.int IntKind.i64 f.type, tv] := by simp
 have o2 : (σ4.setO σ.no [AV.str f.name, pv', lv', AV.int IntKind.i64 f.type, tv]).objs (σ.no + 1) = some [AV.str [], AV.nilsl, AV.nilsl, AV.int IntKind.i64 0, AV.nilsl] := by simp [o2]
 have n5 : (σ4.setO σ.no [AV.str f.name, pv', lv', AV.int IntKind.i64 f.type, tv]).no = σ4.no := by simp
 have A5 : Adds σ (σ4.setO σ.no [AV.str f.name, pv', lv', AV.int IntKind.i64 f.type, tv]) := A4.setO (Nat.le_refl _)
 generalize σ4.setO σ.no [AV.str f.name, pv', lv', AV.int IntKind.i64 f.type, tv] = σ5 at *
 refine copyLists_calls ht h3 h4 fun tv' σ6 ht' A6 => ?_
 have t2 := ht'.one
 have o1 := (A6.obj _ (by omega)).trans o1
 have o2 := (A6.obj _ (by omega)).trans o2
 have n6 := A6.no
 have A6 := A5.trans A6
 simp [p2, l2, t2, o1, o2, splice]
 exact h _ _ ⟨pv', lv', tv', rfl, hp', hl', ht'⟩ ((A6.setO (Nat.le_refl _)).setO (by omega))
def CpF (v : AV) (l : List F) (σ : AS) (a : Nat → AV) (τ : AS) : Prop := ∃ (i : Nat) (rows : List AV), i ≤ l.length ∧ a 0 = v ∧ a 4 = .int .i64 (i : Int) ∧ All2 FV rows (l.take i) ∧ OutG τ σ.nf 5 (a 3) rows ∧ Adds σ τ
theorem frz_fs {rows : List AV} {l : List F} (h : All2 FV rows l) (g : Nat) : rows.map (frz g) = rows := by
 induction h with
 | nil => rfl
 | cons h r ih => simp [h.frz g, ih]
theorem copyFs_calls {G : Env} {v : AV} {l : List F} {σ : AS} {R : Out → AS → Prop} (hv : FsV v l) (hl : l.length ≤ 2 ^ 40) (h1 : ∀ f ∈ l, f.params.length ≤ 2 ^ 40) (h2 : ∀ f ∈ l, f.locals.length ≤ 2 ^ 40) (h3 : ∀ f ∈ l, f.lists.length ≤ 2 ^ 40) (h4 : ∀ f ∈ l, ∀ r ∈ f.lists, r.length ≤ 2 ^ 40)
  (h : ∀ v' σ', FsV v' l → Adds σ σ' → R (.ret v') σ') : ACalls Tryz.prog G 18 [v] σ R := by
 refine freezing (calls18 rfl ?_)
 have v1 := hv.one
 have v2 := hv.len
 simp [pc18]
 refine aloop (CpF v l σ) (MU 4 (l.length + 1)) ⟨0, [], by omega, by simp, by simp, by simpa using All2.nil, .inl ⟨rfl, by simp⟩, .refl _⟩ fun a τ hI => ?_
 obtain ⟨i, rows, hi, a0, a4, hR, hO, hA⟩ := hI
 by_cases hlt : i < l.length
 ·obtain ⟨b, rv, hrv, hix⟩ := hv.at hlt
  have hget : l[i]? = some l[i] := List.getElem?_eq_getElem hlt
  have w1 : IntKind.wrap .i64 ((i : Int) + 1) = ((i + 1 : Nat) : Int) := by rw [wrap_i64] <;> omega
  have ts := take_snoc hget
  have hm := List.getElem_mem hlt
  have b1 := h1 _ hm
  have b2 := h2 _ hm
  have b3 := h3 _ hm
  have b4 := h4 _ hm
  generalize l[i] = f at *
  have hlen : rows.length = i := by rw [hR.length]; simp; omega
  have hrv0 := hrv
  obtain ⟨pv, lv, tv, rfl, hp, hll, ht⟩ := hrv
  have p1 := hp.one
  have l1 := hll.one
  have t1 := ht.one
  simp [pc18_l1, a0, a4, v1, v2, hlt, hix, p1, l1, t1]
  refine copyF_calls hrv0 b1 b2 b3 b4 fun rv' σ1 hrv' A1 => ?_
  have hO1 := hO.keep A1
  have hA1 := hA.trans A1
  have hR1 : All2 FV (rows ++ [rv']) (l.take (i + 1)) := by rw [ts]; exact hR.append (.cons hrv' .nil)
  have hgn := hA1.nf
  obtain ⟨pv', lv', tv', rfl, hp', hl', ht'⟩ := hrv'
  have p2 := hp'.one
  have l2 := hl'.one
  have t2 := ht'.one
  rcases hO1 with ⟨rfl, h3⟩ | ⟨g, h3, h4, h5, h6⟩
  ·simp [p2, l2, t2, h3, w1, a4]
   refine ⟨⟨i + 1, _, by omega, by simp [a0], by simp, by simpa using hR1, .inr ⟨σ1.nf, by simp, hgn, by simp, by simp⟩, hA1.newF⟩, ?_⟩
   simp only [MU, a4]; simp; omega
  ·simp [p2, l2, t2, h3, w1, h6, a4]
   refine ⟨by omega, ⟨i + 1, _, by omega, by simp [a0], by simp, hR1, .inr ⟨σ1.nf, by simp, hgn, by simp, by simp⟩, ?_⟩, ?_⟩
   ·exact ⟨by simpa using hA1.no, by simp; omega, fun o ho => by simpa using hA1.obj o ho, fun f hf => by
     have : f ≠ g := by omega
     simp [this]
     rw [if_neg (by omega)]
     exact hA1.fam f hf⟩
   ·simp only [MU, a4]; simp; omega
 ·have hlt' : ¬ (i : Int) < (l.length : Int) := by omega
  have htk : l.take i = l := List.take_of_length_le (by omega)
  rw [htk] at hR
  rcases hO with ⟨rfl, h3⟩ | ⟨g, h3, h4, h5, h6⟩
  ·simp [pc18_l1, pc18_r1, a0, a4, v1, v2, hlt, h3]
   have hn : l = [] := by have := hR.length; exact List.length_eq_zero_iff.1 (by simpa using this.symm)
   exact .inl (h _ _ (.inl ⟨hn, rfl⟩) hA)
  ·simp [pc18_l1, pc18_r1, a0, a4, v1, v2, hlt, h3]
   refine .froze g (fun _ => false) h6 ?_
   have := h (.sl (.stat false) 5 rows) (τ.frz g fun _ => false) (.inr ⟨_, _, rfl, hR⟩) (hA.frz h4 fun _ _ => rfl)
   rw [frz_sl_fam, if_pos rfl, frz_fs hR]
   exact this
theorem copyM_calls {G : Env} {mv : AV} {m : M} {σ : AS} {R : Out → AS → Prop} (hm : MV mv m) (hl : m.funcs.length ≤ 2 ^ 40) (h1 : ∀ f ∈ m.funcs, f.params.length ≤ 2 ^ 40) (h2 : ∀ f ∈ m.funcs, f.locals.length ≤ 2 ^ 40) (h3 : ∀ f ∈ m.funcs, f.lists.length ≤ 2 ^ 40) (h4 : ∀ f ∈ m.funcs, ∀ r ∈ f.lists, r.length ≤ 2 ^ 40)
  (h : ∀ v' σ', MV v' m → Adds σ σ' → R (.ret v') σ') : ACalls Tryz.prog G 7 [mv] σ R := by
 refine calls7 rfl ?_
 obtain ⟨fv, rfl, hfs⟩ := hm
 have f1 := hfs.one
 simp [pc7, f1]
 refine copyFs_calls hfs hl h1 h2 h3 h4 fun fv' σ2 hfs' A2 => ?_
 have f2 := hfs'.one
 have o1 := A2.obj σ.no (by simp; omega)
 have o2 := A2.obj (σ.no + 1) (by simp)
 have hn := A2.no
 simp at o1 o2
 simp at hn
 simp [f2, o1, o2, splice]
 have A : Adds σ σ2 := (Adds.refl σ).newO.newO.trans A2
 exact h _ _ ⟨fv', rfl, hfs'⟩ ((A.setO (Nat.le_refl _)).setO (by omega))
end Go.Proofs.YthifgodgfhbnfaaGreatDoor
set_option linter.unusedSimpArgs false
set_option linter.unusedVariables false
namespace Go.Proofs.YthifgodgfhbnfaaGreatDoor.Rf
open Go Go.Abs Go.Proofs.YthifgodgfhbnfaaGreatDoor
section
variable {G : Env} {σ : AS} {R : Out → AS → Prop}
theorem names_calls {w : W} (h : ∀ v, IntsV v (namesL w) → R (.ret v) (σ.newO w.cs)) : ACalls Tryz.prog G 45 [w.av] σ R := by
 refine calls45 rfl ?_
 obtain ⟨wop, wty, wn, wbody, wother, wname⟩ := w
 by_cases h1 : wop < 11
 ·have e : namesL ⟨wop, wty, wn, wbody, wother, wname⟩ = [] := by unfold namesL; simp only; rw [if_neg (by omega), if_neg (by omega)]
  have := h .nilsl (.inl ⟨e, rfl⟩)
  simp [pc45, W.av, W.cs, h1] at this ⊢
  exact this
 by_cases h2 : 13 < wop
 ·have e : namesL ⟨wop, wty, wn, wbody, wother, wname⟩ = [] := by unfold namesL; simp only; rw [if_neg (by omega), if_neg (by omega)]
  have := h .nilsl (.inl ⟨e, rfl⟩)
  simp [pc45, W.av, W.cs, h1, h2] at this ⊢
  exact this
 by_cases h3 : wop = 13
 ·subst h3
  by_cases h4 : 0 ≤ wother
  ·have e : namesL ⟨13, wty, wn, wbody, wother, wname⟩ = [wbody, wother] := by simp [namesL, show ¬ wother < 0 by omega]
   have := h (.sl (.stat true) 1 [.int .i64 wbody, .int .i64 wother]) (.inr ⟨true, by rw [e]; rfl⟩)
   simp [pc45, W.av, W.cs, h4] at this ⊢
   exact this
  ·have e : namesL ⟨13, wty, wn, wbody, wother, wname⟩ = [wbody] := by simp [namesL, show wother < 0 by omega]
   have := h (.sl (.stat true) 1 [.int .i64 wbody]) (.inr ⟨true, by rw [e]; rfl⟩)
   simp [pc45, W.av, W.cs, h4] at this ⊢
   exact this
 ·have e : namesL ⟨wop, wty, wn, wbody, wother, wname⟩ = [wbody] := by unfold namesL; simp only; rw [if_pos (by omega)]
  have := h (.sl (.stat true) 1 [.int .i64 wbody]) (.inr ⟨true, by rw [e]; rfl⟩)
  simp [pc45, W.av, W.cs, h1, h2, h3] at this ⊢
  exact this
theorem flat_intsR (l : List Int) : flat (l.map (AV.int .i64)) = l.map (AV.int .i64) := by
 induction l with
 | nil => rfl
 | cons a l ih => simp only [flat, List.map_cons, List.flatMap_cons] at ih ⊢; rw [ih]; rfl
theorem splice_one {l : List AV} {n : Nat} {v : AV} (h : n < l.length) : splice l n [v] = l.set n v := by
 rw [List.set_eq_take_append_cons_drop, if_pos h]; simp [splice]
def counts (L : Nat) (P : List Int) : List AV := (List.range L).map fun (i : Nat) => .int .i64 ((P.count (i : Int) : Nat) : Int)
theorem counts_len (L : Nat) (P : List Int) : (counts L P).length = L := by simp [counts]
theorem counts_at {L i : Nat} (P : List Int) (h : i < L) : (counts L P)[i]? = some (.int .i64 ((P.count (i : Int) : Nat) : Int)) := by simp [counts, h]
theorem counts_set {L i : Nat} (P : List Int) (h : i < L) : splice (counts L P) i [.int .i64 ((P.count (i : Int) : Nat) + 1 : Int)] = counts L (P ++ [(i : Int)]) := by
 rw [splice_one (by rw [counts_len]; exact h)]
 apply List.ext_getElem?
 intro j
 rw [List.getElem?_set]
 by_cases hj : j < L
 ·rw [counts_at (P ++ [(i : Int)]) hj, List.count_append]
  by_cases hij : i = j
  ·subst hij
   rw [if_pos rfl, if_pos (by rw [counts_len]; exact h)]
   simp
  ·rw [if_neg hij, counts_at _ hj]
   have : List.count (j : Int) [(i : Int)] = 0 := by
    rw [List.count_singleton]
    have : ¬ ((i : Int) == (j : Int)) = true := by simp; omega
    simp [this]
   rw [this, Nat.add_zero]
 ·have e1 : (counts L (P ++ [(i : Int)]))[j]? = none := List.getElem?_eq_none (by rw [counts_len]; omega)
  rw [e1]
  by_cases hij : i = j
  ·omega
  ·rw [if_neg hij]
   exact List.getElem?_eq_none (by rw [counts_len]; omega)
theorem counts_zero (L : Nat) : flat (List.replicate L (AV.int .i64 0)) = counts L [] := by
 have e : List.replicate L (AV.int .i64 0) = (List.replicate L (0 : Int)).map (.int .i64) := by simp
 rw [e, flat_intsR]
 apply List.ext_getElem?
 intro j
 by_cases hj : j < L
 ·rw [counts_at _ hj]; simp [hj]
 ·rw [List.getElem?_eq_none (by simp; omega), List.getElem?_eq_none (by rw [counts_len]; omega)]
structure NB (σ : AS) (fc : List AV) (L A : Nat) (P : List Int) (a : Nat → AV) (τ : AS) : Prop where
 a1 : a 1 = .ptr σ.no 0
 a3 : a 3 = .slm (σ.no + 1) 0 1 L
 a4 : a 4 = .int .i64 (A : Int)
 o1 : τ.objs σ.no = some fc
 o2 : τ.objs (σ.no + 1) = some (counts L P)
 A : Adds σ τ
 lt : σ.no + 1 < τ.no
def NI3 (σ : AS) (fc : List AV) (ls : To) (a : Nat → AV) (τ : AS) : Prop := ∃ A : Nat, A ≤ ls.length ∧ NB σ fc ls.length A (rowsN (ls.take A)) a τ ∧ ∀ (i : Nat) r, i < A → ls[i]? = some r → ∀ n ∈ rowN r, 0 ≤ n ∧ n < (i : Int)
def NI2 (σ : AS) (fc : List AV) (ls : To) (A : Nat) (row : List W) (a : Nat → AV) (τ : AS) : Prop := ∃ I : Nat, I ≤ row.length ∧ a 5 = .int .i64 (I : Int) ∧ NB σ fc ls.length A (rowsN (ls.take A) ++ rowN (row.take I)) a τ ∧ ∀ n ∈ rowN (row.take I), 0 ≤ n ∧ n < (A : Int)
def NI1 (σ : AS) (fc : List AV) (ls : To) (A I : Nat) (row : List W) (w : W) (nv : AV) (a : Nat → AV) (τ : AS) : Prop := ∃ K : Nat, K ≤ (namesL w).length ∧ a 5 = .int .i64 (I : Int) ∧ a 6 = nv ∧ a 7 = .int .i64 (K : Int) ∧ NB σ fc ls.length A (rowsN (ls.take A) ++ rowN (row.take I) ++ (namesL w).take K) a τ ∧ ∀ n ∈ (namesL w).take K, 0 ≤ n ∧ n < (A : Int)
def NI4 (σ : AS) (ls : To) (a : Nat → AV) (τ : AS) : Prop := ∃ A : Nat, A ≤ ls.length ∧ a 3 = .slm (σ.no + 1) 0 1 ls.length ∧ a 8 = .int .i64 (A : Int) ∧ τ.objs (σ.no + 1) = some (counts ls.length (rowsN ls)) ∧ Adds σ τ ∧ ∀ i : Nat, i < A → i + 1 < ls.length → (rowsN ls).count (i : Int) = 1
theorem rowsN_take {ls : To} {A : Nat} {row : List W} (h : ls[A]? = some row) : rowsN (ls.take (A + 1)) = rowsN (ls.take A) ++ rowN row := by
 rw [take_snoc h]; simp [rowsN]
theorem rowN_take {row : List W} {I : Nat} {w : W} (h : row[I]? = some w) : rowN (row.take (I + 1)) = rowN (row.take I) ++ namesL w := by
 rw [take_snoc h]; simp [rowN]
theorem sub_count {ls : To} {A I K : Nat} {row : List W} {w : W} (h : ls[A]? = some row) (hw : row[I]? = some w) : (rowsN (ls.take A) ++ rowN (row.take I) ++ (namesL w).take K).length ≤ (rowsN ls).length := by
 have e1 : ls = ls.take (A + 1) ++ ls.drop (A + 1) := (List.take_append_drop _ _).symm
 have e2 : row = row.take (I + 1) ++ row.drop (I + 1) := (List.take_append_drop _ _).symm
 have e3 : (rowsN ls).length = (rowsN (ls.take A)).length + (rowN row).length + (rowsN (ls.drop (A + 1))).length := by
  conv => lhs; rw [e1]
  have : rowsN (ls.take (A + 1) ++ ls.drop (A + 1)) = rowsN (ls.take (A + 1)) ++ rowsN (ls.drop (A + 1)) := by simp only [rowsN, List.flatMap_append]
  rw [this, rowsN_take h]; simp; omega
 have e4 : (rowN row).length = (rowN (row.take I)).length + (namesL w).length + (rowN (row.drop (I + 1))).length := by
  conv => lhs; rw [e2]
  have : rowN (row.take (I + 1) ++ row.drop (I + 1)) = rowN (row.take (I + 1)) ++ rowN (row.drop (I + 1)) := by simp only [rowN, List.flatMap_append]
  rw [this, rowN_take hw]; simp; omega
 simp only [List.length_append, List.length_take]
 omega
set_option maxRecDepth 10000 in
set_option maxHeartbeats 4000000 in
theorem named_calls {fv : AV} {f : F} (hf : FV fv f) (hl : f.lists.length ≤ 2 ^ 38) (hr : ∀ r ∈ f.lists, r.length ≤ 2 ^ 38) (hN : (rowsN f.lists).length ≤ 2 ^ 40) (h : ∀ b σ', (b = true → listsE f.lists = .ok ()) → Adds σ σ' → R (.ret (.bool b)) σ') : ACalls Tryz.prog G 30 [fv] σ R := by
 refine calls30 rfl ?_
 obtain ⟨pv, lv, tv, rfl, hpv, hlv, htv⟩ := hf
 have t1 := htv.one
 have t2 := htv.len
 simp [pc30, t1, t2]
 have nA : ∀ x y, Adds σ ((σ.newO x).newO y) := fun x y => ((Adds.refl σ).newO).newO
 by_cases hz : f.lists = []
 ·simp [hz]
  exact h false _ (by simp) (Adds.refl σ).newO
 have hz' : f.lists.length ≠ 0 := fun e => hz (List.length_eq_zero_iff.1 e)
 simp [hz, t1, t2]
 have am : ∀ (τ : AS) (K : AV → AS → Prop), K (.slm τ.no 0 1 f.lists.length) (τ.newO (counts f.lists.length [])) → amake Tryz.prog 25 (.int .i64 (f.lists.length : Int)) (.int .i64 (f.lists.length : Int)) τ K := fun τ K hk => by
  refine ⟨1, 8, .int .i64 0, by simp, by simp, by simp, rfl, rfl, rfl, by omega, by omega, by simp; omega, ?_⟩
  rw [Int.toNat_natCast, counts_zero]
  exact hk
 refine am _ _ ?_
 simp
 refine aloop (NI3 σ [.str f.name, pv, lv, .int .i64 f.type, tv] f.lists) (MU 4 (f.lists.length + 1)) ⟨0, by omega, ⟨by simp, by simp, by simp, by simp, by simp [rowsN], nA _ _, by simp⟩, fun i r hi => by omega⟩ fun a τ hI => ?_
 obtain ⟨A, hA, nb, hv⟩ := hI
 have b1 := nb.a1
 have b3 := nb.a3
 have b4 := nb.a4
 have c1 := nb.o1
 have c2 := nb.o2
 by_cases hlt : A < f.lists.length
 ·have hlt' : (A : Int) < (f.lists.length : Int) := by omega
  have hrow : f.lists[A]? = some f.lists[A] := List.getElem?_eq_getElem hlt
  have hrl := hr _ (List.getElem_mem hlt)
  obtain ⟨lb, rv, hrv, hlx⟩ := htv.at hlt
  generalize f.lists[A] = row at *
  have r1 := hrv.one
  have r2 := hrv.len
  simp [pc30_l3, b1, b3, b4, c1, t1, t2, hlt']
  refine aloop (NI2 σ [.str f.name, pv, lv, .int .i64 f.type, tv] f.lists A row) (MU 5 (row.length + 1)) ⟨0, by omega, by simp, ⟨by simp [b1], by simp [b3], by simp [b4], c1, by simpa [rowN] using c2, nb.A, nb.lt⟩, by simp [rowN]⟩ fun a2 τ2 hI2 => ?_
  obtain ⟨I, hI, d5, nb2, hv2⟩ := hI2
  have e1 := nb2.a1
  have e3 := nb2.a3
  have e4 := nb2.a4
  have g1 := nb2.o1
  have g2 := nb2.o2
  by_cases hlt2 : I < row.length
  ·have hlt2' : (I : Int) < (row.length : Int) := by omega
   have hwg : row[I]? = some row[I] := List.getElem?_eq_getElem hlt2
   obtain ⟨wb, hwx⟩ := hrv.at hlt2
   generalize row[I] = w at *
   have sc := fun K => sub_count (K := K) hrow hwg
   have et := rowN_take hwg
   obtain ⟨wop, wty, wn, wbody, wother, wname⟩ := w
   simp [pc30_l2, d5, e1, e3, e4, g1, t1, t2, hlx, r1, r2, hlt2', hwx, W.av, W.cs]
   refine names_calls (w := ⟨wop, wty, wn, wbody, wother, wname⟩) fun nv hnv => ?_
   have v1 := hnv.len
   have q1 : ¬ σ.no = τ2.no := by have := nb2.lt; omega
   have q2 : ¬ σ.no + 1 = τ2.no := by have := nb2.lt; omega
   simp
   refine aloop (NI1 σ [.str f.name, pv, lv, .int .i64 f.type, tv] f.lists A I row ⟨wop, wty, wn, wbody, wother, wname⟩ nv) (MU 7 ((namesL ⟨wop, wty, wn, wbody, wother, wname⟩).length + 1)) ⟨0, by omega, by simp [d5], by simp, by simp, ⟨by simp [e1], by simp [e3], by simp [e4], by simp [q1, g1], by simp [q2]; exact g2, nb2.A.newO, by have := nb2.lt; simp; omega⟩, by simp⟩ fun a3 τ3 hI3 => ?_
   obtain ⟨K, hK, f5, f6, f7, nb3, hv3⟩ := hI3
   have j1 := nb3.a1
   have j3 := nb3.a3
   have j4 := nb3.a4
   have k1 := nb3.o1
   have k2 := nb3.o2
   by_cases hlt3 : K < (namesL ⟨wop, wty, wn, wbody, wother, wname⟩).length
   ·have hlt3' : (K : Int) < ((namesL ⟨wop, wty, wn, wbody, wother, wname⟩).length : Int) := by omega
    have hng : (namesL ⟨wop, wty, wn, wbody, wother, wname⟩)[K]? = some (namesL ⟨wop, wty, wn, wbody, wother, wname⟩)[K] := List.getElem?_eq_getElem hlt3
    have htk := take_snoc hng
    obtain ⟨nb', hnx⟩ := hnv.at hlt3
    have sc1 := sc K
    generalize (namesL ⟨wop, wty, wn, wbody, wother, wname⟩)[K] = n at *
    by_cases hn0 : n < 0
    ·simp [pc30_l1, f5, f6, f7, j1, j3, j4, v1, hlt3', hnx, hn0]
     exact h false _ (by simp) nb3.A
    by_cases hnA : (A : Int) ≤ n
    ·simp [pc30_l1, f5, f6, f7, j1, j3, j4, v1, hlt3', hnx, hn0, hnA]
     exact h false _ (by simp) nb3.A
    obtain ⟨ni, hni⟩ := Int.eq_ofNat_of_zero_le (show 0 ≤ n by omega)
    subst hni
    have hniL : ni < f.lists.length := by omega
    have hcg := counts_at (rowsN (f.lists.take A) ++ rowN (row.take I) ++ (namesL ⟨wop, wty, wn, wbody, wother, wname⟩).take K) hniL
    have hcs := counts_set (rowsN (f.lists.take A) ++ rowN (row.take I) ++ (namesL ⟨wop, wty, wn, wbody, wother, wname⟩).take K) hniL
    have hcl := counts_len f.lists.length (rowsN (f.lists.take A) ++ rowN (row.take I) ++ (namesL ⟨wop, wty, wn, wbody, wother, wname⟩).take K)
    have hcc := List.count_le_length (a := (ni : Int)) (l := rowsN (f.lists.take A) ++ rowN (row.take I) ++ (namesL ⟨wop, wty, wn, wbody, wother, wname⟩).take K)
    have htk2 : rowsN (f.lists.take A) ++ rowN (row.take I) ++ (namesL ⟨wop, wty, wn, wbody, wother, wname⟩).take (K + 1) = rowsN (f.lists.take A) ++ rowN (row.take I) ++ (namesL ⟨wop, wty, wn, wbody, wother, wname⟩).take K ++ [(ni : Int)] := by rw [htk]; simp
    generalize hPP : rowsN (f.lists.take A) ++ rowN (row.take I) ++ (namesL ⟨wop, wty, wn, wbody, wother, wname⟩).take K = PP at *
    have w1 : IntKind.wrap .i64 ((PP.count (ni : Int) : Nat) + 1 : Int) = ((PP.count (ni : Int) : Nat) + 1 : Int) := by rw [wrap_i64] <;> omega
    have w2 : IntKind.wrap .i64 ((K : Int) + 1) = ((K + 1 : Nat) : Int) := by
     have : (namesL ⟨wop, wty, wn, wbody, wother, wname⟩).length ≤ 2 := by unfold namesL; split <;> (try split) <;> simp
     rw [wrap_i64] <;> omega
    have hnl' : (ni : Int) < (f.lists.length : Int) := by omega
    simp [pc30_l1, f5, f6, f7, j1, j3, j4, v1, hlt3', hnx, hn0, hnA, k2, hcg, hnl', w1, w2]
    rw [hcl]
    refine ⟨by omega, ⟨K + 1, by omega, by simp [f5], by simp [f6], by simp, ⟨by simp [j1], by simp [j3], by simp [j4], by simp [k1], by rw [htk2, ← hcs]; simp, nb3.A.setO (by omega), by simpa using nb3.lt⟩, fun n hn => ?_⟩, ?_⟩
    ·rw [htk] at hn
     rcases List.mem_append.1 hn with hn | hn
     ·exact hv3 n hn
     ·simp at hn; omega
    ·simp only [MU, f7]; simp; omega
   ·have hKe : K = (namesL ⟨wop, wty, wn, wbody, wother, wname⟩).length := by omega
    subst hKe
    rw [List.take_length] at k2 hv3
    have w2 : IntKind.wrap .i64 ((I : Int) + 1) = ((I + 1 : Nat) : Int) := by rw [wrap_i64] <;> omega
    simp [pc30_l1, pc30_r1, f5, f6, f7, v1, w2]
    refine ⟨⟨I + 1, by omega, by simp, ⟨by simp [j1], by simp [j3], by simp [j4], k1, by rw [et, ← List.append_assoc]; exact k2, nb3.A, nb3.lt⟩, fun n hn => ?_⟩, ?_⟩
    ·rw [et] at hn
     rcases List.mem_append.1 hn with hn | hn
     ·exact hv2 n hn
     ·exact hv3 n hn
    ·simp only [MU, d5]; simp; omega
  ·have hie : I = row.length := by omega
   subst hie
   rw [List.take_length] at g2 hv2
   have w1 : IntKind.wrap .i64 ((A : Int) + 1) = ((A + 1 : Nat) : Int) := by rw [wrap_i64] <;> omega
   have et := rowsN_take hrow
   simp [pc30_l2, pc30_r2, d5, e1, e3, e4, g1, t1, t2, hlx, r1, r2, w1]
   refine ⟨⟨A + 1, by omega, ⟨by simp [e1], by simp [e3], by simp, g1, by rw [et]; exact g2, nb2.A, nb2.lt⟩, fun i r hi hir n hn => ?_⟩, ?_⟩
   ·by_cases hiA : i < A
    ·exact hv i r hiA hir n hn
    ·have : i = A := by omega
     subst this
     rw [hrow] at hir
     cases hir
     exact hv2 n hn
   ·simp only [MU, b4]; simp; omega
 ·have hie : A = f.lists.length := by omega
  subst hie
  rw [List.take_length] at c2
  simp [pc30_l3, pc30_r4, b1, b3, b4, c1, t1, t2]
  refine aloop (NI4 σ f.lists) (MU 8 (f.lists.length + 1)) ⟨0, by omega, by simp [b3], by simp, c2, nb.A, fun i hi => by omega⟩ fun a2 τ2 hI2 => ?_
  obtain ⟨A, hA, d3, d8, g2, hAd, hcn⟩ := hI2
  have w1 : IntKind.wrap .i64 ((A : Int) + 1) = ((A + 1 : Nat) : Int) := by rw [wrap_i64] <;> omega
  by_cases hlt : A + 1 < f.lists.length
  ·have hlt' : (A : Int) + 1 < (f.lists.length : Int) := by omega
   have hlt2 : (A : Int) < (f.lists.length : Int) := by omega
   have hcg := counts_at (L := f.lists.length) (i := A) (rowsN f.lists) (by omega)
   by_cases hc1 : (rowsN f.lists).count (A : Int) = 1
   ·rw [hc1] at hcg
    simp [pc30_l4, d3, d8, g2, w1, hlt', hlt2, hcg]
    refine ⟨⟨A + 1, by omega, by simp [d3], by simp, g2, hAd, fun i hi hil => ?_⟩, ?_⟩
    ·by_cases hiA : i < A
     ·exact hcn i hiA hil
     ·have : i = A := by omega
      subst this
      exact hc1
    ·simp only [MU, d8]; simp; omega
   ·have hc2 : ¬ (((rowsN f.lists).count (A : Int) : Nat) : Int) = 1 := by omega
    simp [pc30_l4, d3, d8, g2, w1, hlt', hlt2, hcg, hc2]
    exact h false _ (by simp) hAd
  ·have hlt' : ¬ (A : Int) + 1 < (f.lists.length : Int) := by omega
   simp [pc30_l4, pc30_r3, d3, d8, w1, hlt']
   exact h true _ (fun _ => listsE_of hz' (fun i r hir => hv i r (List.getElem?_eq_some_iff.1 hir).1 hir) fun i hi => hcn i (by omega) hi) hAd
end
end Go.Proofs.YthifgodgfhbnfaaGreatDoor.Rf
set_option linter.unusedSimpArgs false
set_option linter.unusedVariables false
namespace Go.Proofs.YthifgodgfhbnfaaGreatDoor
open Go Go.Abs
def inT (t v : Int) : Bool := if t = 1 then decide (-(2 ^ 31) ≤ v) && decide (v < 2 ^ 31) else decide (-(2 ^ 63) ≤ v) && decide (v < 2 ^ 63)
structure Mach where
 input : List Int
 steps : Int
 memory : List UInt8
 out : List Int
 calls : Int
structure Fr where
 fn : F
 locals : List Int
 stack : List Int
 result : Int
inductive Ev (α : Type) where
 | ok (a : α) (x : Mach) (r : Fr)
 | over (status code : Int) (x : Mach)
 | bad
def Fr.push (r : Fr) (v : Int) : Fr := { r with stack := r.stack ++ [v] }
def popK {α : Type} (r : Fr) (k : Int → Fr → Ev α) : Ev α := match r.stack.getLast? with
 | none => .bad
 | some v => k v { r with stack := r.stack.dropLast }
def divideW (k : IntKind) (op : List UInt8) (a b : Int) : Int × Int :=
 if b = 0 then (0, 1)
 else if op = [37] ∧ b = -1 then (0, 0)
 else if op = [37] then (a.tmod b, 0)
 else if b = -1 ∧ a ≠ 0 ∧ k.wrap (-a) = a then (0, 2)
 else (k.wrap (a.tdiv b), 0)
def oneB (b : Bool) : Int := if b then 1 else 0
def doesW (k : IntKind) (op : List UInt8) (a b : Int) (width : Int) : Int :=
 let n := bits2 .u64 (· &&& ·) (IntKind.u64.wrap b) (IntKind.u64.wrap (width - 1))
 if op = [43] then k.wrap (a + b)
 else if op = [45] then k.wrap (a - b)
 else if op = [42] then k.wrap (a * b)
 else if op = [38] then bits2 k (· &&& ·) a b
 else if op = [124] then bits2 k (· ||| ·) a b
 else if op = [94] then bits2 k (· ^^^ ·) a b
 else if op = [60, 60] then k.wrap (a * 2 ^ (min n.toNat k.bits))
 else if op = [62, 62] then a.fdiv (2 ^ (min n.toNat k.bits))
 else if op = [61, 61] then oneB (decide (a = b))
 else if op = [33, 61] then oneB (!decide (a = b))
 else if op = [60] then oneB (decide (a < b))
 else if op = [60, 61] then oneB (decide (a ≤ b))
 else if op = [62] then oneB (decide (b < a))
 else if op = [62, 61] then oneB (decide (b ≤ a))
 else 0
def binK (k : IntKind) (op : List UInt8) (a b : Int) (width : Int) : Int × Int :=
 if op = [47] ∨ op = [37] then divideW k op a b else (doesW k op a b width, 0)
def binW (t : Int) (op : List UInt8) (a b : Int) : Int × Int :=
 if t = 1 then (IntKind.i64.wrap (binK .i32 op (IntKind.i32.wrap a) (IntKind.i32.wrap b) 32).1, (binK .i32 op (IntKind.i32.wrap a) (IntKind.i32.wrap b) 32).2)
 else if t = 2 then binK .i64 op a b 64
 else (0, 0)
def numOf : List UInt8 → Int
 | [] => 0
 | c :: l => (c.toNat : Int) + 256 * numOf l
def loadW (l : List UInt8) : Int := if numOf l < 2 ^ (8 * l.length - 1) then numOf l else numOf l - 2 ^ (8 * l.length)
def byteW (v : Int) (i : Nat) : UInt8 := UInt8.ofNat (IntKind.u8.wrap (v.fdiv (2 ^ (8 * i)))).toNat
def cellK {α : Type} (x : Mach) (at_ n : Int) (k : List UInt8 → Ev α) : Ev α :=
 if n < 1 ∨ 8 < n then .bad else if at_ < 0 ∨ (x.memory.length : Int) - n < at_ then .over 2 3 x else k ((x.memory.drop at_.toNat).take n.toNat)
def writeW (mem : List UInt8) (at_ : Nat) (v : Int) (n : Nat) : List UInt8 := mem.take at_ ++ (List.range n).map (byteW v) ++ mem.drop (at_ + n)
abbrev RunR := Mach → Fr → Int → Int → Ev Int
def callW (rec : RunR) (x : Mach) (g : F) (args : List Int) (r : Fr) : Ev Int :=
 if 32 ≤ x.calls then .over 2 4 x
 else match rec { x with calls := x.calls + 1 } ⟨g, args ++ List.replicate g.locals.length 0, [], 0⟩ ((g.lists.length : Int) - 1) 0 with
  | .bad => .bad
  | .over s c x => .over s c x
  | .ok o x f => if o = -1 ∧ g.type ≠ 0 then popK f fun v f' => .ok v { x with calls := x.calls - 1 } r else .ok f.result { x with calls := x.calls - 1 } r
def callingW (fs : List F) (rec : RunR) (x : Mach) (r : Fr) (n : Int) : Ev Unit :=
 if n = 0 then match x.input with
  | [] => .ok () x (r.push 0)
  | v :: l => .ok () { x with input := l } (r.push v)
 else if n = 1 then popK r fun v r => .ok () { x with out := x.out ++ [v] } r
 else if n = 2 then popK r fun v r => .over 2 v x
 else if n < 3 then .bad
 else match fs[(n - 3).toNat]? with
  | none => .bad
  | some g =>
   if r.stack.length < g.params.length then .bad
   else match callW rec x g (r.stack.drop (r.stack.length - g.params.length)) { r with stack := r.stack.take (r.stack.length - g.params.length) } with
    | .bad => .bad
    | .over s c x => .over s c x
    | .ok v x r => .ok () x (if g.type ≠ 0 then r.push v else r)
def plainW (fs : List F) (rec : RunR) (w : W) (x : Mach) (r : Fr) : Ev Unit :=
 if w.op = 1 then .ok () x (r.push w.n)
 else if w.op = 2 then (if w.n < 0 then .bad else match r.locals[w.n.toNat]? with
  | none => .bad
  | some v => .ok () x (r.push v))
 else if w.op = 3 then (if w.n < 0 ∨ (r.locals.length : Int) ≤ w.n then .bad else popK r fun v r => .ok () x { r with locals := r.locals.set w.n.toNat v })
 else if w.op = 4 then popK r fun b r => popK r fun a r => if (inT w.ty a && inT w.ty b) = false then .bad else
  if (binW w.ty (signOf signs w.name) a b).2 ≠ 0 then .over 2 (binW w.ty (signOf signs w.name) a b).2 x else .ok () x (r.push (binW w.ty (signOf signs w.name) a b).1)
 else if w.op = 5 then popK r fun v r => .ok () x (r.push (if v = 0 then 1 else 0))
 else if w.op = 6 then popK r fun v r => .ok () x (r.push (IntKind.i32.wrap v))
 else if w.op = 8 then popK r fun a r => if inT 1 a = false then .bad else cellK x a w.n fun l => .ok () x (r.push (loadW l))
 else if w.op = 9 then popK r fun v r => popK r fun a r => if inT 1 a = false then .bad else cellK x a w.n fun l => .ok () { x with memory := writeW x.memory a.toNat v l.length } r
 else if w.op = 10 then callingW fs rec x r w.n
 else if w.op = 17 then .over 2 5 x
 else if w.op = 18 then popK r fun v r => .ok () x r
 else .ok () x r
def loopA (rec : RunR) (isLoop : Bool) (at_ deep : Int) : Nat → Mach → Fr → Ev Int
 | 0, _, _ => .bad
 | j + 1, x, r => match rec x r at_ deep with
  | .bad => .bad
  | .over s c x => .over s c x
  | .ok o x r => if o = 0 ∧ isLoop = true then loopA rec isLoop at_ deep j x r else .ok (if 0 < o then o - 1 else -1) x r
def aroundW (rec : RunR) (k : Nat) (w : W) (deep : Int) (x : Mach) (r : Fr) : Ev Int :=
 let go (at_ : Int) (r : Fr) := if at_ < 0 then Ev.ok (-1) x r else loopA rec (decide (w.op = 12)) at_ deep k x r
 if w.op = 13 then popK r fun c r => go (if c = 0 then w.other else w.body) r else go w.body r
def outW (w : W) (deep : Int) (x : Mach) (r : Fr) : Ev Int :=
 let go (n : Int) (r : Fr) := if n = deep ∧ r.fn.type ≠ 0 then popK r fun v r => Ev.ok n x { r with result := v } else .ok n x r
 if w.op = 16 then go deep r
 else if w.op = 15 then popK r fun c r => if c = 0 then .ok (-1) x r else go w.n r
 else go w.n r
def okW (deep : Int) (w : W) : Bool := formB w && (decide (¬ (11 ≤ w.op ∧ w.op ≤ 13)) || decide (0 ≤ w.body)) && (decide (w.op ≠ 14 ∧ w.op ≠ 15) || (decide (0 ≤ w.n) && decide (w.n ≤ deep)))
def execW (fs : List F) (rec : RunR) (k : Nat) (deep : Int) (w : W) (x : Mach) (r : Fr) : Ev Int :=
 if okW deep w = false then .bad else
 if w.op = 11 ∨ w.op = 12 ∨ w.op = 13 then aroundW rec k w (deep + 1) x r
 else if w.op = 14 ∨ w.op = 15 ∨ w.op = 16 then outW w deep x r
 else match plainW fs rec w x r with
  | .bad => .bad
  | .over s c x => .over s c x
  | .ok _ x r => .ok (-1) x r
def instrsW (fs : List F) (rec : RunR) (k : Nat) (deep : Int) (height : Nat) : List W → Mach → Fr → Ev Int
 | [], x, r => .ok (-1) x r
 | w :: ws, x, r => if x.steps < 1 then .over 3 0 x else
  match execW fs rec k deep w { x with steps := x.steps - 1 } r with
  | .bad => .bad
  | .over s c x => .over s c x
  | .ok o x r => if o = -1 then instrsW fs rec k deep height ws x r else if r.stack.length < height then .bad else .ok o x { r with stack := r.stack.take height }
def runL (fs : List F) : Nat → RunR
 | 0, _, _, _, _ => .bad
 | k + 1, x, r, at_, deep => if at_ < 0 then .bad else match r.fn.lists[at_.toNat]? with
  | none => .bad
  | some ws => instrsW fs (runL fs k) k deep r.stack.length ws x r
def runM (m : M) (input : List Int) (steps : Int) (k : Nat) : Option (List Int × Int × Int) :=
 if m.main < 0 then none else match m.funcs[m.main.toNat]? with
 | none => none
 | some g => match callW (runL m.funcs k) ⟨input, steps, List.replicate m.memory.toNat 0, [], 0⟩ g [] ⟨g, [], [], 0⟩ with
  | .bad => none
  | .over s c x => some (x.out, s, c)
  | .ok v x _ => some (x.out, 1, v)
end Go.Proofs.YthifgodgfhbnfaaGreatDoor
set_option linter.unusedSimpArgs false
set_option linter.unusedVariables false
namespace Go.Proofs.YthifgodgfhbnfaaGreatDoor
open Go Go.Abs
def Typd : List Int → List Int → Prop
 | [], [] => True
 | v :: vs, t :: ts => inT t v = true ∧ Typd vs ts
 | _, _ => False
theorem Typd.length : ∀ {vs ts : List Int}, Typd vs ts → vs.length = ts.length
 | [], [], _ => rfl
 | v :: vs, t :: ts, h => by simp [Typd.length h.2]
theorem Typd.append : ∀ {vs ts vs' ts' : List Int}, Typd vs ts → Typd vs' ts' → Typd (vs ++ vs') (ts ++ ts')
 | [], [], _, _, _, h => h
 | v :: vs, t :: ts, _, _, h, k => ⟨h.1, Typd.append h.2 k⟩
theorem Typd.split : ∀ {ts1 ts2 vs : List Int}, Typd vs (ts1 ++ ts2) → ∃ vs1 vs2, vs = vs1 ++ vs2 ∧ Typd vs1 ts1 ∧ Typd vs2 ts2
 | [], ts2, vs, h => ⟨[], vs, rfl, trivial, h⟩
 | t :: ts1, ts2, [], h => h.elim
 | t :: ts1, ts2, v :: vs, h => by
  obtain ⟨a, b, e, h1, h2⟩ := Typd.split (ts1 := ts1) h.2
  exact ⟨v :: a, b, by simp [e], ⟨h.1, h1⟩, h2⟩
theorem Typd.snoc {ts vs : List Int} {t : Int} (h : Typd vs (ts ++ [t])) : ∃ l v, vs = l ++ [v] ∧ Typd l ts ∧ inT t v = true := by
 obtain ⟨a, b, e, h1, h2⟩ := Typd.split h
 match b, h2 with
 | [v], h2 => exact ⟨a, v, e, h1, h2.1⟩
theorem Typd.get : ∀ {vs ts : List Int} {i : Nat} {t : Int}, Typd vs ts → ts[i]? = some t → ∃ v, vs[i]? = some v ∧ inT t v = true
 | [], [], i, t, _, h => by simp at h
 | v :: vs, t0 :: ts, 0, t, hf, h => by
  simp at h
  subst h
  exact ⟨v, by simp, hf.1⟩
 | v :: vs, t0 :: ts, i + 1, t, hf, h => by
  obtain ⟨u, h1, h2⟩ := Typd.get hf.2 (i := i) (by simpa using h)
  exact ⟨u, by simpa using h1, h2⟩
theorem Typd.set : ∀ {vs ts : List Int} {i : Nat} {t v : Int}, Typd vs ts → ts[i]? = some t → inT t v = true → Typd (vs.set i v) ts
 | [], [], i, t, v, _, h, _ => by simp at h
 | u :: vs, t0 :: ts, 0, t, v, hf, h, hv => by
  simp at h
  subst h
  exact ⟨hv, hf.2⟩
 | u :: vs, t0 :: ts, i + 1, t, v, hf, h, hv => ⟨hf.1, Typd.set hf.2 (by simpa using h) hv⟩
theorem inT_0 (t : Int) : inT t 0 = true := by unfold inT; split <;> decide
theorem Typd.zeros : ∀ (ts : List Int), Typd (List.replicate ts.length 0) ts
 | [] => trivial
 | t :: ts => ⟨inT_0 t, Typd.zeros ts⟩
theorem inT_long {t v : Int} (h : inT t v = true) : -(2 ^ 63) ≤ v ∧ v < 2 ^ 63 := by
 unfold inT at h
 split at h <;> simp at h <;> omega
theorem inT_of {t v : Int} (h1 : t = 1 → -(2 ^ 31) ≤ v ∧ v < 2 ^ 31) (h2 : -(2 ^ 63) ≤ v ∧ v < 2 ^ 63) : inT t v = true := by
 unfold inT
 split
 ·rename_i h; have := h1 h; simp; omega
 ·simp; omega
theorem wrap32_eq (n : Int) : IntKind.i32.wrap n = if 2 ^ 31 ≤ n % 2 ^ 32 then n % 2 ^ 32 - 2 ^ 32 else n % 2 ^ 32 := by
 by_cases h : (2 : Int) ^ 31 ≤ n % 2 ^ 32
 ·rw [if_pos h]
  simp only [IntKind.wrap, IntKind.bits, IntKind.signed, Bool.true_and]
  exact if_pos (decide_eq_true h)
 ·rw [if_neg h]
  simp only [IntKind.wrap, IntKind.bits, IntKind.signed, Bool.true_and]
  exact if_neg (by simpa using h)
theorem wrap32_range (n : Int) : -(2 ^ 31) ≤ IntKind.i32.wrap n ∧ IntKind.i32.wrap n < 2 ^ 31 := by
 rw [wrap32_eq]
 split <;> omega
theorem wrap64_eq (n : Int) : IntKind.i64.wrap n = if 2 ^ 63 ≤ n % 2 ^ 64 then n % 2 ^ 64 - 2 ^ 64 else n % 2 ^ 64 := by
 by_cases h : (2 : Int) ^ 63 ≤ n % 2 ^ 64
 ·rw [if_pos h]
  simp only [IntKind.wrap, IntKind.bits, IntKind.signed, Bool.true_and]
  exact if_pos (decide_eq_true h)
 ·rw [if_neg h]
  simp only [IntKind.wrap, IntKind.bits, IntKind.signed, Bool.true_and]
  exact if_neg (by simpa using h)
theorem wrap64_range (n : Int) : -(2 ^ 63) ≤ IntKind.i64.wrap n ∧ IntKind.i64.wrap n < 2 ^ 63 := by
 rw [wrap64_eq]
 split <;> omega
theorem wrap8_eq (n : Int) : IntKind.i8.wrap n = if 2 ^ 7 ≤ n % 2 ^ 8 then n % 2 ^ 8 - 2 ^ 8 else n % 2 ^ 8 := by
 by_cases h : (2 : Int) ^ 7 ≤ n % 2 ^ 8
 ·rw [if_pos h]
  simp only [IntKind.wrap, IntKind.bits, IntKind.signed, Bool.true_and]
  exact if_pos (decide_eq_true h)
 ·rw [if_neg h]
  simp only [IntKind.wrap, IntKind.bits, IntKind.signed, Bool.true_and]
  exact if_neg (by simpa using h)
theorem inT_wrap32 (t n : Int) : inT t (IntKind.i32.wrap n) = true := by have := wrap32_range n; exact inT_of (fun _ => this) (by omega)
theorem inT_wrapT {t n : Int} (ht : numberB t = true) (h : wrapT t n = n) (hn : -(2 ^ 63) ≤ n ∧ n < 2 ^ 63) : inT t n = true := by
 refine inT_of (fun h1 => ?_) hn
 subst h1
 unfold wrapT at h
 rw [if_neg (by decide), if_pos rfl] at h
 rw [← h]
 exact wrap32_range n
theorem dropE_stack {s s' : St} (h : dropE s = .ok s') (ha : s.any = false) : s'.any = false ∧ ∃ t, s.stack = s'.stack ++ [t] := by
 unfold dropE at h
 split at h
 ·rw [ha] at h; cases h
 ·rename_i hne
  cases h
  refine ⟨ha, ?_⟩
  have hn : s.stack ≠ [] := fun e => hne (by rw [e]; rfl)
  exact ⟨s.stack.getLast hn, (List.dropLast_concat_getLast hn).symm⟩
theorem takeE_stack : ∀ {ts : List Int} {s s' : St}, takeE ts s = .ok s' → s.any = false → s'.any = false ∧ s.stack = s'.stack ++ ts.reverse
 | [], s, s', h, ha => by simp [takeE] at h; subst h; exact ⟨ha, by simp⟩
 | t :: ts, s, s', h, ha => by
  rw [takeE] at h
  split at h
  ·rename_i hq
   cases hd : dropE s with
   | error e => rw [hd] at h; cases h
   | ok s1 =>
    rw [hd] at h
    obtain ⟨a1, t1, e1⟩ := dropE_stack hd ha
    obtain ⟨a2, e2⟩ := takeE_stack h a1
    refine ⟨a2, ?_⟩
    have : t1 = t := by
     rw [e1] at hq
     simpa using hq
    rw [e1, e2, this]
    simp
  ·cases h
theorem giveS_stack (s : St) (t : Int) : (giveS s t).any = s.any ∧ (giveS s t).stack = s.stack ++ (if t = 0 then [] else [t]) := by
 unfold giveS; split <;> simp
theorem gives_ok {r : Res St} {t : Int} {s' : St} (h : gives r t = .ok s') : ∃ s, r = .ok s ∧ s' = giveS s t := by
 cases r with
 | error e => cases h
 | ok s => exact ⟨s, rfl, by cases h; rfl⟩
theorem returnsE_stack {ty : Int} {s s' : St} (h : returnsE ty s = .ok s') (ha : s.any = false) : s'.any = false ∧ s.stack = s'.stack ++ (if ty = 0 then [] else [ty]) := by
 unfold returnsE at h
 by_cases h0 : ty = 0
 ·rw [if_pos h0] at h ⊢; cases h; exact ⟨ha, by simp⟩
 ·rw [if_neg h0] at h ⊢; have := takeE_stack h ha; simpa using this
def SF (r : Fr) (base ts : List Int) : Prop := ∃ vs, r.stack = base ++ vs ∧ Typd vs ts
theorem SF.pop {α : Type} {r : Fr} {base ts : List Int} {t : Int} {k : Int → Fr → Ev α} (h : SF r base (ts ++ [t])) : ∃ v st, inT t v = true ∧ SF { r with stack := st } base ts ∧ popK r k = k v { r with stack := st } := by
 obtain ⟨vs, e, hf⟩ := h
 obtain ⟨l, v, rfl, h1, h2⟩ := hf.snoc
 refine ⟨v, base ++ l, h2, ⟨l, rfl, h1⟩, ?_⟩
 unfold popK
 rw [e]
 simp [← List.append_assoc]
theorem SF.push {r : Fr} {base ts : List Int} {t v : Int} (h : SF r base ts) (hv : inT t v = true) : SF (r.push v) base (ts ++ [t]) := by
 obtain ⟨vs, e, hf⟩ := h
 exact ⟨vs ++ [v], by simp [Fr.push, e], hf.append ⟨hv, trivial⟩⟩
structure FrOk (fs : List F) (r : Fr) : Prop where
 mem : r.fn ∈ fs
 loc : Typd r.locals (r.fn.params ++ r.fn.locals)
def MOk (x : Mach) : Prop := ∀ v ∈ x.input, -(2 ^ 63) ≤ v ∧ v < 2 ^ 63
structure Beh (d : Int) (x x' : Mach) : Prop where
 steps : x'.steps ≤ x.steps
 low : min x.steps 0 ≤ x'.steps
 out : ∃ l, x'.out = x.out ++ l ∧ (l.length : Int) ≤ x.steps - x'.steps + d
theorem Beh.refl (x) : Beh 0 x x := ⟨Int.le_refl _, by omega, [], by simp, by simp⟩
theorem Beh.trans {d e a b c} (h : Beh d a b) (k : Beh e b c) : Beh (d + e) a c := by
 obtain ⟨h1, h4, l, h2, h3⟩ := h
 obtain ⟨k1, k4, m, k2, k3⟩ := k
 exact ⟨by omega, by omega, l ++ m, by rw [k2, h2, List.append_assoc], by simp; omega⟩
theorem Beh.trans0 {d a b c} (h : Beh 0 a b) (k : Beh d b c) : Beh d a c := by have := h.trans k; simpa using this
theorem Beh.weak {d e x x'} (h : Beh d x x') (hd : d ≤ e) : Beh e x x' := ⟨h.steps, h.low, let ⟨l, a, b⟩ := h.out; ⟨l, a, by omega⟩⟩
theorem Beh.step {x x' : Mach} (h : Beh 1 { x with steps := x.steps - 1 } x') (hx : 1 ≤ x.steps) : Beh 0 x x' ∧ x'.steps < x.steps := by
 obtain ⟨h1, h4, l, h2, h3⟩ := h
 simp only at h1 h2 h3 h4
 exact ⟨⟨by omega, by omega, l, h2, by omega⟩, by omega⟩
def OverOk (s c : Int) : Prop := s = 2 ∨ (s = 3 ∧ c = 0)
def LRes (fs : List F) (x : Mach) (r : Fr) (deep : Int) : Ev Int → Prop
 | .bad => False
 | .over s c x' => Beh 0 x x' ∧ OverOk s c
 | .ok o x' r' => Beh 0 x x' ∧ r'.fn = r.fn ∧ FrOk fs r' ∧ MOk x' ∧ (o = -1 → SF r' r.stack (if deep = 0 ∧ r.fn.type ≠ 0 then [r.fn.type] else [])) ∧
   (o ≠ -1 → 0 ≤ o ∧ o ≤ deep ∧ r'.stack = r.stack ∧ x'.steps < x.steps ∧ 0 < x.steps ∧ (o = deep → r.fn.type ≠ 0 → inT r.fn.type r'.result = true))
def Sound (fs : List F) (rec : RunR) (n : Nat) : Prop := ∀ (x : Mach) (r : Fr) (at_ deep : Int) (K : Nat), FrOk fs r → MOk x → x.steps.toNat < n → 0 ≤ deep → 0 ≤ at_ → at_ < (r.fn.lists.length : Int) →
 lookE fs (r.fn.params ++ r.fn.locals) r.fn.type r.fn.lists K at_ deep = .ok () → LRes fs x r deep (rec x r at_ deep)
def ERes (fs : List F) (d : Int) (x : Mach) (r : Fr) (base : List Int) (s' : St) (deep : Int) : Ev Int → Prop
 | .bad => False
 | .over s c x' => Beh d x x' ∧ OverOk s c
 | .ok o x' r' => Beh d x x' ∧ r'.fn = r.fn ∧ FrOk fs r' ∧ MOk x' ∧ (o = -1 → s'.any = false ∧ SF r' base s'.stack) ∧ (o ≠ -1 → 0 ≤ o ∧ o ≤ deep ∧ (∃ vs, r'.stack = base ++ vs) ∧ (o = deep → r.fn.type ≠ 0 → inT r.fn.type r'.result = true))
def PRes (fs : List F) (x : Mach) (r : Fr) (base : List Int) (s' : St) : Ev Unit → Prop
 | .bad => False
 | .over s c x' => Beh 1 x x' ∧ OverOk s c
 | .ok _ x' r' => Beh 1 x x' ∧ r'.fn = r.fn ∧ FrOk fs r' ∧ MOk x' ∧ s'.any = false ∧ SF r' base s'.stack
theorem functionE_look {fs : List F} {f : F} (h : functionE fs f = .ok ()) : ∃ K, lookE fs (f.params ++ f.locals) f.type f.lists K ((f.lists.length : Int) - 1) 0 = .ok () := by
 unfold functionE at h
 split at h
 ·cases h
 ·split at h
  ·cases h
  ·exact ⟨_, h⟩
theorem fdiv_range {a : Int} {n : Nat} {lo hi : Int} (h1 : lo ≤ a) (h2 : a < hi) (hl : lo ≤ 0) (hh : 0 < hi) : lo ≤ a.fdiv (2 ^ n) ∧ a.fdiv (2 ^ n) < hi := by
 have hp : (0 : Int) < 2 ^ n := Int.pow_pos (by omega)
 rw [Int.fdiv_eq_ediv_of_nonneg _ (by omega)]
 constructor
 ·have := Int.ediv_le_ediv hp (show lo ≤ a from h1)
  have h3 : lo ≤ lo / 2 ^ n := by
   rw [Int.le_ediv_iff_mul_le hp]
   have h1 : (1 : Int) ≤ 2 ^ n := by omega
   have h2 : (-lo) * 1 ≤ (-lo) * 2 ^ n := Int.mul_le_mul_of_nonneg_left h1 (by omega)
   rw [Int.neg_mul, Int.neg_mul] at h2
   omega
  omega
 ·by_cases ha : a < 0
  ·have := Int.ediv_neg_of_neg_of_pos ha hp
   omega
  ·have := Int.ediv_le_self (a := a) (2 ^ n) (by omega)
   omega
end Go.Proofs.YthifgodgfhbnfaaGreatDoor
set_option linter.unusedSimpArgs false
set_option linter.unusedVariables false
namespace Go.Proofs.YthifgodgfhbnfaaGreatDoor
open Go Go.Abs
theorem tmod_range {a b lo hi : Int} (h1 : lo ≤ a) (h2 : a < hi) (hl : lo ≤ 0) (hh : 0 < hi) : lo ≤ a.tmod b ∧ a.tmod b < hi := by
 have e : (a.tmod b).natAbs ≤ a.natAbs := by
  rw [Int.natAbs_tmod]
  exact Nat.mod_le _ _
 by_cases ha : 0 ≤ a
 ·have := Int.tmod_nonneg b ha
  omega
 ·have h3 : a.tmod b ≤ 0 := by
   have := Int.tmod_nonneg b (a := -a) (by omega)
   rw [Int.neg_tmod] at this
   omega
  omega
theorem binK_in {R : Int → Prop} {k : IntKind} (h0 : R 0) (h1 : R 1) (hw : ∀ n, R (k.wrap n)) (hf : ∀ a n, R a → R (a.fdiv (2 ^ n))) (ht : ∀ a b, R a → R (a.tmod b)) {op : List UInt8} {a b w : Int} (ha : R a) : R (binK k op a b w).1 := by
 have ob : ∀ c : Bool, R (oneB c) := fun c => by cases c with | true => exact h1 | false => exact h0
 unfold binK
 split
 ·unfold divideW
  split
  ·exact h0
  split
  ·exact h0
  split
  ·exact ht _ _ ha
  split
  ·exact h0
  ·exact hw _
 ·simp only
  unfold doesW
  simp only
  have ite : ∀ {c : Prop} [Decidable c] {x y : Int}, R x → R y → R (if c then x else y) := fun hx hy => by split <;> assumption
  repeat' first
   | exact hw _
   | exact hf _ _ ha
   | exact ob _
   | exact h0
   | refine ite ?_ ?_
theorem binW_in {t : Int} {op : List UInt8} {a b : Int} (ht : numberB t = true) (ha : inT t a = true) : inT t (binW t op a b).1 = true := by
 have t12 : t = 1 ∨ t = 2 := by simpa [numberB] using ht
 rcases t12 with rfl | rfl
 ·have r : -(2 ^ 31) ≤ (binK .i32 op (IntKind.i32.wrap a) (IntKind.i32.wrap b) 32).1 ∧ (binK .i32 op (IntKind.i32.wrap a) (IntKind.i32.wrap b) 32).1 < 2 ^ 31 :=
   binK_in (R := fun n => -(2 ^ 31) ≤ n ∧ n < 2 ^ 31) (by omega) (by omega) wrap32_range (fun a n h => fdiv_range h.1 h.2 (by omega) (by omega)) (fun a b h => tmod_range h.1 h.2 (by omega) (by omega)) (wrap32_range a)
  unfold binW
  rw [if_pos rfl]
  simp only
  rw [wrap_i64 (by omega) (by omega)]
  exact inT_of (fun _ => r) (by omega)
 ·have r : -(2 ^ 63) ≤ (binK .i64 op a b 64).1 ∧ (binK .i64 op a b 64).1 < 2 ^ 63 :=
   binK_in (R := fun n => -(2 ^ 63) ≤ n ∧ n < 2 ^ 63) (by omega) (by omega) wrap64_range (fun a n h => fdiv_range h.1 h.2 (by omega) (by omega)) (fun a b h => tmod_range h.1 h.2 (by omega) (by omega)) (inT_long ha)
  unfold binW
  rw [if_neg (by decide), if_pos rfl]
  exact inT_of (fun q => by omega) r
def cmpOp (op : List UInt8) : Prop := op = [61, 61] ∨ op = [33, 61] ∨ op = [60] ∨ op = [60, 61] ∨ op = [62] ∨ op = [62, 61]
theorem binK_cmp {k : IntKind} {op : List UInt8} {a b w : Int} (h : cmpOp op) : (binK k op a b w).1 = 0 ∨ (binK k op a b w).1 = 1 := by
 have ob : ∀ c : Bool, oneB c = 0 ∨ oneB c = 1 := fun c => by cases c <;> simp [oneB]
 rcases h with rfl | rfl | rfl | rfl | rfl | rfl <;> exact ob _
theorem binW_cmp {t : Int} {op : List UInt8} {a b : Int} (h : cmpOp op) : inT 1 (binW t op a b).1 = true := by
 unfold binW
 split
 ·rcases binK_cmp (k := .i32) (a := IntKind.i32.wrap a) (b := IntKind.i32.wrap b) (w := 32) h with e | e <;> rw [e]
  ·show inT 1 (IntKind.i64.wrap 0) = true; decide
  ·show inT 1 (IntKind.i64.wrap 1) = true; decide
 split
 ·rcases binK_cmp (k := .i64) (a := a) (b := b) (w := 64) h with e | e <;> rw [e] <;> rfl
 ·decide
theorem sign_mem {s : List UInt8} : ∀ {l : List (List UInt8 × List UInt8)}, signOf l s ≠ [] → (s, signOf l s) ∈ l
 | [], h => absurd rfl h
 | (x, y) :: l, h => by
  unfold signOf at h ⊢
  by_cases e : x = s
  ·rw [if_pos e]; simp [e]
  ·rw [if_neg e] at h ⊢
   exact List.mem_cons_of_mem _ (sign_mem h)
theorem cmpB_op {s : List UInt8} (h : signOf signs s ≠ []) (hc : cmpB s = true) : cmpOp (signOf signs s) := by
 have hm := sign_mem h
 generalize signOf signs s = op at hm
 clear h
 simp only [signs, List.mem_cons, Prod.mk.injEq, List.not_mem_nil, or_false] at hm
 unfold cmpOp
 rcases hm with ⟨rfl, rfl⟩ | ⟨rfl, rfl⟩ | ⟨rfl, rfl⟩ | ⟨rfl, rfl⟩ | ⟨rfl, rfl⟩ | ⟨rfl, rfl⟩ | ⟨rfl, rfl⟩ | ⟨rfl, rfl⟩ | ⟨rfl, rfl⟩ | ⟨rfl, rfl⟩ | ⟨rfl, rfl⟩ | ⟨rfl, rfl⟩ | ⟨rfl, rfl⟩ | ⟨rfl, rfl⟩ | ⟨rfl, rfl⟩ | ⟨rfl, rfl⟩
 all_goals first
  | (exfalso; revert hc; decide)
  | decide
theorem numOf_range : ∀ (l : List UInt8), 0 ≤ numOf l ∧ numOf l < 2 ^ (8 * l.length)
 | [] => by simp [numOf]
 | c :: l => by
  have h := numOf_range l
  have hc := c.toNat_lt
  simp only [numOf, List.length_cons]
  have e : (2 : Int) ^ (8 * (l.length + 1)) = 256 * 2 ^ (8 * l.length) := by
   rw [Nat.mul_add, Int.pow_add, Int.mul_comm]
   rfl
  rw [e]
  have hc' : (c.toNat : Int) < 256 := by omega
  omega
theorem loadW_in {t n : Int} {l : List UInt8} (hb : bytesB t n = true) (hl : (l.length : Int) = n) : inT t (loadW l) = true := by
 have h := numOf_range l
 unfold loadW
 have hn : n = 1 ∨ n = 4 ∨ n = 8 := by simp [bytesB] at hb; omega
 have ht : n = 8 → t = 2 := by simp [bytesB] at hb; omega
 rcases hn with rfl | rfl | rfl
 ·have e : l.length = 1 := by omega
  rw [e] at h ⊢
  simp only [Nat.mul_one] at h ⊢
  split
  ·exact inT_of (fun _ => by omega) (by omega)
  ·exact inT_of (fun _ => by omega) (by omega)
 ·have e : l.length = 4 := by omega
  rw [e] at h ⊢
  simp only [Nat.reduceMul] at h ⊢
  split
  ·exact inT_of (fun _ => by omega) (by omega)
  ·exact inT_of (fun _ => by omega) (by omega)
 ·have e : l.length = 8 := by omega
  rw [e] at h ⊢
  simp only [Nat.reduceMul] at h ⊢
  have := ht rfl
  split
  ·exact inT_of (fun q => by omega) (by omega)
  ·exact inT_of (fun q => by omega) (by omega)
end Go.Proofs.YthifgodgfhbnfaaGreatDoor
set_option linter.unusedSimpArgs false
set_option linter.unusedVariables false
namespace Go.Proofs.YthifgodgfhbnfaaGreatDoor
open Go Go.Abs
def Rng (fs : List F) : Prop := ∀ f ∈ fs, ∀ l ∈ f.lists, ∀ w ∈ l, -(2 ^ 63) ≤ w.n ∧ w.n < 2 ^ 63
section
variable {fs : List F} {rec : RunR} {n : Nat} (hv : ∀ f ∈ fs, functionE fs f = .ok ())
include hv
theorem call_sound (hs : Sound fs rec n) {x : Mach} (hx : x.steps.toNat < n) (hm : MOk x) {g : F} (hg : g ∈ fs) {args : List Int} (ha : Typd args g.params) (r : Fr) :
  match callW rec x g args r with
  | .bad => False
  | .over s c x' => Beh 0 x x' ∧ OverOk s c
  | .ok v x' r' => Beh 0 x x' ∧ r' = r ∧ MOk x' ∧ (g.type ≠ 0 → inT g.type v = true) := by
 unfold callW
 by_cases hc : 32 ≤ x.calls
 ·rw [if_pos hc]; exact ⟨.refl _, .inl rfl⟩
 ·rw [if_neg hc]
  obtain ⟨K, hK⟩ := functionE_look (hv g hg)
  have hl := (listsE_ok (functionE_lists (hv g hg))).1
  have := hs { x with calls := x.calls + 1 } ⟨g, args ++ List.replicate g.locals.length 0, [], 0⟩ ((g.lists.length : Int) - 1) 0 K ⟨hg, ha.append (Typd.zeros _)⟩ hm hx (by omega) (by omega) (by simp only; omega) hK
  revert this
  cases rec { x with calls := x.calls + 1 } ⟨g, args ++ List.replicate g.locals.length 0, [], 0⟩ ((g.lists.length : Int) - 1) 0 with
  | bad => intro h; exact h
  | over s c x' => intro h; exact ⟨⟨h.1.steps, h.1.low, h.1.out⟩, h.2⟩
  | ok o x' f =>
   intro ⟨h1, h2, h3, hm', h4, h5⟩
   simp only at h4 h5 ⊢
   by_cases ho : o = -1 ∧ g.type ≠ 0
   ·rw [if_pos ho]
    have := h4 ho.1
    rw [if_pos ⟨trivial, ho.2⟩] at this
    obtain ⟨v, st, hv1, _, e⟩ := SF.pop (t := g.type) (ts := []) (k := fun v f' => Ev.ok v { x' with calls := x'.calls - 1 } r) this
    rw [e]
    exact ⟨⟨h1.steps, h1.low, h1.out⟩, rfl, hm', fun _ => hv1⟩
   ·rw [if_neg ho]
    refine ⟨⟨h1.steps, h1.low, h1.out⟩, rfl, hm', fun ht => ?_⟩
    have ho1 : o ≠ -1 := fun q => ho ⟨q, ht⟩
    obtain ⟨o0, o1, _, _, _, o2⟩ := h5 ho1
    exact o2 (by omega) ht
theorem plain_sound (hs : Sound fs rec n) {x : Mach} (hx : x.steps.toNat < n) (hm : MOk x) {r : Fr} (hr : FrOk fs r) {w : W} {s s' : St} {base : List Int} (ha : s.any = false) (hst : SF r base s.stack) {deep : Int} (hwn : -(2 ^ 63) ≤ w.n ∧ w.n < 2 ^ 63)
  (hform : formB w = true) (hrg : rangedB fs (r.fn.params ++ r.fn.locals) deep w = true) (hnum : (r.fn.params ++ r.fn.locals).all numberB = true) (hp : plainE fs (r.fn.params ++ r.fn.locals) w s = .ok s') (hop : w.op ≤ 10 ∨ w.op = 18) : PRes fs x r base s' (plainW fs rec w x r) := by
 have b0 : Beh 1 x x := (Beh.refl x).weak (by omega)
 have nz : ∀ {t : Int}, numberB t = true → t ≠ 0 := by
  intro t ht q; subst q; simp [numberB] at ht
 have push : ∀ {x' : Mach} {r1 : Fr} {s1 : St} {t v : Int}, Beh 1 x x' → MOk x' → r1.fn = r.fn → FrOk fs r1 → s1.any = false → SF r1 base s1.stack → t ≠ 0 → inT t v = true → PRes fs x r base (giveS s1 t) (.ok () x' (r1.push v)) := by
  intro x' r1 s1 t v b m e1 e2 a l ht hv
  have g := giveS_stack s1 t
  refine ⟨b, e1, ⟨e2.mem, e2.loc⟩, m, g.1.trans a, ?_⟩
  rw [g.2, if_neg ht]
  exact l.push hv
 have pop : ∀ {r1 : Fr} {t : Int} {ts : List Int} {s2 : St} {k : Int → Fr → Ev Unit}, r1.fn = r.fn → FrOk fs r1 → SF r1 base (ts ++ [t]) → (∀ v (r2 : Fr), inT t v = true → r2.fn = r.fn → FrOk fs r2 → r2.locals = r1.locals → SF r2 base ts → PRes fs x r base s2 (k v r2)) → PRes fs x r base s2 (popK r1 k) := by
  intro r1 t ts s2 k e1 e2 l hk
  obtain ⟨v, st, hv1, hl, e⟩ := l.pop (k := k)
  rw [e]
  exact hk v _ hv1 e1 ⟨e2.mem, e2.loc⟩ rfl hl
 unfold plainE at hp
 unfold plainW
 by_cases h1 : w.op = 1
 ·rw [if_pos h1] at hp ⊢
  cases hp
  have hty : numberB w.ty = true := by simpa [formB, h1] using hform
  refine push b0 hm rfl hr ha hst (nz hty) (inT_wrapT hty ?_ hwn)
  unfold rangedB at hrg
  rw [if_pos h1] at hrg
  simpa using hrg
 rw [if_neg h1] at hp ⊢
 have hloc : ∀ i : Int, 0 ≤ i → i < (((r.fn.params ++ r.fn.locals).length : Nat) : Int) → (r.fn.params ++ r.fn.locals)[i.toNat]? = some (localAt (r.fn.params ++ r.fn.locals) i) ∧ numberB (localAt (r.fn.params ++ r.fn.locals) i) = true := by
  intro i h0 h2
  have hlt2 : i.toNat < (r.fn.params ++ r.fn.locals).length := by omega
  have e : localAt (r.fn.params ++ r.fn.locals) i = (r.fn.params ++ r.fn.locals)[i.toNat] := by
   unfold localAt
   rw [List.getD_eq_getElem?_getD, List.getElem?_eq_getElem hlt2]
   rfl
  rw [e]
  exact ⟨List.getElem?_eq_getElem hlt2, List.all_eq_true.1 hnum _ (List.getElem_mem hlt2)⟩
 by_cases h2 : w.op = 2
 ·rw [if_pos h2] at hp ⊢
  cases hp
  have hr2 : 0 ≤ w.n ∧ w.n < (((r.fn.params ++ r.fn.locals).length : Nat) : Int) := by simpa [rangedB, h1, h2] using hrg
  rw [if_neg (by omega)]
  obtain ⟨q1, q2⟩ := hloc w.n hr2.1 hr2.2
  obtain ⟨v, v1, v2⟩ := hr.loc.get q1
  rw [v1]
  exact push b0 hm rfl hr ha hst (nz q2) v2
 rw [if_neg h2] at hp ⊢
 by_cases h3 : w.op = 3
 ·rw [if_pos h3] at hp ⊢
  have hr2 : 0 ≤ w.n ∧ w.n < (((r.fn.params ++ r.fn.locals).length : Nat) : Int) := by simpa [rangedB, h1, h2, h3] using hrg
  rw [if_neg (by rw [hr.loc.length]; omega)]
  obtain ⟨a1, l1⟩ := takeE_stack hp ha
  obtain ⟨q1, q2⟩ := hloc w.n hr2.1 hr2.2
  rw [l1] at hst
  exact pop (ts := s'.stack) (t := localAt (r.fn.params ++ r.fn.locals) w.n) rfl hr (by simpa using hst) fun v r2 hv1 e1 e2 e3 l => ⟨b0, e1, ⟨e2.mem, by
   simp only
   rw [e1]
   refine Typd.set ?_ q1 hv1
   rw [e3]
   exact hr.loc⟩, hm, a1, l⟩
 rw [if_neg h3] at hp ⊢
 by_cases h4 : w.op = 4
 ·rw [if_pos h4] at hp ⊢
  obtain ⟨s1, e1, rfl⟩ := gives_ok hp
  obtain ⟨a1, l1⟩ := takeE_stack e1 ha
  have hty : numberB w.ty = true ∧ ¬ signOf signs w.name = [] := by
   simpa [formB, h4] using hform
  rw [l1] at hst
  refine pop (ts := s1.stack ++ [w.ty]) (t := w.ty) rfl hr (by simpa using hst) fun b r2 hb e2 e3 _ l2 => ?_
  refine pop (ts := s1.stack) (t := w.ty) e2 e3 l2 fun a r3 hax e4 e5 _ l3 => ?_
  rw [if_neg (show ¬ (inT w.ty a && inT w.ty b) = false by rw [hax, hb]; simp)]
  by_cases htr : (binW w.ty (signOf signs w.name) a b).2 ≠ 0
  ·rw [if_pos htr]
   exact ⟨b0, .inl rfl⟩
  ·rw [if_neg htr]
   refine push b0 hm e4 e5 a1 l3 ?_ ?_
   ·split
    ·omega
    ·exact nz hty.1
   ·split
    ·rename_i hcm
     exact binW_cmp (cmpB_op hty.2 hcm)
    ·exact binW_in hty.1 hax
 rw [if_neg h4] at hp ⊢
 by_cases h5 : w.op = 5
 ·rw [if_pos h5] at hp ⊢
  obtain ⟨s1, e1, rfl⟩ := gives_ok hp
  obtain ⟨a1, l1⟩ := takeE_stack e1 ha
  rw [l1] at hst
  exact pop (ts := s1.stack) (t := w.ty) rfl hr (by simpa using hst) fun v r2 hv1 e1 e2 _ l => push b0 hm e1 e2 a1 l (by omega) (by split <;> decide)
 rw [if_neg h5] at hp ⊢
 by_cases h6 : w.op = 6
 ·rw [if_pos h6] at hp ⊢
  obtain ⟨s1, e1, rfl⟩ := gives_ok hp
  obtain ⟨a1, l1⟩ := takeE_stack e1 ha
  rw [l1] at hst
  exact pop (ts := s1.stack) (t := 2) rfl hr (by simpa using hst) fun v r2 hv1 e1 e2 _ l => push b0 hm e1 e2 a1 l (by omega) (inT_wrap32 _ _)
 rw [if_neg h6] at hp ⊢
 by_cases h7 : w.op = 7
 ·rw [if_pos h7] at hp
  obtain ⟨s1, e1, rfl⟩ := gives_ok hp
  obtain ⟨a1, l1⟩ := takeE_stack e1 ha
  rw [if_neg (by omega), if_neg (by omega), if_neg (by omega), if_neg (by omega), if_neg (by omega)]
  have g := giveS_stack s1 2
  refine ⟨b0, rfl, hr, hm, g.1.trans a1, ?_⟩
  rw [g.2, if_neg (by omega)]
  obtain ⟨vs, v1, v2⟩ := hst
  rw [l1] at v2
  obtain ⟨l0, u, rfl, u1, u2⟩ := Typd.snoc (ts := s1.stack) (t := 1) (by simpa using v2)
  exact ⟨_, v1, u1.append ⟨inT_of (fun q => by omega) (inT_long u2), trivial⟩⟩
 rw [if_neg h7] at hp
 by_cases h8 : w.op = 8
 ·rw [if_pos h8] at hp ⊢
  obtain ⟨s1, e1, rfl⟩ := gives_ok hp
  obtain ⟨a1, l1⟩ := takeE_stack e1 ha
  have hb8 : bytesB w.ty w.n = true := by simpa [formB, h8] using hform
  have hty : w.ty ≠ 0 := by
   intro q
   simp [q, bytesB] at hb8
  have hn : w.n = 1 ∨ w.n = 4 ∨ w.n = 8 := by simp [bytesB] at hb8; omega
  rw [l1] at hst
  refine pop (ts := s1.stack) (t := 1) rfl hr (by simpa using hst) fun a r2 hax e1 e2 _ l => ?_
  rw [if_neg (show ¬ inT 1 a = false by rw [hax]; simp)]
  unfold cellK
  rw [if_neg (by omega)]
  split
  ·exact ⟨b0, .inl rfl⟩
  ·rename_i hle
   refine push b0 hm e1 e2 a1 l hty (loadW_in hb8 ?_)
   simp
   omega
 rw [if_neg h8] at hp ⊢
 by_cases h9 : w.op = 9
 ·rw [if_pos h9] at hp ⊢
  obtain ⟨a1, l1⟩ := takeE_stack hp ha
  have hb9 : bytesB w.ty w.n = true := by simpa [formB, h9] using hform
  have hn : w.n = 1 ∨ w.n = 4 ∨ w.n = 8 := by simp [bytesB] at hb9; omega
  rw [l1] at hst
  refine pop (ts := s'.stack ++ [1]) (t := w.ty) rfl hr (by simpa using hst) fun v r2 hv1 e2 e3 _ l2 => ?_
  refine pop (ts := s'.stack) (t := 1) e2 e3 l2 fun a r3 hax e4 e5 _ l3 => ?_
  rw [if_neg (show ¬ inT 1 a = false by rw [hax]; simp)]
  unfold cellK
  rw [if_neg (by omega)]
  split
  ·exact ⟨b0, .inl rfl⟩
  ·exact ⟨⟨b0.steps, b0.low, b0.out⟩, e4, e5, hm, a1, l3⟩
 rw [if_neg h9] at hp ⊢
 by_cases h10 : w.op = 10
 ·rw [if_pos h10] at hp ⊢
  have hh : (headOf fs w.n).isSome = true := by simpa [rangedB, h1, h2, h3, h10] using hrg
  unfold callingW
  unfold headOf at hp hh
  by_cases n0 : w.n = 0
  ·rw [if_pos n0] at hp ⊢
   simp only [List.reverse_nil] at hp
   obtain ⟨s1, e1, rfl⟩ := gives_ok hp
   cases e1
   cases hi : x.input with
   | nil => exact push b0 hm rfl hr ha hst (by omega) (inT_0 _)
   | cons v l =>
    have hv1 := hm v (by rw [hi]; simp)
    exact push (x' := { x with input := l }) ⟨b0.steps, b0.low, b0.out⟩ (fun u hu => hm u (by rw [hi]; simp [show u ∈ l from hu])) rfl hr ha hst (by omega) (inT_of (fun q => by omega) hv1)
  rw [if_neg n0] at hp hh ⊢
  by_cases n1 : w.n = 1
  ·rw [if_pos n1] at hp ⊢
   simp only [List.reverse_cons, List.reverse_nil, List.nil_append] at hp
   obtain ⟨s1, e1, e9⟩ := gives_ok hp
   have e9 : s' = giveS s1 0 := e9
   obtain ⟨a1, l1⟩ := takeE_stack e1 ha
   rw [l1] at hst
   refine pop (ts := s1.stack) (t := 2) rfl hr (by simpa using hst) fun v r2 hv1 e1 e2 _ l => ?_
   have g := giveS_stack s1 0
   exact ⟨⟨Int.le_refl _, by simp only; omega, [v], rfl, by simp⟩, e1, e2, hm, by rw [e9]; exact g.1.trans a1, by rw [e9, g.2, if_pos rfl]; simpa using l⟩
  rw [if_neg n1] at hp hh ⊢
  by_cases n2 : w.n = 2
  ·rw [if_pos n2] at hp ⊢
   simp only [List.reverse_cons, List.reverse_nil, List.nil_append] at hp
   obtain ⟨s1, e1, e9⟩ := gives_ok hp
   obtain ⟨a1, l1⟩ := takeE_stack e1 ha
   rw [l1] at hst
   exact pop (ts := s1.stack) (t := 1) rfl hr (by simpa using hst) fun v r2 hv1 e1 e2 _ l => ⟨b0, .inl rfl⟩
  rw [if_neg n2] at hp hh ⊢
  by_cases n3 : w.n < 0
  ·rw [if_pos n3] at hh; cases hh
  rw [if_neg n3] at hp hh
  rw [if_neg (by omega)]
  cases hg : fs[(w.n - 3).toNat]? with
  | none => rw [hg] at hh; cases hh
  | some g =>
   rw [hg] at hp
   simp only [Option.map_some] at hp ⊢
   obtain ⟨s1, e1, rfl⟩ := gives_ok hp
   obtain ⟨a1, l1⟩ := takeE_stack e1 ha
   rw [List.reverse_reverse] at l1
   rw [l1] at hst
   obtain ⟨vs, q1, q2⟩ := hst
   obtain ⟨va, vb, rfl, q3, q4⟩ := q2.split
   have hl4 := q4.length
   have hsl : r.stack.length = base.length + va.length + vb.length := by rw [q1]; simp; omega
   have hcut : r.stack.length - g.params.length = base.length + va.length := by omega
   rw [if_neg (by omega), hcut]
   have hd : r.stack.drop (base.length + va.length) = vb := by
    rw [q1, ← List.append_assoc]
    exact List.drop_left' (by simp)
   have ht : r.stack.take (base.length + va.length) = base ++ va := by
    rw [q1, ← List.append_assoc]
    exact List.take_left' (by simp)
   rw [hd, ht]
   have key := call_sound hv hs hx hm (List.mem_of_getElem? hg) (args := vb) q4 { r with stack := base ++ va }
   revert key
   cases callW rec x g vb { r with stack := base ++ va } with
   | bad => exact fun h => h
   | over s c x' => exact fun h => ⟨h.1.weak (by omega), h.2⟩
   | ok v x' r' =>
    intro ⟨k1, k2, k3, k4⟩
    subst k2
    simp only
    by_cases hz : g.type = 0
    ·rw [if_neg (by simpa using hz)]
     have gl := giveS_stack s1 g.type
     exact ⟨k1.weak (by omega), rfl, ⟨hr.mem, hr.loc⟩, k3, gl.1.trans a1, by rw [gl.2, if_pos hz]; exact ⟨va, rfl, by simpa using q3⟩⟩
    ·rw [if_pos hz]
     exact push (k1.weak (by omega)) k3 rfl ⟨hr.mem, hr.loc⟩ a1 ⟨va, rfl, q3⟩ hz (k4 hz)
 rw [if_neg h10] at hp ⊢
 have h18 : w.op = 18 := by
  rcases hop with q | q
  ·exfalso
   simp [formB, h1, h4, h5, h8, h9] at hform
   omega
  ·exact q
 rw [if_pos h18] at hp
 rw [if_neg (by omega), if_pos h18]
 obtain ⟨a1, t, l1⟩ := dropE_stack hp ha
 rw [l1] at hst
 exact pop (ts := s'.stack) (t := t) rfl hr hst fun v r2 hv1 e1 e2 _ l => ⟨b0, e1, e2, hm, a1, l⟩
end
end Go.Proofs.YthifgodgfhbnfaaGreatDoor
set_option linter.unusedSimpArgs false
set_option linter.unusedVariables false
namespace Go.Proofs.YthifgodgfhbnfaaGreatDoor
open Go Go.Abs
section
variable {fs : List F} {rec : RunR} {n : Nat}
theorem loopA_sound (hs : Sound fs rec n) {r0 : Fr} {K : Nat} {at_ deep : Int} (hd : 0 < deep) (h0 : 0 ≤ at_) (h1 : at_ < (r0.fn.lists.length : Int)) (hl : lookE fs (r0.fn.params ++ r0.fn.locals) r0.fn.type r0.fn.lists K at_ deep = .ok ()) (isLoop : Bool) :
  ∀ (j : Nat) (x : Mach) (r : Fr), FrOk fs r → MOk x → r.fn = r0.fn → x.steps.toNat < n → x.steps.toNat < j →
  match loopA rec isLoop at_ deep j x r with
  | .bad => False
  | .over s c x' => Beh 0 x x' ∧ OverOk s c
  | .ok o x' r' => Beh 0 x x' ∧ r'.fn = r.fn ∧ FrOk fs r' ∧ MOk x' ∧ r'.stack = r.stack ∧ (o = -1 ∨ (0 ≤ o ∧ o + 1 ≤ deep ∧ (o + 1 = deep → r.fn.type ≠ 0 → inT r.fn.type r'.result = true)))
 | 0, x, r, _, _, _, _, hj => by omega
 | j + 1, x, r, hr, hm, hf, hx, hj => by
  rw [loopA]
  have key := hs x r at_ deep K hr hm hx (by omega) h0 (by rw [hf]; exact h1) (by rw [hf]; exact hl)
  revert key
  cases rec x r at_ deep with
  | bad => exact fun h => h
  | over s c x' => exact fun h => h
  | ok o x' r' =>
   intro ⟨k1, k2, k3, km, k4, k5⟩
   simp only
   have hst : r'.stack = r.stack := by
    by_cases ho : o = -1
    ·have := k4 ho; rw [if_neg (by omega)] at this
     obtain ⟨vs, e, hf⟩ := this
     have := hf.length
     have hv0 : vs = [] := List.length_eq_zero_iff.1 (by simpa using this)
     rw [e, hv0]
     simp
    ·exact (k5 ho).2.2.1
   by_cases hc : o = 0 ∧ isLoop = true
   ·rw [if_pos hc]
    have hlt := (k5 (by omega)).2.2.2.1
    have hpos := (k5 (by omega)).2.2.2.2.1
    have hb := k1.steps
    have key := loopA_sound hs hd h0 h1 hl isLoop j x' r' k3 km (k2.trans hf) (by omega) (by omega)
    revert key
    cases loopA rec isLoop at_ deep j x' r' with
    | bad => exact fun h => h
    | over s c x2 => exact fun h => ⟨k1.trans0 h.1, h.2⟩
    | ok o2 x2 r2 =>
     intro ⟨j1, j2, j3, j4, j5, j6⟩
     rw [k2] at j6
     exact ⟨k1.trans0 j1, j2.trans k2, j3, j4, j5.trans hst, j6⟩
   ·rw [if_neg hc]
    refine ⟨k1, k2, k3, km, hst, ?_⟩
    by_cases ho : 0 < o
    ·rw [if_pos ho]
     have := k5 (by omega)
     exact .inr ⟨by omega, by omega, fun q => this.2.2.2.2.2 (by omega)⟩
    ·rw [if_neg ho]; exact .inl rfl
theorem around_sound (hs : Sound fs rec n) {k : Nat} {x : Mach} (hx : x.steps.toNat < n) (hm : MOk x) (hxk : x.steps.toNat < k) {r : Fr} (hr : FrOk fs r) {w : W} {base : List Int} {s1 : St} {deep : Int} (hd : 0 ≤ deep) (ha : s1.any = false) (hst : SF r base (s1.stack ++ (if w.op = 13 then [1] else [])))
  (hb : ∃ K, 0 ≤ w.body ∧ w.body < (r.fn.lists.length : Int) ∧ lookE fs (r.fn.params ++ r.fn.locals) r.fn.type r.fn.lists K w.body (deep + 1) = .ok ())
  (ho : w.op = 13 → 0 ≤ w.other → ∃ K, w.other < (r.fn.lists.length : Int) ∧ lookE fs (r.fn.params ++ r.fn.locals) r.fn.type r.fn.lists K w.other (deep + 1) = .ok ()) :
  ERes fs 0 x r base s1 deep (aroundW rec k w (deep + 1) x r) := by
 have go : ∀ (at_ : Int) (r1 : Fr), FrOk fs r1 → r1.fn = r.fn → SF r1 base s1.stack → (0 ≤ at_ → ∃ K, at_ < (r.fn.lists.length : Int) ∧ lookE fs (r.fn.params ++ r.fn.locals) r.fn.type r.fn.lists K at_ (deep + 1) = .ok ()) →
   ERes fs 0 x r base s1 deep (if at_ < 0 then Ev.ok (-1) x r1 else loopA rec (decide (w.op = 12)) at_ (deep + 1) k x r1) := by
  intro at_ r1 hr1 e1 e3 hK
  by_cases h0 : at_ < 0
  ·rw [if_pos h0]
   exact ⟨.refl _, e1, hr1, hm, fun _ => ⟨ha, e3⟩, fun q => absurd rfl q⟩
  ·rw [if_neg h0]
   obtain ⟨K, q1, q2⟩ := hK (by omega)
   have key := loopA_sound hs (r0 := r) (by omega) (by omega) q1 q2 (decide (w.op = 12)) k x r1 hr1 hm e1 hx hxk
   revert key
   cases loopA rec (decide (w.op = 12)) at_ (deep + 1) k x r1 with
   | bad => exact fun h => h
   | over s c x2 => exact fun h => h
   | ok o x2 r2 =>
    intro ⟨k1, k2, k3, km, k4, k5⟩
    obtain ⟨vs, v1, v2⟩ := e3
    refine ⟨k1, k2.trans e1, k3, km, fun _ => ⟨ha, vs, k4.trans v1, v2⟩, fun q => ?_⟩
    rcases k5 with k5 | k5
    ·exact absurd k5 q
    ·exact ⟨k5.1, by omega, ⟨vs, k4.trans v1⟩, fun q1 q2 => by rw [← e1] at q2 ⊢; exact k5.2.2 (by omega) q2⟩
 unfold aroundW
 simp only
 obtain ⟨K, b0, b1, b2⟩ := hb
 by_cases h13 : w.op = 13
 ·rw [if_pos h13] at hst ⊢
  obtain ⟨v, st, _, hl, e⟩ := hst.pop (k := fun c r => if (if c = 0 then w.other else w.body) < 0 then Ev.ok (-1) x r else loopA rec (decide (w.op = 12)) (if c = 0 then w.other else w.body) (deep + 1) k x r)
  rw [e]
  refine go _ _ ⟨hr.mem, hr.loc⟩ rfl hl fun q => ?_
  by_cases hv0 : v = 0
  ·rw [if_pos hv0] at q ⊢; exact ho h13 q
  ·rw [if_neg hv0] at q ⊢; exact ⟨K, b1, b2⟩
 ·rw [if_neg h13] at hst ⊢
  exact go _ _ hr rfl (by simpa using hst) fun _ => ⟨K, b1, b2⟩
end
section
variable {fs : List F} {rec : RunR} {n : Nat} (hv : ∀ f ∈ fs, functionE fs f = .ok ())
include hv
theorem exec_sound (hs : Sound fs rec n) {k : Nat} {x : Mach} (hx : x.steps.toNat < n) (hm : MOk x) (hxk : x.steps.toNat < k) {r : Fr} (hr : FrOk fs r) {w : W} {base : List Int} {s s' : St} {deep : Int} {K : Nat} (hd : 0 ≤ deep) (ha : s.any = false) (hst : SF r base s.stack) (hwn : -(2 ^ 63) ≤ w.n ∧ w.n < 2 ^ 63)
  (hin : ∀ m ∈ namesL w, 0 ≤ m ∧ m < (r.fn.lists.length : Int))
  (hi : instrE fs (r.fn.params ++ r.fn.locals) r.fn.type deep (lookE fs (r.fn.params ++ r.fn.locals) r.fn.type r.fn.lists K) w s = .ok s') : ERes fs 1 x r base s' deep (execW fs rec k deep w x r) := by
 have hnum : (r.fn.params ++ r.fn.locals).all numberB = true := by
  have := hv _ hr.mem
  unfold functionE at this
  split at this
  ·cases this
  ·rename_i q
   simp only [Bool.and_eq_true, Bool.not_eq_false] at q
   exact q.1.1
 have b0 : Beh 1 x x := (Beh.refl x).weak (by omega)
 unfold instrE at hi
 by_cases hf : formB w = false
 ·rw [if_pos hf] at hi; cases hi
 rw [if_neg hf] at hi
 by_cases hg : rangedB fs (r.fn.params ++ r.fn.locals) deep w = false
 ·rw [if_pos hg] at hi; cases hi
 rw [if_neg hg] at hi
 have up : ∀ {e : Ev Int}, ERes fs 0 x r base s' deep e → ERes fs 1 x r base s' deep e := by
  intro e he
  cases e with
  | bad => exact he
  | over s c x' => exact ⟨he.1.weak (by omega), he.2⟩
  | ok o x' r' => exact ⟨he.1.weak (by omega), he.2⟩
 unfold execW
 have hok : okW deep w = true := by
  have f1 : formB w = true := by simpa using hf
  have g1 : rangedB fs (r.fn.params ++ r.fn.locals) deep w = true := by simpa using hg
  unfold okW
  simp only [f1, Bool.true_and, Bool.and_eq_true, Bool.or_eq_true, decide_eq_true_eq]
  constructor
  ·by_cases q : 11 ≤ w.op ∧ w.op ≤ 13
   ·right
    refine (hin w.body ?_).1
    unfold namesL
    by_cases q1 : w.op = 11 ∨ w.op = 12 ∨ (w.op = 13 ∧ w.other < 0)
    ·rw [if_pos q1]; simp
    ·rw [if_neg q1, if_pos (by omega)]; simp
   ·exact .inl q
  ·by_cases q : w.op = 14 ∨ w.op = 15
   ·right
    unfold rangedB at g1
    rw [if_neg (by omega), if_neg (by omega), if_neg (by omega), if_pos q] at g1
    simpa using g1
   ·left; omega
 rw [if_neg (by rw [hok]; simp)]
 by_cases h11 : w.op = 11 ∨ w.op = 12
 ·rw [if_pos h11] at hi
  rw [if_pos (by omega)]
  have hn : namesL w = [w.body] := by unfold namesL; rw [if_pos (by omega)]
  rw [hn] at hin
  have hb := hin w.body (by simp)
  cases hl : lookE fs (r.fn.params ++ r.fn.locals) r.fn.type r.fn.lists K w.body (deep + 1) with
  | error e => rw [hl] at hi; cases hi
  | ok u =>
   rw [hl] at hi
   cases hi
   exact up (around_sound hs hx hm hxk hr hd ha (by rw [if_neg (by omega)]; simpa using hst) ⟨K, hb.1, hb.2, hl⟩ (fun q => by omega))
 rw [if_neg h11] at hi
 by_cases h13 : w.op = 13
 ·rw [if_pos h13] at hi
  rw [if_pos (by omega)]
  cases ht : takeE [1] s with
  | error e => rw [ht] at hi; cases hi
  | ok s1 =>
   rw [ht] at hi
   simp only at hi
   obtain ⟨a1, l1⟩ := takeE_stack ht ha
   rw [l1] at hst
   have hst1 : SF r base (s1.stack ++ (if w.op = 13 then [1] else [])) := by rw [if_pos h13]; simpa using hst
   cases hl : lookE fs (r.fn.params ++ r.fn.locals) r.fn.type r.fn.lists K w.body (deep + 1) with
   | error e => rw [hl] at hi; cases hi
   | ok u =>
    rw [hl] at hi
    simp only at hi
    have hb : 0 ≤ w.body ∧ w.body < (r.fn.lists.length : Int) := hin w.body (by
     unfold namesL
     by_cases ho : w.other < 0
     ·rw [if_pos (by omega)]; simp
     ·rw [if_neg (by omega), if_pos h13]; simp)
    by_cases ho : 0 ≤ w.other
    ·rw [if_pos ho] at hi
     cases hl2 : lookE fs (r.fn.params ++ r.fn.locals) r.fn.type r.fn.lists K w.other (deep + 1) with
     | error e => rw [hl2] at hi; cases hi
     | ok u2 =>
      rw [hl2] at hi
      cases hi
      have hb2 := hin w.other (by unfold namesL; rw [if_neg (by omega), if_pos h13]; simp)
      exact up (around_sound hs hx hm hxk hr hd a1 hst1 ⟨K, hb.1, hb.2, hl⟩ (fun _ _ => ⟨K, hb2.2, hl2⟩))
    ·rw [if_neg ho] at hi
     cases hi
     exact up (around_sound hs hx hm hxk hr hd a1 hst1 ⟨K, hb.1, hb.2, hl⟩ (fun _ q => absurd q ho))
 rw [if_neg h13] at hi
 by_cases h15 : w.op = 15
 ·rw [if_pos h15] at hi
  rw [if_neg (by omega), if_pos (by omega)]
  have hrg : 0 ≤ w.n ∧ w.n ≤ deep := by
   have q : rangedB fs (r.fn.params ++ r.fn.locals) deep w = true := by simpa using hg
   simpa [rangedB, h15] using q
  cases ht : takeE [1] s with
  | error e => rw [ht] at hi; cases hi
  | ok s1 =>
   rw [ht] at hi
   simp only at hi
   obtain ⟨a1, l1⟩ := takeE_stack ht ha
   rw [l1] at hst
   unfold outW
   simp only
   rw [if_neg (by omega), if_pos h15]
   obtain ⟨v, st, _, hl, e⟩ := SF.pop (t := 1) (ts := s1.stack) (by simpa using hst) (k := fun c r => if c = 0 then Ev.ok (-1) x r else if w.n = deep ∧ r.fn.type ≠ 0 then popK r fun v r => Ev.ok w.n x { r with result := v } else .ok w.n x r)
   rw [e]
   have hs' : s'.any = false ∧ s'.stack = s1.stack ∧ (w.n = deep → r.fn.type ≠ 0 → ∃ l, s1.stack = l ++ [r.fn.type]) := by
    by_cases hq : w.n = deep
    ·rw [if_pos hq] at hi
     obtain ⟨s2, e2, rfl⟩ := gives_ok hi
     obtain ⟨a2, l2⟩ := returnsE_stack e2 a1
     have g := giveS_stack s2 r.fn.type
     refine ⟨g.1.trans a2, by rw [g.2, l2], fun _ hz => ⟨s2.stack, by rw [if_neg hz] at l2; exact l2⟩⟩
    ·rw [if_neg hq] at hi
     cases hi
     exact ⟨a1, rfl, fun q => absurd q hq⟩
   by_cases hv0 : v = 0
   ·rw [if_pos hv0]
    exact ⟨b0, rfl, ⟨hr.mem, hr.loc⟩, hm, fun _ => ⟨hs'.1, by rw [hs'.2.1]; exact hl⟩, fun q => absurd rfl q⟩
   ·rw [if_neg hv0]
    by_cases hq : w.n = deep ∧ r.fn.type ≠ 0
    ·rw [if_pos hq]
     obtain ⟨l0, e0⟩ := hs'.2.2 hq.1 hq.2
     rw [e0] at hl
     obtain ⟨v2, st2, hv2, hl2, e2⟩ := hl.pop (k := fun v r => Ev.ok w.n x { r with result := v })
     simp only at e2
     rw [e2]
     obtain ⟨vs, u1, _⟩ := hl2
     exact ⟨b0, rfl, ⟨hr.mem, hr.loc⟩, hm, fun q => by omega, fun _ => ⟨hrg.1, hrg.2, ⟨vs, u1⟩, fun _ _ => hv2⟩⟩
    ·rw [if_neg hq]
     obtain ⟨vs, u1, _⟩ := hl
     exact ⟨b0, rfl, ⟨hr.mem, hr.loc⟩, hm, fun q => by omega, fun _ => ⟨hrg.1, hrg.2, ⟨vs, u1⟩, fun q1 q2 => absurd ⟨q1, q2⟩ hq⟩⟩
 rw [if_neg h15] at hi
 by_cases h14 : w.op = 14
 ·rw [if_pos h14] at hi
  rw [if_neg (by omega), if_pos (by omega)]
  have hrg : 0 ≤ w.n ∧ w.n ≤ deep := by
   have q : rangedB fs (r.fn.params ++ r.fn.locals) deep w = true := by simpa using hg
   simpa [rangedB, h14] using q
  unfold outW
  simp only
  rw [if_neg (by omega), if_neg h15]
  by_cases hq : w.n = deep ∧ r.fn.type ≠ 0
  ·rw [if_pos hq]
   rw [if_pos hq.1] at hi
   cases ht : returnsE r.fn.type s with
   | error e => rw [ht] at hi; cases hi
   | ok s2 =>
    obtain ⟨a2, l2⟩ := returnsE_stack ht ha
    rw [if_neg hq.2] at l2
    rw [l2] at hst
    obtain ⟨v2, st2, hv2, hl2, e2⟩ := hst.pop (k := fun v r => Ev.ok w.n x { r with result := v })
    rw [e2]
    obtain ⟨vs, u1, _⟩ := hl2
    exact ⟨b0, rfl, ⟨hr.mem, hr.loc⟩, hm, fun q => by omega, fun _ => ⟨hrg.1, hrg.2, ⟨vs, u1⟩, fun _ _ => hv2⟩⟩
  ·rw [if_neg hq]
   obtain ⟨vs, u1, _⟩ := hst
   exact ⟨b0, rfl, hr, hm, fun q => by omega, fun _ => ⟨hrg.1, hrg.2, ⟨vs, u1⟩, fun q1 q2 => absurd ⟨q1, q2⟩ hq⟩⟩
 rw [if_neg h14] at hi
 by_cases h16 : w.op = 16
 ·rw [if_pos h16] at hi
  rw [if_neg (by omega), if_pos (by omega)]
  unfold outW
  simp only
  rw [if_pos h16]
  cases ht : returnsE r.fn.type s with
  | error e => rw [ht] at hi; cases hi
  | ok s2 =>
   obtain ⟨a2, l2⟩ := returnsE_stack ht ha
   by_cases hq : r.fn.type ≠ 0
   ·rw [if_pos ⟨trivial, hq⟩]
    rw [if_neg hq] at l2
    rw [l2] at hst
    obtain ⟨v2, st2, hv2, hl2, e2⟩ := hst.pop (k := fun v r => Ev.ok deep x { r with result := v })
    rw [e2]
    obtain ⟨vs, u1, _⟩ := hl2
    exact ⟨b0, rfl, ⟨hr.mem, hr.loc⟩, hm, fun q => by omega, fun _ => ⟨hd, Int.le_refl _, ⟨vs, u1⟩, fun _ _ => hv2⟩⟩
   ·rw [if_neg (fun q => hq q.2)]
    obtain ⟨vs, u1, _⟩ := hst
    exact ⟨b0, rfl, hr, hm, fun q => by omega, fun _ => ⟨hd, Int.le_refl _, ⟨vs, u1⟩, fun _ q2 => absurd q2 hq⟩⟩
 rw [if_neg h16] at hi
 rw [if_neg (by omega), if_neg (by omega)]
 by_cases h17 : w.op = 17
 ·have e : plainW fs rec w x r = .over 2 5 x := by
   unfold plainW
   simp [h17]
  rw [e]
  exact ⟨b0, .inl rfl⟩
 rw [if_neg h17] at hi
 have hf' : formB w = true := by simpa using hf
 have hop : w.op ≤ 10 ∨ w.op = 18 := by
  by_cases q : w.op ≤ 10
  ·exact .inl q
  ·right
   have : 1 ≤ w.op ∧ w.op ≤ 18 := by
    unfold formB at hf'
    rw [if_neg (by omega), if_neg (by omega), if_neg (by omega)] at hf'
    simpa using hf'
   omega
 have key := plain_sound hv hs hx hm hr ha hst hwn hf' (by simpa using hg) hnum hi hop
 revert key
 cases plainW fs rec w x r with
 | bad => exact fun h => h
 | over s c x' => exact fun h => h
 | ok u x' r' => exact fun h => ⟨h.1, h.2.1, h.2.2.1, h.2.2.2.1, fun _ => h.2.2.2.2, fun q => absurd rfl q⟩
variable (hrn : Rng fs)
theorem instrs_sound (hs : Sound fs rec n) {k : Nat} {base : List Int} {deep : Int} {K : Nat} (hd : 0 ≤ deep) {f : F} : ∀ (ws : List W), (∀ w ∈ ws, ∀ m ∈ namesL w, 0 ≤ m ∧ m < (f.lists.length : Int)) → (∀ w ∈ ws, -(2 ^ 63) ≤ w.n ∧ w.n < 2 ^ 63) → ∀ (x : Mach) (r : Fr) (s s' : St), FrOk fs r → MOk x → r.fn = f → x.steps.toNat < n + 1 → x.steps.toNat < k + 1 → s.any = false → SF r base s.stack →
  instrsE fs (f.params ++ f.locals) f.type deep (lookE fs (f.params ++ f.locals) f.type f.lists K) ws s = .ok s' →
  match instrsW fs rec k deep base.length ws x r with
  | .bad => False
  | .over st c x' => Beh 0 x x' ∧ OverOk st c
  | .ok o x' r' => Beh 0 x x' ∧ r'.fn = r.fn ∧ FrOk fs r' ∧ MOk x' ∧ (o = -1 → s'.any = false ∧ SF r' base s'.stack) ∧ (o ≠ -1 → 0 ≤ o ∧ o ≤ deep ∧ r'.stack = base ∧ x'.steps < x.steps ∧ 0 < x.steps ∧ (o = deep → r.fn.type ≠ 0 → inT r.fn.type r'.result = true))
 | [], _, _, x, r, s, s', hr, hm, hf, _, _, ha, hst, hi => by
  simp only [instrsE] at hi
  cases hi
  exact ⟨.refl _, rfl, hr, hm, fun _ => ⟨ha, hst⟩, fun q => absurd rfl q⟩
 | w :: ws, hin, hwn, x, r, s, s', hr, hm, hf, hx, hxk, ha, hst, hi => by
  rw [instrsE] at hi
  cases he : instrE fs (f.params ++ f.locals) f.type deep (lookE fs (f.params ++ f.locals) f.type f.lists K) w s with
  | error e => rw [he] at hi; cases hi
  | ok s1 =>
   rw [he] at hi
   simp only at hi
   rw [instrsW]
   by_cases hs1 : x.steps < 1
   ·rw [if_pos hs1]
    exact ⟨.refl _, .inr ⟨rfl, rfl⟩⟩
   ·rw [if_neg hs1]
    subst hf
    have key := exec_sound hv hs (k := k) (x := { x with steps := x.steps - 1 }) (by simp only; omega) hm (by simp only; omega) hr hd ha hst (hwn w (by simp)) (hin w (by simp)) he
    revert key
    cases execW fs rec k deep w { x with steps := x.steps - 1 } r with
    | bad => exact fun h => h
    | over st c x' => exact fun h => ⟨(h.1.step (by omega)).1, h.2⟩
    | ok o x' r' =>
     intro ⟨k1, k2, k3, km, k4, k5⟩
     obtain ⟨b, lt⟩ := k1.step (by omega)
     simp only
     by_cases ho : o = -1
     ·rw [if_pos ho]
      obtain ⟨a1, l1⟩ := k4 ho
      have key := instrs_sound hs (k := k) (base := base) hd (f := r.fn) ws (fun w hw => hin w (by simp [hw])) (fun w hw => hwn w (by simp [hw])) x' r' s1 s' k3 km k2 (by omega) (by omega) a1 l1 hi
      revert key
      cases instrsW fs rec k deep base.length ws x' r' with
      | bad => exact fun h => h
      | over st c x2 => exact fun h => ⟨b.trans0 h.1, h.2⟩
      | ok o2 x2 r2 =>
       intro ⟨j1, j2, j3, jm, j4, j5⟩
       exact ⟨b.trans0 j1, j2.trans k2, j3, jm, j4, fun q => by
        have := j5 q
        have h4 := this.2.2.2.1
        rw [k2] at this
        exact ⟨this.1, this.2.1, this.2.2.1, by omega, by omega, this.2.2.2.2.2⟩⟩
     ·rw [if_neg ho]
      obtain ⟨q1, q2, ⟨vs, q3⟩, q4⟩ := k5 ho
      have hlb : ¬ r'.stack.length < base.length := by rw [q3]; simp
      rw [if_neg hlb]
      exact ⟨b, k2, ⟨k3.mem, k3.loc⟩, km, fun q => absurd q ho, fun _ => ⟨q1, q2, by rw [q3]; simp, lt, by omega, q4⟩⟩
include hrn in
theorem runL_sound : ∀ k, Sound fs (runL fs k) k
 | 0 => fun x r at_ deep K _ _ hx => by omega
 | k + 1 => by
  intro x r at_ deep K hr hm hx hd h0 h1 hl
  have ih := runL_sound k
  rw [runL, if_neg (by omega)]
  have hlt : at_.toNat < r.fn.lists.length := by omega
  rw [List.getElem?_eq_getElem hlt]
  simp only
  cases K with
  | zero => simp [lookE] at hl
  | succ K =>
   rw [lookE] at hl
   have hrow : r.fn.lists.getD at_.toNat [] = r.fn.lists[at_.toNat] := by rw [List.getD_eq_getElem?_getD, List.getElem?_eq_getElem hlt]; rfl
   rw [hrow] at hl
   cases hi : instrsE fs (r.fn.params ++ r.fn.locals) r.fn.type deep (lookE fs (r.fn.params ++ r.fn.locals) r.fn.type r.fn.lists K) r.fn.lists[at_.toNat] ⟨[], false⟩ with
   | error e => rw [hi] at hl; cases hl
   | ok s' =>
    rw [hi] at hl
    simp only at hl
    have hah := (listsE_ok (functionE_lists (hv _ hr.mem))).2.1
    have key := instrs_sound hv ih (k := k) (base := r.stack) hd (f := r.fn) r.fn.lists[at_.toNat] (fun w hw m hm => by
     have := hah at_.toNat _ (List.getElem?_eq_getElem hlt) m (List.mem_flatMap.2 ⟨w, hw, hm⟩)
     omega) (fun w hw => hrn _ hr.mem _ (List.getElem_mem hlt) w hw) x r ⟨[], false⟩ s' hr hm rfl (by omega) (by omega) rfl ⟨[], by simp, trivial⟩ hi
    revert key
    cases instrsW fs (runL fs k) k deep r.stack.length r.fn.lists[at_.toNat] x r with
    | bad => exact fun h => h
    | over st c x' => exact fun h => h
    | ok o x' r' =>
     intro ⟨j1, j2, j3, jm, j4, j5⟩
     refine ⟨j1, j2, j3, jm, fun ho => ?_, j5⟩
     obtain ⟨a1, l1⟩ := j4 ho
     have hres : s'.stack = (if deep = 0 ∧ r.fn.type ≠ 0 then [r.fn.type] else []) := by
      unfold endE at hl
      by_cases hz : deep = 0
      ·rw [if_pos hz] at hl
       cases hq : returnsE r.fn.type s' with
       | error e => rw [hq] at hl; cases hl
       | ok s2 =>
        rw [hq] at hl
        simp only at hl
        obtain ⟨_, l2⟩ := returnsE_stack hq a1
        by_cases he : s2.stack.length = 0
        ·rw [List.length_eq_zero_iff.1 he] at l2
         rw [l2]
         by_cases ht : r.fn.type = 0
         ·rw [if_pos ht, if_neg (fun q => q.2 ht)]; rfl
         ·rw [if_neg ht, if_pos ⟨hz, ht⟩]; rfl
        ·rw [if_neg he] at hl; cases hl
      ·rw [if_neg hz] at hl
       simp only at hl
       rw [if_neg (fun q => hz q.1)]
       by_cases he : s'.stack.length = 0
       ·exact List.length_eq_zero_iff.1 he
       ·rw [if_neg he] at hl; cases hl
     rw [← hres]
     exact l1
end
theorem runM_sound {m : M} (hc : checkE m = .ok ()) (hrn : Rng m.funcs) (input : List Int) (hin : ∀ v ∈ input, -(2 ^ 63) ≤ v ∧ v < 2 ^ 63) (steps : Int) (k : Nat) (hk : steps.toNat < k) : ∃ (out : List Int) (st code : Int), runM m input steps k = some (out, st, code) ∧ (st = 1 ∨ OverOk st code) ∧ (out.length : Int) ≤ max steps 0 := by
 have hv := checkE_functions hc
 have hm : mainB m = true := by
  unfold checkE at hc
  split at hc
  ·cases hc
  ·split at hc
   ·cases hc
   ·split at hc
    ·assumption
    ·cases hc
 unfold mainB at hm
 simp only [Bool.and_eq_true, decide_eq_true_eq] at hm
 obtain ⟨h0, h1⟩ := hm
 unfold runM
 rw [if_neg (by omega)]
 cases hg : m.funcs[m.main.toNat]? with
 | none => rw [hg] at h1; cases h1
 | some g =>
  rw [hg] at h1
  simp only [Bool.and_eq_true, decide_eq_true_eq] at h1 ⊢
  have hp : g.params = [] := List.length_eq_zero_iff.1 (by simpa using h1.2)
  have key := call_sound hv (runL_sound hv hrn k) (x := ⟨input, steps, List.replicate m.memory.toNat 0, [], 0⟩) hk hin (List.mem_of_getElem? hg) (args := []) (by rw [hp]; trivial) ⟨g, [], [], 0⟩
  revert key
  cases callW (runL m.funcs k) ⟨input, steps, List.replicate m.memory.toNat 0, [], 0⟩ g [] ⟨g, [], [], 0⟩ with
  | bad => exact fun h => h.elim
  | over s c x =>
   intro ⟨⟨q1, q4, l, q2, q3⟩, ho⟩
   refine ⟨_, _, _, rfl, .inr ho, ?_⟩
   simp only [List.nil_append] at q2 q1 q3 q4
   rw [q2]
   omega
  | ok v x r =>
   intro ⟨⟨q1, q4, l, q2, q3⟩, _⟩
   refine ⟨_, _, _, rfl, .inl rfl, ?_⟩
   simp only [List.nil_append] at q2 q1 q3 q4
   rw [q2]
   omega
end Go.Proofs.YthifgodgfhbnfaaGreatDoor
set_option linter.unusedSimpArgs false
set_option linter.unusedVariables false
namespace Go.Proofs.YthifgodgfhbnfaaGreatDoor
open Go Go.Abs
structure Opn where
 list : Int
 done : Int
 height : Int
 loop : Bool
structure Cl where
 f : Int
 locals : List Int
 stack : List Int
 opn : List Opn
structure Ma where
 input : List Int
 memory : List UInt8
 calls : List Cl
 out : List Int
 status : Int
 code : Int
def Ma.ends (x : Ma) (s c : Int) : Ma := { x with status := s, code := c }
def Ma.setTop (x : Ma) (c : Cl) : Ma := { x with calls := x.calls.dropLast ++ [c] }
def topK {α : Type} (x : Ma) (k : Cl → Option α) : Option α := match x.calls.getLast? with
 | none => none
 | some c => k c
def pushS (x : Ma) (v : Int) : Option Ma := topK x fun c => some (x.setTop { c with stack := c.stack ++ [v] })
def popS {α : Type} (x : Ma) (k : Int → Ma → Option α) : Option α := topK x fun c => match c.stack.getLast? with
 | none => none
 | some v => k v (x.setTop { c with stack := c.stack.dropLast })
def opensS (x : Ma) (l : Int) (loop : Bool) : Option Ma := topK x fun c => some (x.setTop { c with opn := c.opn ++ [⟨l, 0, c.stack.length, loop⟩] })
def fnAt (fs : List F) (n : Int) : Option F := if n < 0 then none else fs[n.toNat]?
def popsS {α : Type} : Nat → Ma → List Int → (List Int → Ma → Option α) → Option α
 | 0, x, args, k => k args x
 | n + 1, x, args, k => popS x fun v x => popsS n x (v :: args) k
def callS (fs : List F) (x : Ma) (f : Int) : Option Ma := match fnAt fs f with
 | none => none
 | some g => popsS g.params.length x [] fun args x => if 32 ≤ x.calls.length then some (x.ends 2 4) else
  opensS { x with calls := x.calls ++ [⟨f, args ++ List.replicate g.locals.length 0, [], []⟩] } ((g.lists.length : Int) - 1) false
def leaveS (x : Ma) (g : F) (v : Int) : Option Ma :=
 let y : Ma := { x with calls := x.calls.dropLast }
 if y.calls = [] then some (y.ends 1 v) else if g.type ≠ 0 then pushS y v else some y
def returnsS (fs : List F) (x : Ma) : Option Ma := topK x fun c => match fnAt fs c.f with
 | none => none
 | some g => if g.type ≠ 0 then popS x fun v x => leaveS x g v else leaveS x g 0
def branchS (fs : List F) (x : Ma) (n : Int) : Option Ma := topK x fun c =>
 if n < 0 ∨ (c.opn.length : Int) - 1 < n then none
 else if (c.opn.length : Int) - 1 - n = 0 then returnsS fs x
 else match c.opn[((c.opn.length : Int) - 1 - n).toNat]? with
  | none => none
  | some o => if o.height < 0 ∨ (c.stack.length : Int) < o.height then none else
   let y := x.setTop { c with stack := c.stack.take o.height.toNat, opn := c.opn.take ((c.opn.length : Int) - 1 - n).toNat }
   if o.loop then opensS y o.list true else some y
def cellS (x : Ma) (at_ n : Int) (k : List UInt8 → Option Ma) : Option Ma :=
 if ¬ (n = 1 ∨ n = 4 ∨ n = 8) then none else if at_ < 0 ∨ (x.memory.length : Int) - n < at_ then some (x.ends 2 3) else k ((x.memory.drop at_.toNat).take n.toNat)
def callsS (fs : List F) (x : Ma) (n : Int) : Option Ma :=
 if n = 0 then match x.input with
  | [] => pushS x 0
  | v :: l => pushS { x with input := l } v
 else if n = 1 then popS x fun v x => some { x with out := x.out ++ [v] }
 else if n = 2 then popS x fun v x => some (x.ends 2 v)
 else callS fs x (n - 3)
def binS (x : Ma) (w : W) : Option Ma := popS x fun b x => popS x fun a x =>
 if signOf signs w.name = [] then none
 else if (inT w.ty a && inT w.ty b) = false then none
 else if (binW w.ty (signOf signs w.name) a b).2 ≠ 0 then some (x.ends 2 (binW w.ty (signOf signs w.name) a b).2) else pushS x (binW w.ty (signOf signs w.name) a b).1
def plainS (fs : List F) (x : Ma) (w : W) : Option Ma :=
 if w.op = 1 then pushS x w.n
 else if w.op = 2 then topK x fun c => if w.n < 0 then none else match c.locals[w.n.toNat]? with
  | none => none
  | some v => pushS x v
 else if w.op = 3 then popS x fun v x => topK x fun c => if w.n < 0 ∨ (c.locals.length : Int) ≤ w.n then none else some (x.setTop { c with locals := c.locals.set w.n.toNat v })
 else if w.op = 4 then binS x w
 else if w.op = 5 then popS x fun v x => pushS x (if v = 0 then 1 else 0)
 else if w.op = 6 then popS x fun v x => pushS x (IntKind.i32.wrap v)
 else if w.op = 8 then popS x fun a x => if inT 1 a = false then none else cellS x a w.n fun l => pushS x (loadW l)
 else if w.op = 9 then popS x fun v x => popS x fun a x => if inT 1 a = false then none else cellS x a w.n fun l => some { x with memory := writeW x.memory a.toNat v l.length }
 else if w.op = 10 then callsS fs x w.n
 else if w.op = 18 then popS x fun _ x => some x
 else if w.op = 17 then some (x.ends 2 5)
 else some x
def doesS (fs : List F) (x : Ma) (w : W) : Option Ma :=
 if w.op = 11 then opensS x w.body false
 else if w.op = 12 then opensS x w.body true
 else if w.op = 13 then popS x fun v x => if v ≠ 0 then opensS x w.body false else if 0 ≤ w.other then opensS x w.other false else some x
 else if w.op = 14 then branchS fs x w.n
 else if w.op = 15 then popS x fun v x => if v ≠ 0 then branchS fs x w.n else some x
 else if w.op = 16 then returnsS fs x
 else plainS fs x w
structure AtTop (fs : List F) (x : Ma) (c : Cl) (os : List Opn) (o : Opn) (g : F) (ws : List W) : Prop where
 top : x.calls.getLast? = some c
 opn : c.opn = os ++ [o]
 fn : fnAt fs c.f = some g
 at0 : 0 ≤ o.list
 list : g.lists[o.list.toNat]? = some ws
inductive Closes (fs : List F) : Nat → Ma → Ma → Prop
 | over {x : Ma} (h : x.status ≠ 0) : Closes fs 0 x x
 | stay {x : Ma} {c os o g ws} (h : x.status = 0) (a : AtTop fs x c os o g ws) (hd : o.done < ws.length) : Closes fs 0 x x
 | ret {x x1 x' : Ma} {n c o g ws} (h : x.status = 0) (a : AtTop fs x c [] o g ws) (hd : (ws.length : Int) ≤ o.done) (hr : returnsS fs x = some x1) (r : Closes fs n x1 x') : Closes fs (n + 1) x x'
 | shut {x x' : Ma} {n c os o g ws} (h : x.status = 0) (hos : os ≠ []) (a : AtTop fs x c os o g ws) (hd : (ws.length : Int) ≤ o.done) (r : Closes fs n (x.setTop { c with opn := os }) x') : Closes fs (n + 1) x x'
inductive Runs (fs : List F) : Nat → Ma → Ma → Prop
 | over {n : Nat} {x : Ma} (h : x.status ≠ 0) : Runs fs n x x
 | out {x : Ma} (h : x.status = 0) : Runs fs 0 x x
 | step {x x1 x2 x' : Ma} {n k c os o g ws w} (h : x.status = 0) (a : AtTop fs x c os o g ws) (h0 : 0 ≤ o.done) (hw : ws[o.done.toNat]? = some w)
   (hd : doesS fs (x.setTop { c with opn := os ++ [{ o with done := o.done + 1 }] }) w = some x1) (hc : Closes fs k x1 x2) (r : Runs fs n x2 x') : Runs fs (n + 1) x x'
def Ends (x : Ma) (res : List Int × Int × Int) : Prop := res = (if x.status = 0 then (x.out, 3, 0) else (x.out, x.status, x.code))
def Fin (fs : List F) (n : Nat) (x : Ma) (res : List Int × Int × Int) : Prop := ∃ k x1 x', Closes fs k x x1 ∧ Runs fs n x1 x' ∧ Ends x' res
theorem Fin.over {fs : List F} {n : Nat} {x : Ma} (h : x.status ≠ 0) : Fin fs n x (x.out, x.status, x.code) := ⟨0, x, x, .over h, .over h, by simp [Ends, h]⟩
theorem Fin.out {fs : List F} {x : Ma} {c os o g ws} (h : x.status = 0) (a : AtTop fs x c os o g ws) (hd : o.done < ws.length) : Fin fs 0 x (x.out, 3, 0) := ⟨0, x, x, .stay h a hd, .out h, by simp [Ends, h]⟩
theorem Fin.step {fs : List F} {n : Nat} {x x1 : Ma} {c os o g ws w res} (h : x.status = 0) (a : AtTop fs x c os o g ws) (h0 : 0 ≤ o.done) (hw : ws[o.done.toNat]? = some w)
  (hd : doesS fs (x.setTop { c with opn := os ++ [{ o with done := o.done + 1 }] }) w = some x1) (r : Fin fs n x1 res) : Fin fs (n + 1) x res := by
 obtain ⟨k, x2, x', r1, r2, r3⟩ := r
 have hlt : o.done.toNat < ws.length := (List.getElem?_eq_some_iff.1 hw).1
 exact ⟨0, x, x', .stay h a (by omega), .step h a h0 hw hd r1 r2, r3⟩
theorem Fin.ret {fs : List F} {n : Nat} {x x1 : Ma} {c o g ws res} (h : x.status = 0) (a : AtTop fs x c [] o g ws) (hd : (ws.length : Int) ≤ o.done) (hr : returnsS fs x = some x1) (r : Fin fs n x1 res) : Fin fs n x res := by
 obtain ⟨k, x2, x', r1, r2, r3⟩ := r
 exact ⟨_, x2, x', .ret h a hd hr r1, r2, r3⟩
theorem Fin.shut {fs : List F} {n : Nat} {x : Ma} {c os o g ws res} (h : x.status = 0) (hos : os ≠ []) (a : AtTop fs x c os o g ws) (hd : (ws.length : Int) ≤ o.done) (r : Fin fs n (x.setTop { c with opn := os }) res) : Fin fs n x res := by
 obtain ⟨k, x2, x', r1, r2, r3⟩ := r
 exact ⟨_, x2, x', .shut h hos a hd r1, r2, r3⟩
end Go.Proofs.YthifgodgfhbnfaaGreatDoor
set_option linter.unusedSimpArgs false
set_option linter.unusedVariables false
namespace Go.Proofs.YthifgodgfhbnfaaGreatDoor
open Go Go.Abs
def cfg (x : Mach) (cs : List Cl) (c : Cl) : Ma := ⟨x.input, x.memory, cs ++ [c], x.out, 0, 0⟩
def LSt (x : Mach) (cs : List Cl) (fi : Int) (r : Fr) (opn : List Opn) : Ma := cfg x cs ⟨fi, r.locals, r.stack, opn⟩
@[simp] theorem topK_cfg {α : Type} (x cs c) (k : Cl → Option α) : topK (cfg x cs c) k = k c := by simp [topK, cfg]
@[simp] theorem setTop_cfg (x cs c c') : (cfg x cs c).setTop c' = cfg x cs c' := by simp [Ma.setTop, cfg]
@[simp] theorem topK_LSt {α : Type} (x cs fi r opn) (k : Cl → Option α) : topK (LSt x cs fi r opn) k = k ⟨fi, r.locals, r.stack, opn⟩ := topK_cfg ..
@[simp] theorem setTop_LSt (x cs fi r opn c') : (LSt x cs fi r opn).setTop c' = cfg x cs c' := setTop_cfg ..
theorem pushS_LSt (x cs fi r opn v) : pushS (LSt x cs fi r opn) v = some (LSt x cs fi (r.push v) opn) := by simp [pushS, LSt, Fr.push]
theorem opensS_LSt (x cs fi r opn l b) : opensS (LSt x cs fi r opn) l b = some (LSt x cs fi r (opn ++ [⟨l, 0, r.stack.length, b⟩])) := by simp [opensS, LSt]
theorem popS_LSt {α : Type} {x cs fi} {r : Fr} {opn} {v : Int} (h : r.stack.getLast? = some v) (k : Int → Ma → Option α) : popS (LSt x cs fi r opn) k = k v (LSt x cs fi { r with stack := r.stack.dropLast } opn) := by
 simp [popS, LSt, h]
def back (x : Mach) (cs : List Cl) (g : F) (v : Int) : Option Ma :=
 let y : Ma := ⟨x.input, x.memory, cs, x.out, 0, 0⟩
 if cs = [] then some (y.ends 1 v) else if g.type ≠ 0 then pushS y v else some y
theorem leaveS_cfg (x cs c g v) : leaveS (cfg x cs c) g v = back x cs g v := by simp [leaveS, back, cfg]
theorem leaveS_LSt (x cs fi r opn g v) : leaveS (LSt x cs fi r opn) g v = back x cs g v := leaveS_cfg ..
def brM (x : Mach) (cs : List Cl) (fi : Int) (r : Fr) (opn : List Opn) (o : Int) : Option Ma :=
 if o < 0 ∨ (opn.length : Int) - 1 < o then none
 else if (opn.length : Int) - 1 - o = 0 then back x cs r.fn (if r.fn.type ≠ 0 then r.result else 0)
 else match opn[((opn.length : Int) - 1 - o).toNat]? with
  | none => none
  | some p => if p.height < 0 ∨ (r.stack.length : Int) < p.height then none else
   if p.loop then some (LSt x cs fi { r with stack := r.stack.take p.height.toNat } (opn.take ((opn.length : Int) - 1 - o).toNat ++ [⟨p.list, 0, (r.stack.take p.height.toNat).length, true⟩]))
   else some (LSt x cs fi { r with stack := r.stack.take p.height.toNat } (opn.take ((opn.length : Int) - 1 - o).toNat))
theorem branchS_ne {fs : List F} {x cs fi r opn o} (h : (opn.length : Int) - 1 - o ≠ 0) : branchS fs (LSt x cs fi r opn) o = brM x cs fi r opn o := by
 unfold branchS brM
 simp only [topK_LSt]
 by_cases h1 : o < 0 ∨ (opn.length : Int) - 1 < o
 ·rw [if_pos h1, if_pos h1]
 ·rw [if_neg h1, if_neg h1, if_neg h, if_neg h]
  cases hq : opn[((opn.length : Int) - 1 - o).toNat]? with
  | none => rfl
  | some p =>
   simp only
   by_cases h2 : p.height < 0 ∨ (r.stack.length : Int) < p.height
   ·rw [if_pos h2, if_pos h2]
   ·rw [if_neg h2, if_neg h2]
    simp only [setTop_LSt]
    cases p.loop with
    | true => exact opensS_LSt x cs fi { r with stack := r.stack.take p.height.toNat } _ _ _
    | false => rfl
theorem branchS_eq {fs : List F} {x cs fi} {r : Fr} {opn o} (hf : fnAt fs fi = some r.fn) (h0 : 0 ≤ o) (h : (opn.length : Int) - 1 - o = 0) (h1 : 0 < opn.length) : branchS fs (LSt x cs fi r opn) o = (if r.fn.type ≠ 0 then popS (LSt x cs fi r opn) fun v x => leaveS x r.fn v else leaveS (LSt x cs fi r opn) r.fn 0) := by
 unfold branchS
 simp only [topK_LSt]
 rw [if_neg (by omega), if_pos h]
 unfold returnsS
 simp only [topK_LSt, hf]
theorem returnsS_LSt {fs : List F} {x cs fi} {r : Fr} {opn} (hf : fnAt fs fi = some r.fn) : returnsS fs (LSt x cs fi r opn) = (if r.fn.type ≠ 0 then popS (LSt x cs fi r opn) fun v x => leaveS x r.fn v else leaveS (LSt x cs fi r opn) r.fn 0) := by
 unfold returnsS
 simp only [topK_LSt, hf]
theorem brM_take {x cs fi} {r : Fr} {os : List Opn} {p : Opn} {h : Nat} {o : Int} {m : Ma} (hp : p.height = h) (hl : h ≤ r.stack.length) (e : brM x cs fi { r with stack := r.stack.take h } (os ++ [p]) o = some m) : brM x cs fi r (os ++ [p]) o = some m := by
 unfold brM at e ⊢
 split at e
 ·cases e
 rename_i h1
 rw [if_neg h1]
 split at e
 ·rename_i h2
  rw [if_pos h2]
  exact e
 rename_i h2
 rw [if_neg h2]
 split at e
 ·cases e
 rename_i q hq
 simp only at e ⊢
 split at e
 ·cases e
 rename_i h3
 have hle : q.height.toNat ≤ h := by simp at h3; omega
 have h4 : ¬ (q.height < 0 ∨ (r.stack.length : Int) < q.height) := by simp at h3; omega
 rw [if_neg h4]
 have et : (r.stack.take h).take q.height.toNat = r.stack.take q.height.toNat := by rw [List.take_take]; congr 1; omega
 rw [et] at e
 exact e
def Reach (fs : List F) (n : Nat) (om : Option Ma) (res : List Int × Int × Int) : Prop := ∃ m, om = some m ∧ Fin fs n m res
theorem Reach.ends {fs : List F} {n : Nat} {x : Ma} {s c : Int} (h : s ≠ 0) : Reach fs n (some (x.ends s c)) (x.out, s, c) := ⟨_, rfl, Fin.over (x := x.ends s c) h⟩
def PS (fs : List F) (x : Mach) (cs : List Cl) (fi : Int) (r : Fr) (opn : List Opn) (om : Option Ma) : Ev Unit → Prop
 | .bad => True
 | .over s c x' => Reach fs x.steps.toNat om (x'.out, s, c)
 | .ok _ x' r' => r'.fn = r.fn ∧ x'.calls = x.calls ∧ ∀ res, Fin fs x'.steps.toNat (LSt x' cs fi r' opn) res → Reach fs x.steps.toNat om res
def ES (fs : List F) (x : Mach) (cs : List Cl) (fi : Int) (r : Fr) (opn : List Opn) (om : Option Ma) : Ev Int → Prop
 | .bad => True
 | .over s c x' => Reach fs x.steps.toNat om (x'.out, s, c)
 | .ok o x' r' => r'.fn = r.fn ∧ x'.calls = x.calls ∧ (o = -1 → ∀ res, Fin fs x'.steps.toNat (LSt x' cs fi r' opn) res → Reach fs x.steps.toNat om res) ∧
   (o ≠ -1 → 0 ≤ o ∧ o < (opn.length : Int) ∧ ∀ m res, brM x' cs fi r' opn o = some m → Fin fs x'.steps.toNat m res → Reach fs x.steps.toNat om res)
def RecS (fs : List F) (rec : RunR) : Prop := ∀ (x : Mach) (r : Fr) (at_ deep : Int) (cs : List Cl) (fi : Int) (os : List Opn) (loop : Bool), fnAt fs fi = some r.fn → (os.length : Int) = deep → x.calls = cs.length + 1 →
 match rec x r at_ deep with
 | .bad => True
 | .over s c x' => Fin fs x.steps.toNat (LSt x cs fi r (os ++ [⟨at_, 0, r.stack.length, loop⟩])) (x'.out, s, c)
 | .ok o x' r' => r'.fn = r.fn ∧ x'.calls = x.calls ∧
   (o = -1 → ∃ ws, 0 ≤ at_ ∧ r.fn.lists[at_.toNat]? = some ws ∧ ∀ res, Fin fs x'.steps.toNat (LSt x' cs fi r' (os ++ [⟨at_, ws.length, r.stack.length, loop⟩])) res → Fin fs x.steps.toNat (LSt x cs fi r (os ++ [⟨at_, 0, r.stack.length, loop⟩])) res) ∧
   (o ≠ -1 → 0 ≤ o ∧ o ≤ deep ∧ r'.stack.length = r.stack.length ∧ ∀ m res, brM x' cs fi r' (os ++ [⟨at_, 0, r.stack.length, loop⟩]) o = some m → Fin fs x'.steps.toNat m res → Fin fs x.steps.toNat (LSt x cs fi r (os ++ [⟨at_, 0, r.stack.length, loop⟩])) res)
end Go.Proofs.YthifgodgfhbnfaaGreatDoor
set_option linter.unusedSimpArgs false
set_option linter.unusedVariables false
namespace Go.Proofs.YthifgodgfhbnfaaGreatDoor
open Go Go.Abs
theorem getLast_of_drop {α : Type} {l : List α} (h : l ≠ []) : ∃ v, l.getLast? = some v := ⟨l.getLast h, List.getLast?_eq_some_getLast h⟩
theorem popsS_LSt {α : Type} {x cs fi opn} : ∀ (n : Nat) (r : Fr) (args : List Int) (k : List Int → Ma → Option α), n ≤ r.stack.length →
  popsS n (LSt x cs fi r opn) args k = k (r.stack.drop (r.stack.length - n) ++ args) (LSt x cs fi { r with stack := r.stack.take (r.stack.length - n) } opn)
 | 0, r, args, k, _ => by simp [popsS]
 | n + 1, r, args, k, h => by
  have hne : r.stack ≠ [] := by intro e; rw [e] at h; simp at h
  obtain ⟨v, hv⟩ := getLast_of_drop hne
  obtain ⟨l, hl⟩ := List.getLast?_eq_some_iff.1 hv
  rw [popsS, popS_LSt hv, popsS_LSt n _ _ _ (by simp; omega)]
  simp only [hl, List.dropLast_concat, List.length_append, List.length_cons, List.length_nil]
  rw [hl] at h
  simp at h
  have e1 : l.length + (0 + 1) - (n + 1) = l.length - n := by omega
  rw [e1, List.drop_append_of_le_length (by omega), List.take_append_of_le_length (by omega)]
  simp
theorem callS_LSt {fs : List F} {x : Mach} {cs : List Cl} {fi : Int} {r : Fr} {opn : List Opn} {n : Int} {g : F} (hg : fnAt fs n = some g) (hl : g.params.length ≤ r.stack.length) :
  callS fs (LSt x cs fi r opn) n = (if 32 ≤ cs.length + 1 then some ((LSt x cs fi { r with stack := r.stack.take (r.stack.length - g.params.length) } opn).ends 2 4) else
   some (LSt x (cs ++ [⟨fi, r.locals, r.stack.take (r.stack.length - g.params.length), opn⟩]) n ⟨g, r.stack.drop (r.stack.length - g.params.length) ++ List.replicate g.locals.length 0, [], 0⟩ [⟨(g.lists.length : Int) - 1, 0, 0, false⟩])) := by
 unfold callS
 rw [hg]
 simp only
 rw [popsS_LSt _ _ _ _ hl]
 simp only [List.append_nil]
 have e : (LSt x cs fi { r with stack := r.stack.take (r.stack.length - g.params.length) } opn).calls.length = cs.length + 1 := by simp [LSt, cfg]
 rw [e]
 split
 ·rfl
 ·have e2 : ({ (LSt x cs fi { r with stack := r.stack.take (r.stack.length - g.params.length) } opn) with calls := (LSt x cs fi { r with stack := r.stack.take (r.stack.length - g.params.length) } opn).calls ++ [⟨n, r.stack.drop (r.stack.length - g.params.length) ++ List.replicate g.locals.length 0, [], []⟩] } : Ma) =
    LSt x (cs ++ [⟨fi, r.locals, r.stack.take (r.stack.length - g.params.length), opn⟩]) n ⟨g, r.stack.drop (r.stack.length - g.params.length) ++ List.replicate g.locals.length 0, [], 0⟩ [] := by
   simp [LSt, cfg]
  rw [e2, opensS_LSt]
  simp
theorem call_sim {fs : List F} {rec : RunR} (hr : RecS fs rec) {x : Mach} {g : F} {n : Int} (hg : fnAt fs n = some g) {cs : List Cl} {c : Cl} (hc : x.calls = (cs.length : Int) + 1) (args : List Int) (r : Fr) (hlt : x.calls < 32) :
  match callW rec x g args r with
  | .bad => True
  | .over s c' x' => Fin fs x.steps.toNat (LSt x (cs ++ [c]) n ⟨g, args ++ List.replicate g.locals.length 0, [], 0⟩ [⟨(g.lists.length : Int) - 1, 0, 0, false⟩]) (x'.out, s, c')
  | .ok v x' r' => r' = r ∧ x'.calls = x.calls ∧ ∀ m res, back x' (cs ++ [c]) g (if g.type ≠ 0 then v else 0) = some m → Fin fs x'.steps.toNat m res →
    Fin fs x.steps.toNat (LSt x (cs ++ [c]) n ⟨g, args ++ List.replicate g.locals.length 0, [], 0⟩ [⟨(g.lists.length : Int) - 1, 0, 0, false⟩]) res := by
 unfold callW
 rw [if_neg (by omega)]
 have key := hr { x with calls := x.calls + 1 } ⟨g, args ++ List.replicate g.locals.length 0, [], 0⟩ ((g.lists.length : Int) - 1) 0 (cs ++ [c]) n [] false hg rfl (by simp; omega)
 revert key
 cases rec { x with calls := x.calls + 1 } ⟨g, args ++ List.replicate g.locals.length 0, [], 0⟩ ((g.lists.length : Int) - 1) 0 with
 | bad => exact fun _ => trivial
 | over s c' x' => exact fun h => by simpa [LSt, cfg] using h
 | ok o x' f =>
  intro ⟨k1, k2, k3, k4⟩
  simp only at k2
  dsimp only at k1 k3 k4 ⊢
  by_cases ho : o = -1
  ·obtain ⟨ws, w0, w1, w2⟩ := k3 ho
   have at1 : AtTop fs (LSt x' (cs ++ [c]) n f [⟨(g.lists.length : Int) - 1, ws.length, 0, false⟩]) ⟨n, f.locals, f.stack, [⟨(g.lists.length : Int) - 1, ws.length, 0, false⟩]⟩ [] ⟨(g.lists.length : Int) - 1, ws.length, 0, false⟩ g ws :=
    ⟨by simp [LSt, cfg], by simp, hg, w0, w1⟩
   have ret : ∀ m res, returnsS fs (LSt x' (cs ++ [c]) n f [⟨(g.lists.length : Int) - 1, ws.length, 0, false⟩]) = some m → Fin fs x'.steps.toNat m res → Fin fs x.steps.toNat (LSt x (cs ++ [c]) n ⟨g, args ++ List.replicate g.locals.length 0, [], 0⟩ [⟨(g.lists.length : Int) - 1, 0, 0, false⟩]) res := fun m res hm hf => by
    have := w2 res (Fin.ret rfl at1 (Int.le_refl _) hm hf)
    simpa [LSt, cfg] using this
   have hrs := returnsS_LSt (fs := fs) (x := x') (cs := cs ++ [c]) (fi := n) (r := f) (opn := [⟨(g.lists.length : Int) - 1, ws.length, 0, false⟩]) (by rw [k1]; exact hg)
   rw [k1] at hrs
   by_cases ht : g.type ≠ 0
   ·rw [if_pos ⟨ho, ht⟩]
    rw [if_pos ht] at hrs
    unfold popK
    cases hv : f.stack.getLast? with
    | none => trivial
    | some v =>
     simp only
     refine ⟨trivial, by omega, fun m res hm hf => ret m res ?_ ?_⟩
     ·rw [hrs, popS_LSt hv, leaveS_LSt]
      rw [if_pos ht] at hm
      simpa [back] using hm
     ·simpa using hf
   ·rw [if_neg (fun q => ht q.2)]
    rw [if_neg ht] at hrs
    refine ⟨rfl, by simp only; omega, fun m res hm hf => ret m res ?_ ?_⟩
    ·rw [hrs, leaveS_LSt]
     rw [if_neg ht] at hm
     simpa [back] using hm
    ·simpa using hf
  ·rw [if_neg (fun q => ho q.1)]
   obtain ⟨o0, o1, o2, o3⟩ := k4 ho
   refine ⟨rfl, by simp only; omega, fun m res hm hf => ?_⟩
   have hb : brM x' (cs ++ [c]) n f ([] ++ [⟨(g.lists.length : Int) - 1, 0, 0, false⟩]) o = some m := by
    unfold brM
    have : o = 0 := by omega
    subst this
    simp only [List.nil_append, List.length_cons, List.length_nil]
    rw [if_neg (by omega), if_pos (by omega), k1]
    simpa [back] using hm
   have := o3 m res hb (by simpa using hf)
   simpa [LSt, cfg] using this
end Go.Proofs.YthifgodgfhbnfaaGreatDoor
set_option linter.unusedSimpArgs false
set_option linter.unusedVariables false
namespace Go.Proofs.YthifgodgfhbnfaaGreatDoor
open Go Go.Abs
section
variable {fs : List F} {x : Mach} {cs : List Cl} {fi : Int} {opn : List Opn}
theorem PS.same {r r' : Fr} {x' : Mach} {om : Option Ma} (h1 : r'.fn = r.fn) (h2 : x'.calls = x.calls) (h3 : x'.steps = x.steps) (h : om = some (LSt x' cs fi r' opn)) : PS fs x cs fi r opn om (.ok () x' r') :=
 ⟨h1, h2, fun res hf => ⟨_, h, by rw [h3] at hf; exact hf⟩⟩
theorem PS.trap {r : Fr} {x' : Mach} {s c : Int} {om : Option Ma} {r1 : Fr} (h : om = some ((LSt x' cs fi r1 opn).ends s c)) (hs : s ≠ 0) : PS fs x cs fi r opn om (.over s c x') := by
 have := Reach.ends (fs := fs) (n := x.steps.toNat) (x := LSt x' cs fi r1 opn) (s := s) (c := c) hs
 rw [h]
 exact this
theorem PS.pop {r r1 : Fr} {ks : Int → Ma → Option Ma} {k : Int → Fr → Ev Unit} (h : ∀ v, PS fs x cs fi r opn (ks v (LSt x cs fi { r1 with stack := r1.stack.dropLast } opn)) (k v { r1 with stack := r1.stack.dropLast })) :
  PS fs x cs fi r opn (popS (LSt x cs fi r1 opn) ks) (popK r1 k) := by
 unfold popK
 cases hv : r1.stack.getLast? with
 | none => trivial
 | some v =>
  rw [popS_LSt hv]
  exact h v
theorem calling_sim {rec : RunR} (hr : RecS fs rec) {r : Fr} {n : Int} (hc : x.calls = (cs.length : Int) + 1) : PS fs x cs fi r opn (callsS fs (LSt x cs fi r opn) n) (callingW fs rec x r n) := by
 unfold callingW callsS
 by_cases n0 : n = 0
 ·rw [if_pos n0, if_pos n0]
  have e : (LSt x cs fi r opn).input = x.input := rfl
  rw [e]
  cases hi : x.input with
  | nil => exact PS.same rfl rfl rfl (pushS_LSt ..)
  | cons v l => exact PS.same rfl rfl rfl (pushS_LSt { x with input := l } cs fi r opn v)
 rw [if_neg n0, if_neg n0]
 by_cases n1 : n = 1
 ·rw [if_pos n1, if_pos n1]
  exact PS.pop fun v => PS.same rfl rfl rfl rfl
 rw [if_neg n1, if_neg n1]
 by_cases n2 : n = 2
 ·rw [if_pos n2, if_pos n2]
  exact PS.pop fun v => PS.trap rfl (by omega)
 rw [if_neg n2, if_neg n2]
 by_cases n3 : n < 3
 ·rw [if_pos n3]; trivial
 rw [if_neg n3]
 cases hg : fs[(n - 3).toNat]? with
 | none => trivial
 | some g =>
  simp only
  have hg' : fnAt fs (n - 3) = some g := by unfold fnAt; rw [if_neg (by omega)]; exact hg
  by_cases hl : r.stack.length < g.params.length
  ·rw [if_pos hl]; trivial
  rw [if_neg hl, callS_LSt hg' (by omega)]
  by_cases h32 : 32 ≤ x.calls
  ·have e : callW rec x g (r.stack.drop (r.stack.length - g.params.length)) { r with stack := r.stack.take (r.stack.length - g.params.length) } = .over 2 4 x := by unfold callW; rw [if_pos h32]
   rw [e, if_pos (by omega)]
   exact PS.trap rfl (by omega)
  ·rw [if_neg (by omega)]
   have key := call_sim hr (x := x) hg' (cs := cs) (c := ⟨fi, r.locals, r.stack.take (r.stack.length - g.params.length), opn⟩) hc (r.stack.drop (r.stack.length - g.params.length)) { r with stack := r.stack.take (r.stack.length - g.params.length) } (by omega)
   revert key
   cases callW rec x g (r.stack.drop (r.stack.length - g.params.length)) { r with stack := r.stack.take (r.stack.length - g.params.length) } with
   | bad => exact fun _ => trivial
   | over s c x' => exact fun h => ⟨_, rfl, h⟩
   | ok v x' r' =>
    intro ⟨k1, k2, k3⟩
    subst k1
    refine ⟨?_, k2, fun res hf => ⟨_, rfl, k3 _ res ?_ hf⟩⟩
    ·split <;> rfl
    ·unfold back
     simp only
     rw [if_neg (by simp)]
     split
     ·rename_i ht
      exact pushS_LSt x' cs fi { r with stack := r.stack.take (r.stack.length - g.params.length) } opn v
     ·rfl
theorem plain_sim {rec : RunR} (hr : RecS fs rec) {r : Fr} {w : W} (hform : formB w = true) (hc : x.calls = (cs.length : Int) + 1) (hop : w.op ≠ 11 ∧ w.op ≠ 12 ∧ w.op ≠ 13 ∧ w.op ≠ 14 ∧ w.op ≠ 15 ∧ w.op ≠ 16) : PS fs x cs fi r opn (plainS fs (LSt x cs fi r opn) w) (plainW fs rec w x r) := by
 unfold plainW plainS
 by_cases h1 : w.op = 1
 ·rw [if_pos h1, if_pos h1]
  exact PS.same rfl rfl rfl (pushS_LSt ..)
 rw [if_neg h1, if_neg h1]
 by_cases h2 : w.op = 2
 ·rw [if_pos h2, if_pos h2]
  simp only [topK_LSt]
  by_cases hn : w.n < 0
  ·rw [if_pos hn, if_pos hn]; trivial
  rw [if_neg hn, if_neg hn]
  cases r.locals[w.n.toNat]? with
  | none => trivial
  | some v => exact PS.same rfl rfl rfl (pushS_LSt ..)
 rw [if_neg h2, if_neg h2]
 by_cases h3 : w.op = 3
 ·rw [if_pos h3, if_pos h3]
  by_cases hn : w.n < 0 ∨ (r.locals.length : Int) ≤ w.n
  ·rw [if_pos hn]; trivial
  rw [if_neg hn]
  refine PS.pop fun v => ?_
  simp only [topK_LSt, setTop_LSt]
  rw [if_neg hn]
  exact PS.same rfl rfl rfl rfl
 rw [if_neg h3, if_neg h3]
 by_cases h4 : w.op = 4
 ·rw [if_pos h4, if_pos h4]
  have hs : ¬ signOf signs w.name = [] := by
   simp [formB, h4] at hform
   exact hform.2
  unfold binS
  refine PS.pop fun b => PS.pop fun a => ?_
  rw [if_neg hs]
  by_cases hin : (inT w.ty a && inT w.ty b) = false
  ·rw [if_pos hin, if_pos hin]; trivial
  rw [if_neg hin, if_neg hin]
  split
  ·exact PS.trap rfl (by omega)
  ·exact PS.same rfl rfl rfl (pushS_LSt ..)
 rw [if_neg h4, if_neg h4]
 by_cases h5 : w.op = 5
 ·rw [if_pos h5, if_pos h5]
  exact PS.pop fun v => PS.same rfl rfl rfl (pushS_LSt ..)
 rw [if_neg h5, if_neg h5]
 by_cases h6 : w.op = 6
 ·rw [if_pos h6, if_pos h6]
  exact PS.pop fun v => PS.same rfl rfl rfl (pushS_LSt ..)
 rw [if_neg h6, if_neg h6]
 by_cases h8 : w.op = 8
 ·rw [if_pos h8, if_pos h8]
  have hn : w.n = 1 ∨ w.n = 4 ∨ w.n = 8 := by simp [formB, h8, bytesB] at hform; omega
  refine PS.pop fun a => ?_
  by_cases hin : inT 1 a = false
  ·rw [if_pos hin, if_pos hin]; trivial
  rw [if_neg hin, if_neg hin]
  unfold cellK cellS
  rw [if_neg (show ¬ (w.n < 1 ∨ 8 < w.n) by omega), if_neg (show ¬ ¬ (w.n = 1 ∨ w.n = 4 ∨ w.n = 8) from fun q => q hn)]
  have e : (LSt x cs fi { r with stack := r.stack.dropLast } opn).memory = x.memory := rfl
  rw [e]
  split
  ·exact PS.trap rfl (by omega)
  ·exact PS.same rfl rfl rfl (pushS_LSt ..)
 rw [if_neg h8, if_neg h8]
 by_cases h9 : w.op = 9
 ·rw [if_pos h9, if_pos h9]
  have hn : w.n = 1 ∨ w.n = 4 ∨ w.n = 8 := by simp [formB, h9, bytesB] at hform; omega
  refine PS.pop fun v => PS.pop fun a => ?_
  by_cases hin : inT 1 a = false
  ·rw [if_pos hin, if_pos hin]; trivial
  rw [if_neg hin, if_neg hin]
  unfold cellK cellS
  rw [if_neg (show ¬ (w.n < 1 ∨ 8 < w.n) by omega), if_neg (show ¬ ¬ (w.n = 1 ∨ w.n = 4 ∨ w.n = 8) from fun q => q hn)]
  have e : (LSt x cs fi { r with stack := r.stack.dropLast.dropLast } opn).memory = x.memory := rfl
  rw [e]
  split
  ·exact PS.trap rfl (by omega)
  ·exact PS.same rfl rfl rfl rfl
 rw [if_neg h9, if_neg h9]
 by_cases h10 : w.op = 10
 ·rw [if_pos h10, if_pos h10]
  exact calling_sim hr hc
 rw [if_neg h10, if_neg h10]
 by_cases h17 : w.op = 17
 ·rw [if_pos h17, if_neg (by omega), if_pos h17]
  exact PS.trap rfl (by omega)
 rw [if_neg h17]
 by_cases h18 : w.op = 18
 ·rw [if_pos h18, if_neg h17, if_pos h18]
  exact PS.pop fun v => PS.same rfl rfl rfl rfl
 rw [if_neg h18, if_neg h17, if_neg h18]
 exact PS.same rfl rfl rfl rfl
end
end Go.Proofs.YthifgodgfhbnfaaGreatDoor
