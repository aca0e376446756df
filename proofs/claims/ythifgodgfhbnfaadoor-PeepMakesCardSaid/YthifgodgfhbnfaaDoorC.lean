/- What a module of Wasm is, and what looking at it comes to, in plain words; no condition. -/
import Derived.Test.YthifgodgfhbnfaaDoorAbs28
import Derived.Lib.IndexMore
set_option linter.unusedSimpArgs false
set_option linter.unusedVariables false
namespace Go.Proofs.YthifgodgfhbnfaaDoor
open Go Go.Abs
structure W where
  op : Int
  ty : Int
  n : Int
  body : Int
  other : Int
  name : List UInt8
deriving DecidableEq
abbrev To := List (List W)
structure F where
  name : List UInt8
  params : List Int
  locals : List Int
  type : Int
  lists : To
structure M where
  funcs : List F
  memory : Int
  main : Int

/-! ### what looking at a list knows -/
structure St where
  stack : List Int
  any : Bool
/-- an error's number, or what there is -/
abbrev Res := Except Int
def mustE (b : Bool) (e : Int) : Res Unit := if b then .ok () else .error e
def dropE (s : St) : Res St :=
  if s.stack.length = 0 then (if s.any then .ok s else .error 14) else .ok { s with stack := s.stack.dropLast }
/-- takes, the first one of the list first -/
def takeE : List Int → St → Res St
  | [], s => .ok s
  | t :: ts, s => if s.stack.length = 0 ∨ s.stack.getLast? = some t then
      match dropE s with
      | .ok s' => takeE ts s'
      | .error e => .error e
    else .error 14
def giveS (s : St) (t : Int) : St := if t = 0 then s else { s with stack := s.stack ++ [t] }
def leftS : St := ⟨[], true⟩
def returnsE (ty : Int) (s : St) : Res St := if ty = 0 then .ok s else takeE [ty] s
def numberB (t : Int) : Bool := decide (t = 1) || decide (t = 2)
/-- Wasm's signs, those of word -/
def signs : List (List UInt8 × List UInt8) := [
  ([97, 100, 100], [43]), ([115, 117, 98], [45]), ([109, 117, 108], [42]), ([100, 105, 118, 95, 115], [47]), ([114, 101, 109, 95, 115], [37]), ([97, 110, 100], [38]), ([111, 114], [124]), ([120, 111, 114], [94]),
  ([115, 104, 108], [60, 60]), ([115, 104, 114, 95, 115], [62, 62]), ([101, 113], [61, 61]), ([110, 101], [33, 61]), ([108, 116, 95, 115], [60]), ([108, 101, 95, 115], [60, 61]), ([103, 116, 95, 115], [62]), ([103, 101, 95, 115], [62, 61])]
def signOf : List (List UInt8 × List UInt8) → List UInt8 → List UInt8
  | [], _ => []
  | (x, y) :: r, s => if x = s then y else signOf r s
def bytesB (t n : Int) : Bool := decide (t = 1) && (decide (n = 1) || decide (n = 4)) || decide (t = 2) && decide (n = 8)
def formB (w : W) : Bool :=
  if w.op = 1 ∨ w.op = 5 then numberB w.ty
  else if w.op = 4 then numberB w.ty && !(signOf signs w.name == [])
  else if w.op = 8 ∨ w.op = 9 then bytesB w.ty w.n
  else decide (1 ≤ w.op) && decide (w.op ≤ 18)
/-- what a function of that number takes, and gives -/
def headOf (fs : List F) (n : Int) : Option (List Int × Int) :=
  if n = 0 then some ([], 2) else if n = 1 then some ([2], 0) else if n = 2 then some ([1], 0)
  else if n < 0 then none else (fs[(n - 3).toNat]?).map fun f => (f.params, f.type)
def wrapT (t v : Int) : Int := if t = 3 then IntKind.i8.wrap v else if t = 1 then IntKind.i32.wrap v else if t = 2 then v else 0
def rangedB (fs : List F) (locals : List Int) (deep : Int) (w : W) : Bool :=
  if w.op = 1 then decide (wrapT w.ty w.n = w.n)
  else if w.op = 2 ∨ w.op = 3 then decide (0 ≤ w.n) && decide (w.n < (locals.length : Int))
  else if w.op = 10 then (headOf fs w.n).isSome
  else if w.op = 14 ∨ w.op = 15 then decide (0 ≤ w.n) && decide (w.n ≤ deep)
  else true
def localAt (locals : List Int) (n : Int) : Int := locals.getD n.toNat 0
def compares : List UInt8 := [32, 101, 113, 32, 110, 101, 32, 108, 116, 95, 115, 32, 108, 101, 95, 115, 32, 103, 116, 95, 115, 32, 103, 101, 95, 115, 32]
def cmpB (s : List UInt8) : Bool := Lib.contains compares (32 :: (s ++ [32]))
def gives (r : Res St) (t : Int) : Res St := match r with
  | .ok s => .ok (giveS s t)
  | .error e => .error e
def plainE (fs : List F) (locals : List Int) (w : W) (s : St) : Res St :=
  if w.op = 1 then .ok (giveS s w.ty)
  else if w.op = 2 then .ok (giveS s (localAt locals w.n))
  else if w.op = 3 then takeE [localAt locals w.n] s
  else if w.op = 4 then gives (takeE [w.ty, w.ty] s) (if cmpB w.name then 1 else w.ty)
  else if w.op = 5 then gives (takeE [w.ty] s) 1
  else if w.op = 6 then gives (takeE [2] s) 1
  else if w.op = 7 then gives (takeE [1] s) 2
  else if w.op = 8 then gives (takeE [1] s) w.ty
  else if w.op = 9 then takeE [w.ty, 1] s
  else if w.op = 10 then match headOf fs w.n with
    | some (ts, g) => gives (takeE ts.reverse s) g
    | none => .ok s
  else if w.op = 18 then dropE s
  else .ok s
/-- how a list is looked at: its place, how deep it stands -/
abbrev Look := Int → Int → Res Unit
def instrE (fs : List F) (locals : List Int) (ty deep : Int) (look : Look) (w : W) (s : St) : Res St :=
  if formB w = false then .error 2
  else if rangedB fs locals deep w = false then .error 11
  else if w.op = 11 ∨ w.op = 12 then match look w.body (deep + 1) with
    | .ok _ => .ok s
    | .error e => .error e
  else if w.op = 13 then match takeE [1] s with
    | .error e => .error e
    | .ok s1 => match look w.body (deep + 1) with
      | .error e => .error e
      | .ok _ => if 0 ≤ w.other then match look w.other (deep + 1) with
          | .error e => .error e
          | .ok _ => .ok s1
        else .ok s1
  else if w.op = 15 then match takeE [1] s with
    | .error e => .error e
    | .ok s1 => if w.n = deep then gives (returnsE ty s1) ty else .ok s1
  else if w.op = 14 then if w.n = deep then match returnsE ty s with
      | .error e => .error e
      | .ok _ => .ok leftS
    else .ok leftS
  else if w.op = 16 then match returnsE ty s with
    | .error e => .error e
    | .ok _ => .ok leftS
  else if w.op = 17 then .ok leftS
  else plainE fs locals w s
def instrsE (fs : List F) (locals : List Int) (ty deep : Int) (look : Look) : List W → St → Res St
  | [], s => .ok s
  | w :: ws, s => match instrE fs locals ty deep look w s with
    | .error e => .error e
    | .ok s' => instrsE fs locals ty deep look ws s'
def endE (ty deep : Int) (s : St) : Res Unit := match (if deep = 0 then returnsE ty s else .ok s) with
  | .error e => .error e
  | .ok s' => if s'.stack.length = 0 then .ok () else .error 14
def lookE (fs : List F) (locals : List Int) (ty : Int) (lists : To) : Nat → Look
  | 0, _, _ => .error (-1)
  | k + 1, at_, deep => match instrsE fs locals ty deep (lookE fs locals ty lists k) (lists.getD at_.toNat []) ⟨[], false⟩ with
    | .error e => .error e
    | .ok s => endE ty deep s

/-! ### which lists are named -/
def namesL (w : W) : List Int := if w.op = 11 ∨ w.op = 12 ∨ (w.op = 13 ∧ w.other < 0) then [w.body] else if w.op = 13 then [w.body, w.other] else []
def nameE (at_ : Int) (named : List Bool) (n : Int) : Res (List Bool) :=
  if 0 ≤ n ∧ n < at_ ∧ named.getD n.toNat true = false then .ok (named.set n.toNat true) else .error 11
def namesE (at_ : Int) : List Int → List Bool → Res (List Bool)
  | [], named => .ok named
  | n :: ns, named => match nameE at_ named n with
    | .error e => .error e
    | .ok named' => namesE at_ ns named'
def rowE (at_ : Int) : List W → List Bool → Res (List Bool)
  | [], named => .ok named
  | w :: ws, named => match namesE at_ (namesL w) named with
    | .error e => .error e
    | .ok named' => rowE at_ ws named'
def rowsE : Nat → To → List Bool → Res (List Bool)
  | _, [], named => .ok named
  | k, l :: ls, named => match rowE (k : Int) l named with
    | .error e => .error e
    | .ok named' => rowsE (k + 1) ls named'
def listsE (ls : To) : Res Unit :=
  if ls.length = 0 then .error 11 else match rowsE 0 ls (List.replicate ls.length false) with
    | .error e => .error e
    | .ok named => if (named.take (ls.length - 1)).all (· == true) then .ok () else .error 11
def functionE (fs : List F) (f : F) : Res Unit :=
  if ((f.params ++ f.locals).all numberB && decide (0 ≤ f.type) && decide (f.type ≤ 2)) = false then .error 6 else match listsE f.lists with
    | .error e => .error e
    | .ok _ => lookE fs (f.params ++ f.locals) f.type f.lists f.lists.length ((f.lists.length : Int) - 1) 0
def functionsE (fs : List F) : List F → Res Unit
  | [] => .ok ()
  | f :: r => match functionE fs f with
    | .error e => .error e
    | .ok _ => functionsE fs r
def mainB (m : M) : Bool := decide (0 ≤ m.main) && match m.funcs[m.main.toNat]? with
  | some f => decide (f.type = 1) && decide (f.params.length = 0)
  | none => false
def checkE (m : M) : Res Unit :=
  if (decide (0 ≤ m.memory) && decide (m.memory ≤ 4096)) = false then .error 11 else match functionsE m.funcs m.funcs with
    | .error e => .error e
    | .ok _ => if mainB m then .ok () else .error 12
def errOf : Res Unit → Int
  | .ok _ => 0
  | .error e => e
end Go.Proofs.YthifgodgfhbnfaaDoor
set_option linter.unusedSimpArgs false
set_option linter.unusedVariables false
namespace Go.Proofs.YthifgodgfhbnfaaDoor
open Go Go.Abs
def sumTo (f : Nat → Nat) : Nat → Nat
  | 0 => 0
  | k + 1 => sumTo f k + f k
theorem sumTo_congr {f g : Nat → Nat} : ∀ k, (∀ i, i < k → f i = g i) → sumTo f k = sumTo g k
  | 0, _ => rfl
  | k + 1, h => by rw [sumTo, sumTo, sumTo_congr k fun i hi => h i (by omega), h k (by omega)]
/-- what the roots weigh -/
def rt (T : Nat → Nat) (named : List Bool) (i : Nat) : Nat := if named.getD i true then 0 else T i
theorem getD_set (named : List Bool) (n i : Nat) : (named.set n true).getD i true = if i = n then true else named.getD i true := by
  rw [List.getD_eq_getElem?_getD, List.getD_eq_getElem?_getD, List.getElem?_set]
  by_cases h : n = i
  · subst h
    rw [if_pos rfl, if_pos rfl]
    split <;> rfl
  · rw [if_neg h, if_neg (fun e => h e.symm)]
theorem rt_set_ne (T : Nat → Nat) (named : List Bool) {n i : Nat} (h : i ≠ n) : rt T (named.set n true) i = rt T named i := by
  have e : (named.set n true).getD i true = named.getD i true := by rw [getD_set, if_neg h]
  unfold rt; rw [e]
theorem sumTo_set (T : Nat → Nat) (named : List Bool) (n : Nat) (h : named.getD n true = false) : ∀ k, n < k → sumTo (rt T (named.set n true)) k + T n = sumTo (rt T named) k
  | 0, hk => by omega
  | k + 1, hk => by
    simp only [sumTo]
    by_cases e : n = k
    · subst e
      have h1 : sumTo (rt T (named.set n true)) n = sumTo (rt T named) n := sumTo_congr n fun i hi => rt_set_ne T named (Nat.ne_of_lt hi)
      have h2 : rt T (named.set n true) n = 0 := by
        have e : (named.set n true).getD n true = true := by rw [getD_set, if_pos rfl]
        unfold rt; rw [e]; rfl
      have h3 : rt T named n = T n := by unfold rt; rw [h]; rfl
      omega
    · have ih := sumTo_set T named n h k (by omega)
      have h2 : rt T (named.set n true) k = rt T named k := rt_set_ne T named (fun q => e q.symm)
      omega
def sumL (l : List Int) (T : Nat → Nat) : Nat := (l.map fun n => T n.toNat).sum
theorem sumL_append (a b : List Int) (T) : sumL (a ++ b) T = sumL a T + sumL b T := by simp [sumL]
structure Named (T : Nat → Nat) (k : Nat) (named named' : List Bool) (ns : List Int) : Prop where
  inside : ∀ n ∈ ns, 0 ≤ n ∧ n < (k : Int)
  sum : sumTo (rt T named') k + sumL ns T = sumTo (rt T named) k
  rest : ∀ i, k ≤ i → named'.getD i true = named.getD i true
  len : named'.length = named.length
theorem Named.nil {T k named} : Named T k named named [] := ⟨by simp, by simp [sumL], fun _ _ => rfl, rfl⟩
theorem Named.trans {T k a b c l m} (h : Named T k a b l) (h' : Named T k b c m) : Named T k a c (l ++ m) where
  inside n hn := (List.mem_append.1 hn).elim (h.inside n) (h'.inside n)
  sum := by rw [sumL_append]; have := h.sum; have := h'.sum; omega
  rest i hi := (h'.rest i hi).trans (h.rest i hi)
  len := h'.len.trans h.len
theorem nameE_ok {T k named n named'} (h : nameE (k : Nat) named n = .ok named') : Named T k named named' [n] := by
  unfold nameE at h
  split at h
  · rename_i hc
    cases h
    obtain ⟨h0, h1, h2⟩ := hc
    have hk : n.toNat < k := by omega
    refine ⟨by simp; exact ⟨h0, h1⟩, by simpa [sumL] using sumTo_set T named n.toNat h2 k hk, fun i hi => by rw [getD_set, if_neg (by omega)], by simp⟩
  · cases h
theorem namesE_ok {T k} : ∀ {ns named named'}, namesE (k : Nat) ns named = .ok named' → Named T k named named' ns
  | [], _, _, h => by simp [namesE] at h; subst h; exact .nil
  | n :: ns, named, named', h => by
    rw [namesE] at h
    split at h
    · cases h
    · rename_i named1 h1
      exact (nameE_ok h1).trans (namesE_ok h)
theorem rowE_ok {T k} : ∀ {ws named named'}, rowE (k : Nat) ws named = .ok named' → Named T k named named' (ws.flatMap namesL)
  | [], _, _, h => by simp [rowE] at h; subst h; exact .nil
  | w :: ws, named, named', h => by
    rw [rowE] at h
    split at h
    · cases h
    · rename_i named1 h1
      rw [List.flatMap_cons]
      exact (namesE_ok h1).trans (rowE_ok h)
/-- what stands in a list names lists ahead of it -/
def Ahead (ls : To) : Prop := ∀ (k : Nat) (row : List W), ls[k]? = some row → ∀ n ∈ row.flatMap namesL, 0 ≤ n ∧ n < (k : Int)
theorem rowsE_ahead (ls : To) : ∀ (r : To) (k : Nat) (named named' : List Bool), ls.drop k = r → rowsE k r named = .ok named' → ∀ j row, k ≤ j → ls[j]? = some row → ∀ n ∈ row.flatMap namesL, 0 ≤ n ∧ n < (j : Int)
  | [], k, _, _, hd, _, j, row, hj, hr => by
    have : ls.length ≤ k := List.drop_eq_nil_iff.1 hd
    rw [List.getElem?_eq_none (by omega)] at hr; cases hr
  | l :: r, k, named, named', hd, h, j, row, hj, hr => by
    rw [rowsE] at h
    split at h
    · cases h
    · rename_i named1 h1
      have hl : ls[k]? = some l := by
        have := congrArg (·[0]?) hd
        simpa using this
      have hd' : ls.drop (k + 1) = r := by
        have := congrArg (List.drop 1) hd
        simpa [List.drop_drop] using this
      by_cases e : j = k
      · subst e
        rw [hl] at hr; cases hr
        exact (rowE_ok (T := fun _ => 0) h1).inside
      · exact rowsE_ahead ls r (k + 1) named1 named' hd' h j row (by omega) hr
theorem rowsE_sum (ls : To) (T g : Nat → Nat) (hT : ∀ k row, ls[k]? = some row → T k = g k + sumL (row.flatMap namesL) T) : ∀ (r : To) (k : Nat) (named named' : List Bool), ls.drop k = r → rowsE k r named = .ok named' → k ≤ ls.length →
    sumTo (rt T named) k = sumTo g k → named.length = ls.length → (∀ i, k ≤ i → i < ls.length → named.getD i true = false) →
    sumTo (rt T named') ls.length = sumTo g ls.length ∧ named'.length = ls.length ∧ (0 < ls.length → k < ls.length → named'.getD (ls.length - 1) true = false)
  | [], k, named, named', hd, h, hk, hs, hl, hf => by
    have hlen : ls.length ≤ k := List.drop_eq_nil_iff.1 hd
    simp [rowsE] at h
    subst h
    obtain rfl : k = ls.length := by omega
    exact ⟨hs, hl, fun _ h => by omega⟩
  | l :: r, k, named, named', hd, h, hk, hs, hlen, hf => by
    rw [rowsE] at h
    split at h
    · cases h
    · rename_i named1 h1
      have hl : ls[k]? = some l := by
        have := congrArg (·[0]?) hd
        simpa using this
      have hd' : ls.drop (k + 1) = r := by
        have := congrArg (List.drop 1) hd
        simpa [List.drop_drop] using this
      have hk' : k < ls.length := (List.getElem?_eq_some_iff.1 hl).1
      have N := rowE_ok (T := T) h1
      have hkk : named1.getD k true = false := (N.rest k (Nat.le_refl _)).trans (hf k (Nat.le_refl _) hk')
      have hsum : sumTo (rt T named1) (k + 1) = sumTo g (k + 1) := by
        simp only [sumTo]
        have h3 : rt T named1 k = T k := by unfold rt; rw [hkk]; rfl
        have := N.sum
        have := hT k l hl
        omega
      have key := rowsE_sum ls T g hT r (k + 1) named1 named' hd' h hk' hsum (N.len.trans hlen) fun i hi hil => (N.rest i (by omega)).trans (hf i (by omega) hil)
      refine ⟨key.1, key.2.1, fun h0 _ => ?_⟩
      by_cases e : k + 1 < ls.length
      · exact key.2.2 h0 e
      · have : r = [] := by
          have hdl := congrArg List.length hd'
          rw [List.length_drop] at hdl
          exact List.length_eq_zero_iff.1 (by omega)
        subst this
        simp [rowsE] at h
        subst h
        rw [show ls.length - 1 = k from by omega]
        exact hkk
/-- how much hangs on a list -/
def tot (g : Nat → Nat) (ls : To) : Nat → Nat → Nat
  | 0, _ => 0
  | f + 1, k => g k + sumL ((ls.getD k []).flatMap namesL) (tot g ls f)
theorem sumL_congr {l : List Int} {T U : Nat → Nat} (h : ∀ n ∈ l, T n.toNat = U n.toNat) : sumL l T = sumL l U := by
  induction l with
  | nil => rfl
  | cons n l ih =>
    simp only [sumL, List.map_cons, List.sum_cons] at ih ⊢
    rw [h n (by simp), ih fun m hm => h m (by simp [hm])]
theorem tot_stable (g : Nat → Nat) {ls : To} (ha : Ahead ls) : ∀ (f : Nat) (k : Nat), k < f → tot g ls (f + 1) k = tot g ls f k := by
  intro f
  induction f with
  | zero => intro k h; omega
  | succ f ih =>
    intro k hk
    rw [tot, tot]
    congr 1
    refine sumL_congr fun n hn => ?_
    cases hr : ls[k]? with
    | none => rw [List.getD_eq_getElem?_getD, hr] at hn; simp at hn
    | some row =>
      rw [List.getD_eq_getElem?_getD, hr] at hn
      have := ha k row hr n hn
      exact ih n.toNat (by omega)
/-- what hangs on a list of a function -/
def totF (g : Nat → Nat) (ls : To) (k : Nat) : Nat := tot g ls ls.length k
theorem totF_eq (g : Nat → Nat) {ls : To} (ha : Ahead ls) {k : Nat} {row : List W} (h : ls[k]? = some row) : totF g ls k = g k + sumL (row.flatMap namesL) (totF g ls) := by
  have hk := (List.getElem?_eq_some_iff.1 h).1
  unfold totF
  rw [← tot_stable g ha ls.length k hk, tot, List.getD_eq_getElem?_getD, h]
  rfl
theorem sumTo_zero : ∀ k, sumTo (fun _ => 0) k = 0
  | 0 => rfl
  | k + 1 => by rw [sumTo, sumTo_zero k]
theorem listsE_ok {ls : To} (h : listsE ls = .ok ()) : 0 < ls.length ∧ Ahead ls ∧ ∀ g, totF g ls (ls.length - 1) = sumTo g ls.length := by
  unfold listsE at h
  split at h
  · cases h
  · rename_i h0
    split at h
    · cases h
    · rename_i named hr
      split at h
      · rename_i hall
        have ha : Ahead ls := fun k row hk => rowsE_ahead ls ls 0 _ _ (by simp) hr k row (Nat.zero_le _) hk
        refine ⟨by omega, ha, fun g => ?_⟩
        obtain ⟨h1, h2, h3⟩ := rowsE_sum ls (totF g ls) g (fun k row hk => totF_eq g ha hk) ls 0 _ _ (by simp) hr (Nat.zero_le _) rfl (by simp) fun i _ hi => by
          rw [List.getD_eq_getElem?_getD, List.getElem?_replicate, if_pos hi]; rfl
        obtain ⟨L, hL⟩ : ∃ L, ls.length = L + 1 := ⟨ls.length - 1, by omega⟩
        have h3' := h3 (by omega) (by omega)
        rw [hL] at h1 h3' hall ⊢
        simp only [Nat.add_sub_cancel] at h3' hall ⊢
        rw [← h1, sumTo]
        have z : sumTo (rt (totF g ls) named) L = 0 := by
          have : sumTo (rt (totF g ls) named) L = sumTo (fun _ => 0) L := sumTo_congr L fun i hi => by
            have hm : (named.take L)[i]? = some true := by
              have hlt : i < (named.take L).length := by rw [List.length_take]; omega
              rw [List.getElem?_eq_getElem hlt]
              have := List.all_eq_true.1 hall _ (List.getElem_mem hlt)
              simpa using this
            rw [List.getElem?_take, if_pos hi] at hm
            have e : named.getD i true = true := by rw [List.getD_eq_getElem?_getD, hm]; rfl
            unfold rt; rw [e]; rfl
          rw [this, sumTo_zero]
        have e : rt (totF g ls) named L = totF g ls L := by unfold rt; rw [h3']; rfl
        rw [z, e]; omega
      · cases h
end Go.Proofs.YthifgodgfhbnfaaDoor
set_option linter.unusedSimpArgs false
set_option linter.unusedVariables false
namespace Go.Proofs.YthifgodgfhbnfaaDoor
open Go Go.Abs
/-- what the compiled list-maker gives: where the list lies, and all that was made -/
abbrev Rec := Int → To → Option (Int × To)

def leavesW (w : W) : Bool := w.op == 14 || w.op == 16 || w.op == 17
def plists (rec : Rec) (w : W) (to : To) : Option (W × To) :=
  if w.op = 13 then
    match rec w.body to with
    | none => none
    | some (b, to1) =>
      if 0 ≤ w.other then
        match rec w.other to1 with
        | none => none
        | some (o, to2) => some ({ w with body := b, other := o }, to2)
      else some ({ w with body := b }, to1)
  else if w.op = 11 ∨ w.op = 12 then
    match rec w.body to with
    | none => none
    | some (b, to1) => some ({ w with body := b }, to1)
  else some (w, to)
def pchosen (rec : Rec) (n : Int) (w : W) (to : To) : Option (List W × To) :=
  let at_ := if n = 0 then w.other else w.body
  if at_ < 0 then some ([], to) else
    match rec at_ to with
    | none => none
    | some (b, to1) => some ([⟨11, 0, 0, b, 0, []⟩], to1)
def ptogether (rec : Rec) (a b : W) (to : To) : Option (List W × Bool × To) :=
  let number := decide (a.op = 1) && decide (a.ty = 1)
  if (a.op = 1 ∨ a.op = 2) ∧ b.op = 18 then some ([], true, to)
  else if a.op = 1 ∧ b.op = 5 then some ([⟨1, 1, if a.n = 0 then 1 else 0, 0, 0, []⟩], decide (a.ty = b.ty), to)
  else if a.op = 1 ∧ b.op = 15 then
    if a.n = 0 then some ([], number, to) else some ([⟨14, 0, b.n, 0, 0, []⟩], number, to)
  else if a.op = 1 ∧ b.op = 13 then
    if number then
      match pchosen rec a.n b to with
      | none => none
      | some (l, to1) => some (l, true, to1)
    else some ([], false, to)
  else some ([], false, to)
def ploop (rec : Rec) : List W → List W → To → Option (List W × To)
  | [], l, to => some (l, to)
  | w :: ws, l, to =>
    match l.getLast? with
    | none =>
      match plists rec w to with
      | none => none
      | some (w', to2) => ploop rec ws (l ++ [w']) to2
    | some p =>
      if leavesW p then some (l, to) else
      match ptogether rec p w to with
      | none => none
      | some (two, is, to1) =>
        if is then ploop rec ws (l.dropLast ++ two) to1
        else match plists rec w to1 with
          | none => none
          | some (w', to2) => ploop rec ws (l ++ [w']) to2
def plist (frm : To) : Nat → Rec
  | 0, _, _ => none
  | k + 1, at_, to =>
    if at_ < 0 then none else
    match frm[at_.toNat]? with
    | none => none
    | some ws => match ploop (plist frm k) ws [] to with
      | none => none
      | some (l, to1) => some (to1.length, to1 ++ [l])


/-- nothing stands behind what leaves -/
def Good (l : List W) : Prop := ∀ w ∈ l.dropLast, leavesW w = false
def sumC (c : Nat → Nat) (ls : To) : Nat := (ls.map fun l => c l.length).sum
theorem sumC_append (c a b) : sumC c (a ++ b) = sumC c a + sumC c b := by simp [sumC]
theorem sumL_mem {T : Nat → Nat} {n : Int} : ∀ {l : List Int}, n ∈ l → T n.toNat ≤ sumL l T
  | [], h => by simp at h
  | m :: l, h => by
    simp only [sumL, List.map_cons, List.sum_cons]
    rcases List.mem_cons.1 h with rfl | h
    · omega
    · have := sumL_mem (T := T) h; unfold sumL at this; omega
/-- what a list-maker does for the lists that are named -/
def Makes (c : Nat → Nat) (T : Nat → Nat) (rec : Rec) (n : Int) : Prop := ∀ to, ∃ (new : To) (i : Int), rec n to = some (i, to ++ new) ∧ sumC c new ≤ T n.toNat ∧ ∀ x ∈ new, Good x
theorem plists_makes {c T rec} {w : W} (h : ∀ n ∈ namesL w, Makes c T rec n) (to : To) : ∃ (w' : W) (new : To), plists rec w to = some (w', to ++ new) ∧ sumC c new ≤ sumL (namesL w) T ∧ ∀ x ∈ new, Good x := by
  unfold plists
  by_cases h13 : w.op = 13
  · rw [if_pos h13]
    by_cases ho : 0 ≤ w.other
    · have hn : namesL w = [w.body, w.other] := by unfold namesL; rw [if_neg (by omega), if_pos h13]
      rw [hn] at h ⊢
      obtain ⟨n1, i1, e1, s1, g1⟩ := h w.body (by simp) to
      obtain ⟨n2, i2, e2, s2, g2⟩ := h w.other (by simp) (to ++ n1)
      refine ⟨{ w with body := i1, other := i2 }, n1 ++ n2, ?_, ?_, ?_⟩
      · rw [e1]; simp only; rw [if_pos ho, e2]; simp
      · rw [sumC_append]; simp [sumL]; omega
      · intro x hx; exact (List.mem_append.1 hx).elim (g1 x) (g2 x)
    · have hn : namesL w = [w.body] := by unfold namesL; rw [if_pos (by omega)]
      rw [hn] at h ⊢
      obtain ⟨n1, i1, e1, s1, g1⟩ := h w.body (by simp) to
      refine ⟨{ w with body := i1 }, n1, ?_, ?_, g1⟩
      · rw [e1]; simp only; rw [if_neg ho]
      · simpa [sumL] using s1
  · rw [if_neg h13]
    by_cases h11 : w.op = 11 ∨ w.op = 12
    · rw [if_pos h11]
      have hn : namesL w = [w.body] := by unfold namesL; rw [if_pos (by omega)]
      rw [hn] at h ⊢
      obtain ⟨n1, i1, e1, s1, g1⟩ := h w.body (by simp) to
      refine ⟨{ w with body := i1 }, n1, ?_, ?_, g1⟩
      · rw [e1]
      · simpa [sumL] using s1
    · rw [if_neg h11]
      exact ⟨w, [], by simp, by simp [sumC], by simp⟩
theorem ptogether_makes {c T rec} {a w : W} (h : ∀ n ∈ namesL w, Makes c T rec n) (to : To) : ∃ (two : List W) (is : Bool) (new : To), ptogether rec a w to = some (two, is, to ++ new) ∧ two.length ≤ 1 ∧ sumC c new ≤ sumL (namesL w) T ∧ (∀ x ∈ new, Good x) ∧ (is = false → new = []) := by
  unfold ptogether
  simp only
  by_cases h1 : (a.op = 1 ∨ a.op = 2) ∧ w.op = 18
  · rw [if_pos h1]; exact ⟨_, _, [], by rw [List.append_nil], by simp, by simp [sumC], by simp, fun _ => rfl⟩
  rw [if_neg h1]
  by_cases h2 : a.op = 1 ∧ w.op = 5
  · rw [if_pos h2]; exact ⟨_, _, [], by rw [List.append_nil], by simp, by simp [sumC], by simp, fun _ => rfl⟩
  rw [if_neg h2]
  by_cases h3 : a.op = 1 ∧ w.op = 15
  · rw [if_pos h3]
    by_cases h4 : a.n = 0
    · rw [if_pos h4]; exact ⟨_, _, [], by rw [List.append_nil], by simp, by simp [sumC], by simp, fun _ => rfl⟩
    · rw [if_neg h4]; exact ⟨_, _, [], by rw [List.append_nil], by simp, by simp [sumC], by simp, fun _ => rfl⟩
  rw [if_neg h3]
  by_cases h5 : a.op = 1 ∧ w.op = 13
  · rw [if_pos h5]
    by_cases h6 : (decide (a.op = 1) && decide (a.ty = 1)) = true
    · rw [if_pos h6]
      unfold pchosen
      simp only
      by_cases h7 : (if a.n = 0 then w.other else w.body) < 0
      · rw [if_pos h7]; exact ⟨_, _, [], by rw [List.append_nil], by simp, by simp [sumC], by simp, by simp⟩
      · rw [if_neg h7]
        have hm : (if a.n = 0 then w.other else w.body) ∈ namesL w := by
          unfold namesL
          by_cases ho : w.other < 0
          · rw [if_pos (by omega)]
            split at h7
            · omega
            · rename_i q; rw [if_neg q]; simp
          · rw [if_neg (by omega), if_pos h5.2]
            split <;> simp
        have hle : T ((if a.n = 0 then w.other else w.body)).toNat ≤ sumL (namesL w) T := by
          exact sumL_mem hm
        obtain ⟨n1, i1, e1, s1, g1⟩ := h _ hm to
        rw [e1]
        exact ⟨_, _, n1, rfl, by simp, by omega, g1, by simp⟩
    · rw [if_neg h6]; exact ⟨_, _, [], by rw [List.append_nil], by simp, by simp [sumC], by simp, fun _ => rfl⟩
  rw [if_neg h5]
  exact ⟨_, _, [], by rw [List.append_nil], by simp, by simp [sumC], by simp, fun _ => rfl⟩
theorem good_all {l : List W} {p : W} (hl : l.getLast? = some p) (hg : Good l) (hp : leavesW p = false) : ∀ w ∈ l, leavesW w = false := by
  obtain ⟨l0, rfl⟩ : ∃ l0, l = l0 ++ [p] := ⟨l.dropLast, by
    have hne : l ≠ [] := by rintro rfl; simp at hl
    rw [List.getLast?_eq_some_getLast hne] at hl
    cases hl
    exact (List.dropLast_concat_getLast hne).symm⟩
  intro w hw
  rcases List.mem_append.1 hw with h | h
  · exact hg w (by simpa using h)
  · simp at h; subst h; exact hp
theorem ploop_makes {c T rec} : ∀ (ws : List W) (h : ∀ n ∈ ws.flatMap namesL, Makes c T rec n) (l : List W) (to : To), Good l → ∃ (l' : List W) (new : To), ploop rec ws l to = some (l', to ++ new) ∧ sumC c new ≤ sumL (ws.flatMap namesL) T ∧ l'.length ≤ l.length + ws.length ∧ Good l' ∧ ∀ x ∈ new, Good x
  | [], _, l, to, hg => ⟨l, [], by simp [ploop], by simp [sumC], by simp, hg, by simp⟩
  | w :: ws, h, l, to, hg => by
    have hw : ∀ n ∈ namesL w, Makes c T rec n := fun n hn => h n (by simp only [List.flatMap_cons, List.mem_append]; exact .inl hn)
    have hws : ∀ n ∈ ws.flatMap namesL, Makes c T rec n := fun n hn => h n (by simp only [List.flatMap_cons, List.mem_append]; exact .inr hn)
    rw [List.flatMap_cons, sumL_append]
    have add : ∀ to1, (∀ w ∈ l, leavesW w = false) → ∃ (l' : List W) (new : To), (match plists rec w to1 with | none => none | some (w', to2) => ploop rec ws (l ++ [w']) to2) = some (l', to1 ++ new) ∧ sumC c new ≤ sumL (namesL w) T + sumL (ws.flatMap namesL) T ∧ l'.length ≤ l.length + (w :: ws).length ∧ Good l' ∧ ∀ x ∈ new, Good x := by
      intro to1 hal
      obtain ⟨w', n1, e1, s1, g1⟩ := plists_makes hw to1
      obtain ⟨l', n2, e2, s2, b2, g2, g3⟩ := ploop_makes ws hws (l ++ [w']) (to1 ++ n1) (by intro x hx; simp at hx; exact hal x hx)
      rw [e1]
      refine ⟨l', n1 ++ n2, by simp only; rw [e2]; simp, by rw [sumC_append]; omega, by simp at b2 ⊢; omega, g2, fun x hx => (List.mem_append.1 hx).elim (g1 x) (g3 x)⟩
    rw [ploop]
    cases hl : l.getLast? with
    | none =>
      have : l = [] := by simpa using hl
      subst this
      exact add to (by simp)
    | some p =>
      simp only
      by_cases hp : leavesW p = true
      · rw [if_pos hp]
        exact ⟨l, [], by simp, by simp [sumC], by simp, hg, by simp⟩
      · rw [if_neg hp]
        have hal := good_all hl hg (by simpa using hp)
        obtain ⟨two, is, n1, e1, b1, s1, g1, z1⟩ := ptogether_makes (a := p) hw to
        rw [e1]
        simp only
        cases is with
        | true =>
          rw [if_pos rfl]
          obtain ⟨l', n2, e2, s2, b2, g2, g3⟩ := ploop_makes ws hws (l.dropLast ++ two) (to ++ n1) (by
            intro x hx
            match two, b1 with
            | [], _ => rw [List.append_nil] at hx; exact hal x (List.dropLast_subset _ (List.dropLast_subset _ hx))
            | [t], _ => rw [List.dropLast_concat] at hx; exact hal x (List.dropLast_subset _ hx))
          refine ⟨l', n1 ++ n2, by rw [e2]; simp, by rw [sumC_append]; omega, ?_, g2, fun x hx => (List.mem_append.1 hx).elim (g1 x) (g3 x)⟩
          have hne : l ≠ [] := by rintro rfl; simp at hl
          have : 0 < l.length := List.length_pos_iff.2 hne
          simp at b2 ⊢; omega
        | false =>
          rw [if_neg (by simp)]
          have := z1 rfl
          subst this
          rw [List.append_nil]
          exact add to hal
/-- WHAT IS MADE OF A LIST. -/
theorem plist_makes {frm : To} (ha : Ahead frm) (c : Nat → Nat) (hc : ∀ x y, x ≤ y → c x ≤ c y) : ∀ (k : Nat) (n : Int), 0 ≤ n → n < (k : Int) → n < (frm.length : Int) → Makes c (totF (fun i => c (frm.getD i []).length) frm) (plist frm k) n
  | 0, n, h0, h1, _ => by omega
  | k + 1, n, h0, h1, h2 => by
    intro to
    obtain ⟨j, rfl⟩ : ∃ j : Nat, n = (j : Int) := ⟨n.toNat, by omega⟩
    have hj : j < frm.length := by omega
    have hrow : frm[j]? = some frm[j] := List.getElem?_eq_getElem hj
    obtain ⟨l, new, e, s, b, g, gs⟩ := ploop_makes (c := c) (T := totF (fun i => c (frm.getD i []).length) frm) (rec := plist frm k) frm[j] (fun m hm => by
      have := ha j _ hrow m hm
      exact plist_makes ha c hc k m this.1 (by omega) (by omega)) [] to (by intro x hx; simp at hx)
    refine ⟨new ++ [l], ((to ++ new).length : Int), ?_, ?_, ?_⟩
    · rw [plist, if_neg (by omega), Int.toNat_natCast, hrow]
      simp only
      rw [e]
      simp
    · rw [Int.toNat_natCast, totF_eq _ ha hrow, sumC_append]
      have e1 : (frm.getD j []).length = frm[j].length := by rw [List.getD_eq_getElem?_getD, hrow]; rfl
      have e2 : sumC c [l] = c l.length := by simp [sumC]
      have := hc l.length frm[j].length (by simpa using b)
      rw [e1, e2]; omega
    · intro x hx
      rcases List.mem_append.1 hx with hx | hx
      · exact gs x hx
      · simp at hx; subst hx; exact g
end Go.Proofs.YthifgodgfhbnfaaDoor
set_option linter.unusedSimpArgs false
set_option linter.unusedVariables false
namespace Go.Proofs.YthifgodgfhbnfaaDoor
open Go Go.Abs
theorem sumTo_rows (c : Nat → Nat) (frm : To) : ∀ k, k ≤ frm.length → sumTo (fun i => c (frm.getD i []).length) k = sumC c (frm.take k)
  | 0, _ => by simp [sumTo, sumC]
  | k + 1, h => by
    have hk : k < frm.length := by omega
    rw [sumTo, sumTo_rows c frm k (by omega), List.take_succ_eq_append_getElem hk, sumC_append]
    have e : frm.getD k [] = frm[k] := by rw [List.getD_eq_getElem?_getD, List.getElem?_eq_getElem hk]; rfl
    simp only [e]
    simp [sumC]
theorem sumC_one (l : To) : sumC (fun _ => 1) l = l.length := by
  induction l with
  | nil => rfl
  | cons x l ih => simp only [sumC, List.map_cons, List.sum_cons, List.length_cons] at ih ⊢; omega
theorem peep_lists {frm : To} (h : listsE frm = .ok ()) (k : Nat) (hk : frm.length ≤ k) : ∃ (n : Int) (to : To), plist frm k ((frm.length : Int) - 1) [] = some (n, to) ∧ to.length ≤ frm.length ∧ sumC id to ≤ sumC id frm ∧ ∀ l ∈ to, Good l := by
  obtain ⟨h0, ha, ht⟩ := listsE_ok h
  have e1 : ((frm.length : Int) - 1).toNat = frm.length - 1 := by omega
  obtain ⟨n1, i1, q1, s1, g1⟩ := plist_makes ha (fun _ => 1) (fun _ _ _ => Nat.le_refl _) k ((frm.length : Int) - 1) (by omega) (by omega) (by omega) []
  obtain ⟨n2, i2, q2, s2, g2⟩ := plist_makes ha id (fun _ _ h => h) k ((frm.length : Int) - 1) (by omega) (by omega) (by omega) []
  rw [q1] at q2
  cases q2
  have r1 := sumTo_rows (fun _ => 1) frm frm.length (Nat.le_refl _)
  have r2 := sumTo_rows id frm frm.length (Nat.le_refl _)
  rw [List.take_length] at r1 r2
  rw [e1, ht] at s1 s2
  rw [r2] at s2
  have r3 : sumC (fun _ => 1) n1 ≤ sumC (fun _ => 1) frm := by rw [← r1]; exact s1
  refine ⟨_, _, q1, ?_, by simpa using s2, by simpa using g1⟩
  rw [sumC_one, sumC_one] at r3
  simpa using r3
theorem functionE_lists {fs : List F} {f : F} (h : functionE fs f = .ok ()) : listsE f.lists = .ok () := by
  unfold functionE at h
  split at h
  · cases h
  · split at h
    · cases h
    · assumption
theorem functionsE_all {fs : List F} : ∀ {r : List F}, functionsE fs r = .ok () → ∀ f ∈ r, functionE fs f = .ok ()
  | [], _, f, hf => by simp at hf
  | g :: r, h, f, hf => by
    rw [functionsE] at h
    split at h
    · cases h
    · rename_i u hg
      rcases List.mem_cons.1 hf with rfl | hf
      · exact hg
      · exact functionsE_all h f hf
theorem checkE_functions {m : M} (h : checkE m = .ok ()) : ∀ f ∈ m.funcs, functionE m.funcs f = .ok () := by
  unfold checkE at h
  split at h
  · cases h
  · split at h
    · cases h
    · rename_i u hf
      exact functionsE_all hf
end Go.Proofs.YthifgodgfhbnfaaDoor
