/- What a module of Wasm is, and what looking at it comes to, in plain words; no condition. -/
import Derived.Test.YthifgodgfhbnfaaDoorAbs28
import Derived.Lib.IndexMore
set_option linter.unusedSimpArgs false
set_option linter.unusedVariables false
namespace Go.Proofs.YthifgodgfhbnfaaDoor
open Go Go.Abs
structure W where
  op : Int
  ty : Int
  n : Int
  body : Int
  other : Int
  name : List UInt8
deriving DecidableEq
abbrev To := List (List W)
structure F where
  name : List UInt8
  params : List Int
  locals : List Int
  type : Int
  lists : To
structure M where
  funcs : List F
  memory : Int
  main : Int

/-! ### what looking at a list knows -/
structure St where
  stack : List Int
  any : Bool
/-- an error's number, or what there is -/
abbrev Res := Except Int
def mustE (b : Bool) (e : Int) : Res Unit := if b then .ok () else .error e
def dropE (s : St) : Res St :=
  if s.stack.length = 0 then (if s.any then .ok s else .error 14) else .ok { s with stack := s.stack.dropLast }
/-- takes, the first one of the list first -/
def takeE : List Int → St → Res St
  | [], s => .ok s
  | t :: ts, s => if s.stack.length = 0 ∨ s.stack.getLast? = some t then
      match dropE s with
      | .ok s' => takeE ts s'
      | .error e => .error e
    else .error 14
def giveS (s : St) (t : Int) : St := if t = 0 then s else { s with stack := s.stack ++ [t] }
def leftS : St := ⟨[], true⟩
def returnsE (ty : Int) (s : St) : Res St := if ty = 0 then .ok s else takeE [ty] s
def numberB (t : Int) : Bool := decide (t = 1) || decide (t = 2)
/-- Wasm's signs, those of word -/
def signs : List (List UInt8 × List UInt8) := [
  ([97, 100, 100], [43]), ([115, 117, 98], [45]), ([109, 117, 108], [42]), ([100, 105, 118, 95, 115], [47]), ([114, 101, 109, 95, 115], [37]), ([97, 110, 100], [38]), ([111, 114], [124]), ([120, 111, 114], [94]),
  ([115, 104, 108], [60, 60]), ([115, 104, 114, 95, 115], [62, 62]), ([101, 113], [61, 61]), ([110, 101], [33, 61]), ([108, 116, 95, 115], [60]), ([108, 101, 95, 115], [60, 61]), ([103, 116, 95, 115], [62]), ([103, 101, 95, 115], [62, 61])]
def signOf : List (List UInt8 × List UInt8) → List UInt8 → List UInt8
  | [], _ => []
  | (x, y) :: r, s => if x = s then y else signOf r s
def bytesB (t n : Int) : Bool := decide (t = 1) && (decide (n = 1) || decide (n = 4)) || decide (t = 2) && decide (n = 8)
def formB (w : W) : Bool :=
  if w.op = 1 ∨ w.op = 5 then numberB w.ty
  else if w.op = 4 then numberB w.ty && !(signOf signs w.name == [])
  else if w.op = 8 ∨ w.op = 9 then bytesB w.ty w.n
  else decide (1 ≤ w.op) && decide (w.op ≤ 18)
/-- what a function of that number takes, and gives -/
def headOf (fs : List F) (n : Int) : Option (List Int × Int) :=
  if n = 0 then some ([], 2) else if n = 1 then some ([2], 0) else if n = 2 then some ([1], 0)
  else if n < 0 then none else (fs[(n - 3).toNat]?).map fun f => (f.params, f.type)
def wrapT (t v : Int) : Int := if t = 3 then IntKind.i8.wrap v else if t = 1 then IntKind.i32.wrap v else if t = 2 then v else 0
def rangedB (fs : List F) (locals : List Int) (deep : Int) (w : W) : Bool :=
  if w.op = 1 then decide (wrapT w.ty w.n = w.n)
  else if w.op = 2 ∨ w.op = 3 then decide (0 ≤ w.n) && decide (w.n < (locals.length : Int))
  else if w.op = 10 then (headOf fs w.n).isSome
  else if w.op = 14 ∨ w.op = 15 then decide (0 ≤ w.n) && decide (w.n ≤ deep)
  else true
def localAt (locals : List Int) (n : Int) : Int := locals.getD n.toNat 0
def compares : List UInt8 := [32, 101, 113, 32, 110, 101, 32, 108, 116, 95, 115, 32, 108, 101, 95, 115, 32, 103, 116, 95, 115, 32, 103, 101, 95, 115, 32]
def cmpB (s : List UInt8) : Bool := Lib.contains compares (32 :: (s ++ [32]))
def gives (r : Res St) (t : Int) : Res St := match r with
  | .ok s => .ok (giveS s t)
  | .error e => .error e
def plainE (fs : List F) (locals : List Int) (w : W) (s : St) : Res St :=
  if w.op = 1 then .ok (giveS s w.ty)
  else if w.op = 2 then .ok (giveS s (localAt locals w.n))
  else if w.op = 3 then takeE [localAt locals w.n] s
  else if w.op = 4 then gives (takeE [w.ty, w.ty] s) (if cmpB w.name then 1 else w.ty)
  else if w.op = 5 then gives (takeE [w.ty] s) 1
  else if w.op = 6 then gives (takeE [2] s) 1
  else if w.op = 7 then gives (takeE [1] s) 2
  else if w.op = 8 then gives (takeE [1] s) w.ty
  else if w.op = 9 then takeE [w.ty, 1] s
  else if w.op = 10 then match headOf fs w.n with
    | some (ts, g) => gives (takeE ts.reverse s) g
    | none => .ok s
  else if w.op = 18 then dropE s
  else .ok s
/-- how a list is looked at: its place, how deep it stands -/
abbrev Look := Int → Int → Res Unit
def instrE (fs : List F) (locals : List Int) (ty deep : Int) (look : Look) (w : W) (s : St) : Res St :=
  if formB w = false then .error 2
  else if rangedB fs locals deep w = false then .error 11
  else if w.op = 11 ∨ w.op = 12 then match look w.body (deep + 1) with
    | .ok _ => .ok s
    | .error e => .error e
  else if w.op = 13 then match takeE [1] s with
    | .error e => .error e
    | .ok s1 => match look w.body (deep + 1) with
      | .error e => .error e
      | .ok _ => if 0 ≤ w.other then match look w.other (deep + 1) with
          | .error e => .error e
          | .ok _ => .ok s1
        else .ok s1
  else if w.op = 15 then match takeE [1] s with
    | .error e => .error e
    | .ok s1 => if w.n = deep then gives (returnsE ty s1) ty else .ok s1
  else if w.op = 14 then if w.n = deep then match returnsE ty s with
      | .error e => .error e
      | .ok _ => .ok leftS
    else .ok leftS
  else if w.op = 16 then match returnsE ty s with
    | .error e => .error e
    | .ok _ => .ok leftS
  else if w.op = 17 then .ok leftS
  else plainE fs locals w s
def instrsE (fs : List F) (locals : List Int) (ty deep : Int) (look : Look) : List W → St → Res St
  | [], s => .ok s
  | w :: ws, s => match instrE fs locals ty deep look w s with
    | .error e => .error e
    | .ok s' => instrsE fs locals ty deep look ws s'
def endE (ty deep : Int) (s : St) : Res Unit := match (if deep = 0 then returnsE ty s else .ok s) with
  | .error e => .error e
  | .ok s' => if s'.stack.length = 0 then .ok () else .error 14
def lookE (fs : List F) (locals : List Int) (ty : Int) (lists : To) : Nat → Look
  | 0, _, _ => .error (-1)
  | k + 1, at_, deep => match instrsE fs locals ty deep (lookE fs locals ty lists k) (lists.getD at_.toNat []) ⟨[], false⟩ with
    | .error e => .error e
    | .ok s => endE ty deep s

/-! ### which lists are named -/
def namesL (w : W) : List Int := if w.op = 11 ∨ w.op = 12 ∨ (w.op = 13 ∧ w.other < 0) then [w.body] else if w.op = 13 then [w.body, w.other] else []
def nameE (at_ : Int) (named : List Bool) (n : Int) : Res (List Bool) :=
  if 0 ≤ n ∧ n < at_ ∧ named.getD n.toNat true = false then .ok (named.set n.toNat true) else .error 11
def namesE (at_ : Int) : List Int → List Bool → Res (List Bool)
  | [], named => .ok named
  | n :: ns, named => match nameE at_ named n with
    | .error e => .error e
    | .ok named' => namesE at_ ns named'
def rowE (at_ : Int) : List W → List Bool → Res (List Bool)
  | [], named => .ok named
  | w :: ws, named => match namesE at_ (namesL w) named with
    | .error e => .error e
    | .ok named' => rowE at_ ws named'
def rowsE : Nat → To → List Bool → Res (List Bool)
  | _, [], named => .ok named
  | k, l :: ls, named => match rowE (k : Int) l named with
    | .error e => .error e
    | .ok named' => rowsE (k + 1) ls named'
def listsE (ls : To) : Res Unit :=
  if ls.length = 0 then .error 11 else match rowsE 0 ls (List.replicate ls.length false) with
    | .error e => .error e
    | .ok named => if (named.take (ls.length - 1)).all (· == true) then .ok () else .error 11
def functionE (fs : List F) (f : F) : Res Unit :=
  if ((f.params ++ f.locals).all numberB && decide (0 ≤ f.type) && decide (f.type ≤ 2)) = false then .error 6 else match listsE f.lists with
    | .error e => .error e
    | .ok _ => lookE fs (f.params ++ f.locals) f.type f.lists f.lists.length ((f.lists.length : Int) - 1) 0
def functionsE (fs : List F) : List F → Res Unit
  | [] => .ok ()
  | f :: r => match functionE fs f with
    | .error e => .error e
    | .ok _ => functionsE fs r
def mainB (m : M) : Bool := decide (0 ≤ m.main) && match m.funcs[m.main.toNat]? with
  | some f => decide (f.type = 1) && decide (f.params.length = 0)
  | none => false
def checkE (m : M) : Res Unit :=
  if (decide (0 ≤ m.memory) && decide (m.memory ≤ 4096)) = false then .error 11 else match functionsE m.funcs m.funcs with
    | .error e => .error e
    | .ok _ => if mainB m then .ok () else .error 12
def errOf : Res Unit → Int
  | .ok _ => 0
  | .error e => e
end Go.Proofs.YthifgodgfhbnfaaDoor
set_option linter.unusedSimpArgs false
set_option linter.unusedVariables false
namespace Go.Proofs.YthifgodgfhbnfaaDoor
open Go Go.Abs
def sumTo (f : Nat → Nat) : Nat → Nat
  | 0 => 0
  | k + 1 => sumTo f k + f k
theorem sumTo_congr {f g : Nat → Nat} : ∀ k, (∀ i, i < k → f i = g i) → sumTo f k = sumTo g k
  | 0, _ => rfl
  | k + 1, h => by rw [sumTo, sumTo, sumTo_congr k fun i hi => h i (by omega), h k (by omega)]
/-- what the roots weigh -/
def rt (T : Nat → Nat) (named : List Bool) (i : Nat) : Nat := if named.getD i true then 0 else T i
theorem getD_set (named : List Bool) (n i : Nat) : (named.set n true).getD i true = if i = n then true else named.getD i true := by
  rw [List.getD_eq_getElem?_getD, List.getD_eq_getElem?_getD, List.getElem?_set]
  by_cases h : n = i
  · subst h
    rw [if_pos rfl, if_pos rfl]
    split <;> rfl
  · rw [if_neg h, if_neg (fun e => h e.symm)]
theorem rt_set_ne (T : Nat → Nat) (named : List Bool) {n i : Nat} (h : i ≠ n) : rt T (named.set n true) i = rt T named i := by
  have e : (named.set n true).getD i true = named.getD i true := by rw [getD_set, if_neg h]
  unfold rt; rw [e]
theorem sumTo_set (T : Nat → Nat) (named : List Bool) (n : Nat) (h : named.getD n true = false) : ∀ k, n < k → sumTo (rt T (named.set n true)) k + T n = sumTo (rt T named) k
  | 0, hk => by omega
  | k + 1, hk => by
    simp only [sumTo]
    by_cases e : n = k
    · subst e
      have h1 : sumTo (rt T (named.set n true)) n = sumTo (rt T named) n := sumTo_congr n fun i hi => rt_set_ne T named (Nat.ne_of_lt hi)
      have h2 : rt T (named.set n true) n = 0 := by
        have e : (named.set n true).getD n true = true := by rw [getD_set, if_pos rfl]
        unfold rt; rw [e]; rfl
      have h3 : rt T named n = T n := by unfold rt; rw [h]; rfl
      omega
    · have ih := sumTo_set T named n h k (by omega)
      have h2 : rt T (named.set n true) k = rt T named k := rt_set_ne T named (fun q => e q.symm)
      omega
def sumL (l : List Int) (T : Nat → Nat) : Nat := (l.map fun n => T n.toNat).sum
theorem sumL_append (a b : List Int) (T) : sumL (a ++ b) T = sumL a T + sumL b T := by simp [sumL]
structure Named (T : Nat → Nat) (k : Nat) (named named' : List Bool) (ns : List Int) : Prop where
  inside : ∀ n ∈ ns, 0 ≤ n ∧ n < (k : Int)
  sum : sumTo (rt T named') k + sumL ns T = sumTo (rt T named) k
  rest : ∀ i, k ≤ i → named'.getD i true = named.getD i true
  len : named'.length = named.length
theorem Named.nil {T k named} : Named T k named named [] := ⟨by simp, by simp [sumL], fun _ _ => rfl, rfl⟩
theorem Named.trans {T k a b c l m} (h : Named T k a b l) (h' : Named T k b c m) : Named T k a c (l ++ m) where
  inside n hn := (List.mem_append.1 hn).elim (h.inside n) (h'.inside n)
  sum := by rw [sumL_append]; have := h.sum; have := h'.sum; omega
  rest i hi := (h'.rest i hi).trans (h.rest i hi)
  len := h'.len.trans h.len
theorem nameE_ok {T k named n named'} (h : nameE (k : Nat) named n = .ok named') : Named T k named named' [n] := by
  unfold nameE at h
  split at h
  · rename_i hc
    cases h
    obtain ⟨h0, h1, h2⟩ := hc
    have hk : n.toNat < k := by omega
    refine ⟨by simp; exact ⟨h0, h1⟩, by simpa [sumL] using sumTo_set T named n.toNat h2 k hk, fun i hi => by rw [getD_set, if_neg (by omega)], by simp⟩
  · cases h
theorem namesE_ok {T k} : ∀ {ns named named'}, namesE (k : Nat) ns named = .ok named' → Named T k named named' ns
  | [], _, _, h => by simp [namesE] at h; subst h; exact .nil
  | n :: ns, named, named', h => by
    rw [namesE] at h
    split at h
    · cases h
    · rename_i named1 h1
      exact (nameE_ok h1).trans (namesE_ok h)
theorem rowE_ok {T k} : ∀ {ws named named'}, rowE (k : Nat) ws named = .ok named' → Named T k named named' (ws.flatMap namesL)
  | [], _, _, h => by simp [rowE] at h; subst h; exact .nil
  | w :: ws, named, named', h => by
    rw [rowE] at h
    split at h
    · cases h
    · rename_i named1 h1
      rw [List.flatMap_cons]
      exact (namesE_ok h1).trans (rowE_ok h)
/-- what stands in a list names lists ahead of it -/
def Ahead (ls : To) : Prop := ∀ (k : Nat) (row : List W), ls[k]? = some row → ∀ n ∈ row.flatMap namesL, 0 ≤ n ∧ n < (k : Int)
theorem rowsE_ahead (ls : To) : ∀ (r : To) (k : Nat) (named named' : List Bool), ls.drop k = r → rowsE k r named = .ok named' → ∀ j row, k ≤ j → ls[j]? = some row → ∀ n ∈ row.flatMap namesL, 0 ≤ n ∧ n < (j : Int)
  | [], k, _, _, hd, _, j, row, hj, hr => by
    have : ls.length ≤ k := List.drop_eq_nil_iff.1 hd
    rw [List.getElem?_eq_none (by omega)] at hr; cases hr
  | l :: r, k, named, named', hd, h, j, row, hj, hr => by
    rw [rowsE] at h
    split at h
    · cases h
    · rename_i named1 h1
      have hl : ls[k]? = some l := by
        have := congrArg (·[0]?) hd
        simpa using this
      have hd' : ls.drop (k + 1) = r := by
        have := congrArg (List.drop 1) hd
        simpa [List.drop_drop] using this
      by_cases e : j = k
      · subst e
        rw [hl] at hr; cases hr
        exact (rowE_ok (T := fun _ => 0) h1).inside
      · exact rowsE_ahead ls r (k + 1) named1 named' hd' h j row (by omega) hr
theorem rowsE_sum (ls : To) (T g : Nat → Nat) (hT : ∀ k row, ls[k]? = some row → T k = g k + sumL (row.flatMap namesL) T) : ∀ (r : To) (k : Nat) (named named' : List Bool), ls.drop k = r → rowsE k r named = .ok named' → k ≤ ls.length →
    sumTo (rt T named) k = sumTo g k → named.length = ls.length → (∀ i, k ≤ i → i < ls.length → named.getD i true = false) →
    sumTo (rt T named') ls.length = sumTo g ls.length ∧ named'.length = ls.length ∧ (0 < ls.length → k < ls.length → named'.getD (ls.length - 1) true = false)
  | [], k, named, named', hd, h, hk, hs, hl, hf => by
    have hlen : ls.length ≤ k := List.drop_eq_nil_iff.1 hd
    simp [rowsE] at h
    subst h
    obtain rfl : k = ls.length := by omega
    exact ⟨hs, hl, fun _ h => by omega⟩
  | l :: r, k, named, named', hd, h, hk, hs, hlen, hf => by
    rw [rowsE] at h
    split at h
    · cases h
    · rename_i named1 h1
      have hl : ls[k]? = some l := by
        have := congrArg (·[0]?) hd
        simpa using this
      have hd' : ls.drop (k + 1) = r := by
        have := congrArg (List.drop 1) hd
        simpa [List.drop_drop] using this
      have hk' : k < ls.length := (List.getElem?_eq_some_iff.1 hl).1
      have N := rowE_ok (T := T) h1
      have hkk : named1.getD k true = false := (N.rest k (Nat.le_refl _)).trans (hf k (Nat.le_refl _) hk')
      have hsum : sumTo (rt T named1) (k + 1) = sumTo g (k + 1) := by
        simp only [sumTo]
        have h3 : rt T named1 k = T k := by unfold rt; rw [hkk]; rfl
        have := N.sum
        have := hT k l hl
        omega
      have key := rowsE_sum ls T g hT r (k + 1) named1 named' hd' h hk' hsum (N.len.trans hlen) fun i hi hil => (N.rest i (by omega)).trans (hf i (by omega) hil)
      refine ⟨key.1, key.2.1, fun h0 _ => ?_⟩
      by_cases e : k + 1 < ls.length
      · exact key.2.2 h0 e
      · have : r = [] := by
          have hdl := congrArg List.length hd'
          rw [List.length_drop] at hdl
          exact List.length_eq_zero_iff.1 (by omega)
        subst this
        simp [rowsE] at h
        subst h
        rw [show ls.length - 1 = k from by omega]
        exact hkk
/-- how much hangs on a list -/
def tot (g : Nat → Nat) (ls : To) : Nat → Nat → Nat
  | 0, _ => 0
  | f + 1, k => g k + sumL ((ls.getD k []).flatMap namesL) (tot g ls f)
theorem sumL_congr {l : List Int} {T U : Nat → Nat} (h : ∀ n ∈ l, T n.toNat = U n.toNat) : sumL l T = sumL l U := by
  induction l with
  | nil => rfl
  | cons n l ih =>
    simp only [sumL, List.map_cons, List.sum_cons] at ih ⊢
    rw [h n (by simp), ih fun m hm => h m (by simp [hm])]
theorem tot_stable (g : Nat → Nat) {ls : To} (ha : Ahead ls) : ∀ (f : Nat) (k : Nat), k < f → tot g ls (f + 1) k = tot g ls f k := by
  intro f
  induction f with
  | zero => intro k h; omega
  | succ f ih =>
    intro k hk
    rw [tot, tot]
    congr 1
    refine sumL_congr fun n hn => ?_
    cases hr : ls[k]? with
    | none => rw [List.getD_eq_getElem?_getD, hr] at hn; simp at hn
    | some row =>
      rw [List.getD_eq_getElem?_getD, hr] at hn
      have := ha k row hr n hn
      exact ih n.toNat (by omega)
/-- what hangs on a list of a function -/
def totF (g : Nat → Nat) (ls : To) (k : Nat) : Nat := tot g ls ls.length k
theorem totF_eq (g : Nat → Nat) {ls : To} (ha : Ahead ls) {k : Nat} {row : List W} (h : ls[k]? = some row) : totF g ls k = g k + sumL (row.flatMap namesL) (totF g ls) := by
  have hk := (List.getElem?_eq_some_iff.1 h).1
  unfold totF
  rw [← tot_stable g ha ls.length k hk, tot, List.getD_eq_getElem?_getD, h]
  rfl
theorem sumTo_zero : ∀ k, sumTo (fun _ => 0) k = 0
  | 0 => rfl
  | k + 1 => by rw [sumTo, sumTo_zero k]
theorem listsE_ok {ls : To} (h : listsE ls = .ok ()) : 0 < ls.length ∧ Ahead ls ∧ ∀ g, totF g ls (ls.length - 1) = sumTo g ls.length := by
  unfold listsE at h
  split at h
  · cases h
  · rename_i h0
    split at h
    · cases h
    · rename_i named hr
      split at h
      · rename_i hall
        have ha : Ahead ls := fun k row hk => rowsE_ahead ls ls 0 _ _ (by simp) hr k row (Nat.zero_le _) hk
        refine ⟨by omega, ha, fun g => ?_⟩
        obtain ⟨h1, h2, h3⟩ := rowsE_sum ls (totF g ls) g (fun k row hk => totF_eq g ha hk) ls 0 _ _ (by simp) hr (Nat.zero_le _) rfl (by simp) fun i _ hi => by
          rw [List.getD_eq_getElem?_getD, List.getElem?_replicate, if_pos hi]; rfl
        obtain ⟨L, hL⟩ : ∃ L, ls.length = L + 1 := ⟨ls.length - 1, by omega⟩
        have h3' := h3 (by omega) (by omega)
        rw [hL] at h1 h3' hall ⊢
        simp only [Nat.add_sub_cancel] at h3' hall ⊢
        rw [← h1, sumTo]
        have z : sumTo (rt (totF g ls) named) L = 0 := by
          have : sumTo (rt (totF g ls) named) L = sumTo (fun _ => 0) L := sumTo_congr L fun i hi => by
            have hm : (named.take L)[i]? = some true := by
              have hlt : i < (named.take L).length := by rw [List.length_take]; omega
              rw [List.getElem?_eq_getElem hlt]
              have := List.all_eq_true.1 hall _ (List.getElem_mem hlt)
              simpa using this
            rw [List.getElem?_take, if_pos hi] at hm
            have e : named.getD i true = true := by rw [List.getD_eq_getElem?_getD, hm]; rfl
            unfold rt; rw [e]; rfl
          rw [this, sumTo_zero]
        have e : rt (totF g ls) named L = totF g ls L := by unfold rt; rw [h3']; rfl
        rw [z, e]; omega
      · cases h
end Go.Proofs.YthifgodgfhbnfaaDoor
set_option linter.unusedSimpArgs false
set_option linter.unusedVariables false
namespace Go.Proofs.YthifgodgfhbnfaaDoor
open Go Go.Abs
/-- what the compiled list-maker gives: where the list lies, and all that was made -/
abbrev Rec := Int → To → Option (Int × To)

def leavesW (w : W) : Bool := w.op == 14 || w.op == 16 || w.op == 17
def plists (rec : Rec) (w : W) (to : To) : Option (W × To) :=
  if w.op = 13 then
    match rec w.body to with
    | none => none
    | some (b, to1) =>
      if 0 ≤ w.other then
        match rec w.other to1 with
        | none => none
        | some (o, to2) => some ({ w with body := b, other := o }, to2)
      else some ({ w with body := b }, to1)
  else if w.op = 11 ∨ w.op = 12 then
    match rec w.body to with
    | none => none
    | some (b, to1) => some ({ w with body := b }, to1)
  else some (w, to)
def pchosen (rec : Rec) (n : Int) (w : W) (to : To) : Option (List W × To) :=
  let at_ := if n = 0 then w.other else w.body
  if at_ < 0 then some ([], to) else
    match rec at_ to with
    | none => none
    | some (b, to1) => some ([⟨11, 0, 0, b, 0, []⟩], to1)
def ptogether (rec : Rec) (a b : W) (to : To) : Option (List W × Bool × To) :=
  let number := decide (a.op = 1) && decide (a.ty = 1)
  if (a.op = 1 ∨ a.op = 2) ∧ b.op = 18 then some ([], true, to)
  else if a.op = 1 ∧ b.op = 5 then some ([⟨1, 1, if a.n = 0 then 1 else 0, 0, 0, []⟩], decide (a.ty = b.ty), to)
  else if a.op = 1 ∧ b.op = 15 then
    if a.n = 0 then some ([], number, to) else some ([⟨14, 0, b.n, 0, 0, []⟩], number, to)
  else if a.op = 1 ∧ b.op = 13 then
    if number then
      match pchosen rec a.n b to with
      | none => none
      | some (l, to1) => some (l, true, to1)
    else some ([], false, to)
  else some ([], false, to)
def ploop (rec : Rec) : List W → List W → To → Option (List W × To)
  | [], l, to => some (l, to)
  | w :: ws, l, to =>
    match l.getLast? with
    | none =>
      match plists rec w to with
      | none => none
      | some (w', to2) => ploop rec ws (l ++ [w']) to2
    | some p =>
      if leavesW p then some (l, to) else
      match ptogether rec p w to with
      | none => none
      | some (two, is, to1) =>
        if is then ploop rec ws (l.dropLast ++ two) to1
        else match plists rec w to1 with
          | none => none
          | some (w', to2) => ploop rec ws (l ++ [w']) to2
def plist (frm : To) : Nat → Rec
  | 0, _, _ => none
  | k + 1, at_, to =>
    if at_ < 0 then none else
    match frm[at_.toNat]? with
    | none => none
    | some ws => match ploop (plist frm k) ws [] to with
      | none => none
      | some (l, to1) => some (to1.length, to1 ++ [l])


/-- nothing stands behind what leaves -/
def Good (l : List W) : Prop := ∀ w ∈ l.dropLast, leavesW w = false
def sumC (c : Nat → Nat) (ls : To) : Nat := (ls.map fun l => c l.length).sum
theorem sumC_append (c a b) : sumC c (a ++ b) = sumC c a + sumC c b := by simp [sumC]
theorem sumL_mem {T : Nat → Nat} {n : Int} : ∀ {l : List Int}, n ∈ l → T n.toNat ≤ sumL l T
  | [], h => by simp at h
  | m :: l, h => by
    simp only [sumL, List.map_cons, List.sum_cons]
    rcases List.mem_cons.1 h with rfl | h
    · omega
    · have := sumL_mem (T := T) h; unfold sumL at this; omega
/-- what a list-maker does for the lists that are named -/
def Makes (c : Nat → Nat) (T : Nat → Nat) (rec : Rec) (n : Int) : Prop := ∀ to, ∃ (new : To) (i : Int), rec n to = some (i, to ++ new) ∧ sumC c new ≤ T n.toNat ∧ ∀ x ∈ new, Good x
theorem plists_makes {c T rec} {w : W} (h : ∀ n ∈ namesL w, Makes c T rec n) (to : To) : ∃ (w' : W) (new : To), plists rec w to = some (w', to ++ new) ∧ sumC c new ≤ sumL (namesL w) T ∧ ∀ x ∈ new, Good x := by
  unfold plists
  by_cases h13 : w.op = 13
  · rw [if_pos h13]
    by_cases ho : 0 ≤ w.other
    · have hn : namesL w = [w.body, w.other] := by unfold namesL; rw [if_neg (by omega), if_pos h13]
      rw [hn] at h ⊢
      obtain ⟨n1, i1, e1, s1, g1⟩ := h w.body (by simp) to
      obtain ⟨n2, i2, e2, s2, g2⟩ := h w.other (by simp) (to ++ n1)
      refine ⟨{ w with body := i1, other := i2 }, n1 ++ n2, ?_, ?_, ?_⟩
      · rw [e1]; simp only; rw [if_pos ho, e2]; simp
      · rw [sumC_append]; simp [sumL]; omega
      · intro x hx; exact (List.mem_append.1 hx).elim (g1 x) (g2 x)
    · have hn : namesL w = [w.body] := by unfold namesL; rw [if_pos (by omega)]
      rw [hn] at h ⊢
      obtain ⟨n1, i1, e1, s1, g1⟩ := h w.body (by simp) to
      refine ⟨{ w with body := i1 }, n1, ?_, ?_, g1⟩
      · rw [e1]; simp only; rw [if_neg ho]
      · simpa [sumL] using s1
  · rw [if_neg h13]
    by_cases h11 : w.op = 11 ∨ w.op = 12
    · rw [if_pos h11]
      have hn : namesL w = [w.body] := by unfold namesL; rw [if_pos (by omega)]
      rw [hn] at h ⊢
      obtain ⟨n1, i1, e1, s1, g1⟩ := h w.body (by simp) to
      refine ⟨{ w with body := i1 }, n1, ?_, ?_, g1⟩
      · rw [e1]
      · simpa [sumL] using s1
    · rw [if_neg h11]
      exact ⟨w, [], by simp, by simp [sumC], by simp⟩
theorem ptogether_makes {c T rec} {a w : W} (h : ∀ n ∈ namesL w, Makes c T rec n) (to : To) : ∃ (two : List W) (is : Bool) (new : To), ptogether rec a w to = some (two, is, to ++ new) ∧ two.length ≤ 1 ∧ sumC c new ≤ sumL (namesL w) T ∧ (∀ x ∈ new, Good x) ∧ (is = false → new = []) := by
  unfold ptogether
  simp only
  by_cases h1 : (a.op = 1 ∨ a.op = 2) ∧ w.op = 18
  · rw [if_pos h1]; exact ⟨_, _, [], by rw [List.append_nil], by simp, by simp [sumC], by simp, fun _ => rfl⟩
  rw [if_neg h1]
  by_cases h2 : a.op = 1 ∧ w.op = 5
  · rw [if_pos h2]; exact ⟨_, _, [], by rw [List.append_nil], by simp, by simp [sumC], by simp, fun _ => rfl⟩
  rw [if_neg h2]
  by_cases h3 : a.op = 1 ∧ w.op = 15
  · rw [if_pos h3]
    by_cases h4 : a.n = 0
    · rw [if_pos h4]; exact ⟨_, _, [], by rw [List.append_nil], by simp, by simp [sumC], by simp, fun _ => rfl⟩
    · rw [if_neg h4]; exact ⟨_, _, [], by rw [List.append_nil], by simp, by simp [sumC], by simp, fun _ => rfl⟩
  rw [if_neg h3]
  by_cases h5 : a.op = 1 ∧ w.op = 13
  · rw [if_pos h5]
    by_cases h6 : (decide (a.op = 1) && decide (a.ty = 1)) = true
    · rw [if_pos h6]
      unfold pchosen
      simp only
      by_cases h7 : (if a.n = 0 then w.other else w.body) < 0
      · rw [if_pos h7]; exact ⟨_, _, [], by rw [List.append_nil], by simp, by simp [sumC], by simp, by simp⟩
      · rw [if_neg h7]
        have hm : (if a.n = 0 then w.other else w.body) ∈ namesL w := by
          unfold namesL
          by_cases ho : w.other < 0
          · rw [if_pos (by omega)]
            split at h7
            · omega
            · rename_i q; rw [if_neg q]; simp
          · rw [if_neg (by omega), if_pos h5.2]
            split <;> simp
        have hle : T ((if a.n = 0 then w.other else w.body)).toNat ≤ sumL (namesL w) T := by
          exact sumL_mem hm
        obtain ⟨n1, i1, e1, s1, g1⟩ := h _ hm to
        rw [e1]
        exact ⟨_, _, n1, rfl, by simp, by omega, g1, by simp⟩
    · rw [if_neg h6]; exact ⟨_, _, [], by rw [List.append_nil], by simp, by simp [sumC], by simp, fun _ => rfl⟩
  rw [if_neg h5]
  exact ⟨_, _, [], by rw [List.append_nil], by simp, by simp [sumC], by simp, fun _ => rfl⟩
theorem good_all {l : List W} {p : W} (hl : l.getLast? = some p) (hg : Good l) (hp : leavesW p = false) : ∀ w ∈ l, leavesW w = false := by
  obtain ⟨l0, rfl⟩ : ∃ l0, l = l0 ++ [p] := ⟨l.dropLast, by
    have hne : l ≠ [] := by rintro rfl; simp at hl
    rw [List.getLast?_eq_some_getLast hne] at hl
    cases hl
    exact (List.dropLast_concat_getLast hne).symm⟩
  intro w hw
  rcases List.mem_append.1 hw with h | h
  · exact hg w (by simpa using h)
  · simp at h; subst h; exact hp
theorem ploop_makes {c T rec} : ∀ (ws : List W) (h : ∀ n ∈ ws.flatMap namesL, Makes c T rec n) (l : List W) (to : To), Good l → ∃ (l' : List W) (new : To), ploop rec ws l to = some (l', to ++ new) ∧ sumC c new ≤ sumL (ws.flatMap namesL) T ∧ l'.length ≤ l.length + ws.length ∧ Good l' ∧ ∀ x ∈ new, Good x
  | [], _, l, to, hg => ⟨l, [], by simp [ploop], by simp [sumC], by simp, hg, by simp⟩
  | w :: ws, h, l, to, hg => by
    have hw : ∀ n ∈ namesL w, Makes c T rec n := fun n hn => h n (by simp only [List.flatMap_cons, List.mem_append]; exact .inl hn)
    have hws : ∀ n ∈ ws.flatMap namesL, Makes c T rec n := fun n hn => h n (by simp only [List.flatMap_cons, List.mem_append]; exact .inr hn)
    rw [List.flatMap_cons, sumL_append]
    have add : ∀ to1, (∀ w ∈ l, leavesW w = false) → ∃ (l' : List W) (new : To), (match plists rec w to1 with | none => none | some (w', to2) => ploop rec ws (l ++ [w']) to2) = some (l', to1 ++ new) ∧ sumC c new ≤ sumL (namesL w) T + sumL (ws.flatMap namesL) T ∧ l'.length ≤ l.length + (w :: ws).length ∧ Good l' ∧ ∀ x ∈ new, Good x := by
      intro to1 hal
      obtain ⟨w', n1, e1, s1, g1⟩ := plists_makes hw to1
      obtain ⟨l', n2, e2, s2, b2, g2, g3⟩ := ploop_makes ws hws (l ++ [w']) (to1 ++ n1) (by intro x hx; simp at hx; exact hal x hx)
      rw [e1]
      refine ⟨l', n1 ++ n2, by simp only; rw [e2]; simp, by rw [sumC_append]; omega, by simp at b2 ⊢; omega, g2, fun x hx => (List.mem_append.1 hx).elim (g1 x) (g3 x)⟩
    rw [ploop]
    cases hl : l.getLast? with
    | none =>
      have : l = [] := by simpa using hl
      subst this
      exact add to (by simp)
    | some p =>
      simp only
      by_cases hp : leavesW p = true
      · rw [if_pos hp]
        exact ⟨l, [], by simp, by simp [sumC], by simp, hg, by simp⟩
      · rw [if_neg hp]
        have hal := good_all hl hg (by simpa using hp)
        obtain ⟨two, is, n1, e1, b1, s1, g1, z1⟩ := ptogether_makes (a := p) hw to
        rw [e1]
        simp only
        cases is with
        | true =>
          rw [if_pos rfl]
          obtain ⟨l', n2, e2, s2, b2, g2, g3⟩ := ploop_makes ws hws (l.dropLast ++ two) (to ++ n1) (by
            intro x hx
            match two, b1 with
            | [], _ => rw [List.append_nil] at hx; exact hal x (List.dropLast_subset _ (List.dropLast_subset _ hx))
            | [t], _ => rw [List.dropLast_concat] at hx; exact hal x (List.dropLast_subset _ hx))
          refine ⟨l', n1 ++ n2, by rw [e2]; simp, by rw [sumC_append]; omega, ?_, g2, fun x hx => (List.mem_append.1 hx).elim (g1 x) (g3 x)⟩
          have hne : l ≠ [] := by rintro rfl; simp at hl
          have : 0 < l.length := List.length_pos_iff.2 hne
          simp at b2 ⊢; omega
        | false =>
          rw [if_neg (by simp)]
          have := z1 rfl
          subst this
          rw [List.append_nil]
          exact add to hal
/-- WHAT IS MADE OF A LIST. -/
theorem plist_makes {frm : To} (ha : Ahead frm) (c : Nat → Nat) (hc : ∀ x y, x ≤ y → c x ≤ c y) : ∀ (k : Nat) (n : Int), 0 ≤ n → n < (k : Int) → n < (frm.length : Int) → Makes c (totF (fun i => c (frm.getD i []).length) frm) (plist frm k) n
  | 0, n, h0, h1, _ => by omega
  | k + 1, n, h0, h1, h2 => by
    intro to
    obtain ⟨j, rfl⟩ : ∃ j : Nat, n = (j : Int) := ⟨n.toNat, by omega⟩
    have hj : j < frm.length := by omega
    have hrow : frm[j]? = some frm[j] := List.getElem?_eq_getElem hj
    obtain ⟨l, new, e, s, b, g, gs⟩ := ploop_makes (c := c) (T := totF (fun i => c (frm.getD i []).length) frm) (rec := plist frm k) frm[j] (fun m hm => by
      have := ha j _ hrow m hm
      exact plist_makes ha c hc k m this.1 (by omega) (by omega)) [] to (by intro x hx; simp at hx)
    refine ⟨new ++ [l], ((to ++ new).length : Int), ?_, ?_, ?_⟩
    · rw [plist, if_neg (by omega), Int.toNat_natCast, hrow]
      simp only
      rw [e]
      simp
    · rw [Int.toNat_natCast, totF_eq _ ha hrow, sumC_append]
      have e1 : (frm.getD j []).length = frm[j].length := by rw [List.getD_eq_getElem?_getD, hrow]; rfl
      have e2 : sumC c [l] = c l.length := by simp [sumC]
      have := hc l.length frm[j].length (by simpa using b)
      rw [e1, e2]; omega
    · intro x hx
      rcases List.mem_append.1 hx with hx | hx
      · exact gs x hx
      · simp at hx; subst hx; exact g
end Go.Proofs.YthifgodgfhbnfaaDoor
set_option linter.unusedSimpArgs false
set_option linter.unusedVariables false
namespace Go.Proofs.YthifgodgfhbnfaaDoor
open Go Go.Abs
theorem sumTo_rows (c : Nat → Nat) (frm : To) : ∀ k, k ≤ frm.length → sumTo (fun i => c (frm.getD i []).length) k = sumC c (frm.take k)
  | 0, _ => by simp [sumTo, sumC]
  | k + 1, h => by
    have hk : k < frm.length := by omega
    rw [sumTo, sumTo_rows c frm k (by omega), List.take_succ_eq_append_getElem hk, sumC_append]
    have e : frm.getD k [] = frm[k] := by rw [List.getD_eq_getElem?_getD, List.getElem?_eq_getElem hk]; rfl
    simp only [e]
    simp [sumC]
theorem sumC_one (l : To) : sumC (fun _ => 1) l = l.length := by
  induction l with
  | nil => rfl
  | cons x l ih => simp only [sumC, List.map_cons, List.sum_cons, List.length_cons] at ih ⊢; omega
theorem peep_lists {frm : To} (h : listsE frm = .ok ()) (k : Nat) (hk : frm.length ≤ k) : ∃ (n : Int) (to : To), plist frm k ((frm.length : Int) - 1) [] = some (n, to) ∧ to.length ≤ frm.length ∧ sumC id to ≤ sumC id frm ∧ ∀ l ∈ to, Good l := by
  obtain ⟨h0, ha, ht⟩ := listsE_ok h
  have e1 : ((frm.length : Int) - 1).toNat = frm.length - 1 := by omega
  obtain ⟨n1, i1, q1, s1, g1⟩ := plist_makes ha (fun _ => 1) (fun _ _ _ => Nat.le_refl _) k ((frm.length : Int) - 1) (by omega) (by omega) (by omega) []
  obtain ⟨n2, i2, q2, s2, g2⟩ := plist_makes ha id (fun _ _ h => h) k ((frm.length : Int) - 1) (by omega) (by omega) (by omega) []
  rw [q1] at q2
  cases q2
  have r1 := sumTo_rows (fun _ => 1) frm frm.length (Nat.le_refl _)
  have r2 := sumTo_rows id frm frm.length (Nat.le_refl _)
  rw [List.take_length] at r1 r2
  rw [e1, ht] at s1 s2
  rw [r2] at s2
  have r3 : sumC (fun _ => 1) n1 ≤ sumC (fun _ => 1) frm := by rw [← r1]; exact s1
  refine ⟨_, _, q1, ?_, by simpa using s2, by simpa using g1⟩
  rw [sumC_one, sumC_one] at r3
  simpa using r3
theorem functionE_lists {fs : List F} {f : F} (h : functionE fs f = .ok ()) : listsE f.lists = .ok () := by
  unfold functionE at h
  split at h
  · cases h
  · split at h
    · cases h
    · assumption
theorem functionsE_all {fs : List F} : ∀ {r : List F}, functionsE fs r = .ok () → ∀ f ∈ r, functionE fs f = .ok ()
  | [], _, f, hf => by simp at hf
  | g :: r, h, f, hf => by
    rw [functionsE] at h
    split at h
    · cases h
    · rename_i u hg
      rcases List.mem_cons.1 hf with rfl | hf
      · exact hg
      · exact functionsE_all h f hf
theorem checkE_functions {m : M} (h : checkE m = .ok ()) : ∀ f ∈ m.funcs, functionE m.funcs f = .ok () := by
  unfold checkE at h
  split at h
  · cases h
  · split at h
    · cases h
    · rename_i u hf
      exact functionsE_all hf
end Go.Proofs.YthifgodgfhbnfaaDoor
set_option linter.unusedSimpArgs false
set_option linter.unusedVariables false
namespace Go.Proofs.YthifgodgfhbnfaaDoor
open Go Go.Abs
/-- a machine -/
structure Mach where
  input : List Int
  steps : Int
  memory : List UInt8
  out : List Int
  calls : Int
/-- a call that stands open -/
structure Fr where
  fn : F
  locals : List Int
  stack : List Int
  result : Int
/-- what a part of a run comes to: it goes on; the run is over; it falls (or the fuel is gone) -/
inductive Ev (α : Type) where
  | ok (a : α) (x : Mach) (r : Fr)
  | over (status code : Int) (x : Mach)
  | bad
def Fr.push (r : Fr) (v : Int) : Fr := { r with stack := r.stack ++ [v] }
def popK {α : Type} (r : Fr) (k : Int → Fr → Ev α) : Ev α := match r.stack.getLast? with
  | none => .bad
  | some v => k v { r with stack := r.stack.dropLast }
/-- word's operations -/
def divideW (k : IntKind) (op : List UInt8) (a b : Int) : Int × Int :=
  if b = 0 then (0, 1)
  else if op = [37] ∧ b = -1 then (0, 0)
  else if op = [37] then (a.tmod b, 0)
  else if b = -1 ∧ a ≠ 0 ∧ k.wrap (-a) = a then (0, 2)
  else (k.wrap (a.tdiv b), 0)
def oneB (b : Bool) : Int := if b then 1 else 0
def doesW (k : IntKind) (op : List UInt8) (a b : Int) (width : Int) : Int :=
  let n := bits2 .u64 (· &&& ·) (IntKind.u64.wrap b) (IntKind.u64.wrap (width - 1))
  if op = [43] then k.wrap (a + b)
  else if op = [45] then k.wrap (a - b)
  else if op = [42] then k.wrap (a * b)
  else if op = [38] then bits2 k (· &&& ·) a b
  else if op = [124] then bits2 k (· ||| ·) a b
  else if op = [94] then bits2 k (· ^^^ ·) a b
  else if op = [60, 60] then k.wrap (a * 2 ^ (min n.toNat k.bits))
  else if op = [62, 62] then a.fdiv (2 ^ (min n.toNat k.bits))
  else if op = [61, 61] then oneB (decide (a = b))
  else if op = [33, 61] then oneB (!decide (a = b))
  else if op = [60] then oneB (decide (a < b))
  else if op = [60, 61] then oneB (decide (a ≤ b))
  else if op = [62] then oneB (decide (b < a))
  else if op = [62, 61] then oneB (decide (b ≤ a))
  else 0
def binK (k : IntKind) (op : List UInt8) (a b : Int) (width : Int) : Int × Int :=
  if op = [47] ∨ op = [37] then divideW k op a b else (doesW k op a b width, 0)
def binW (t : Int) (op : List UInt8) (a b : Int) : Int × Int :=
  if t = 1 then (IntKind.i64.wrap (binK .i32 op (IntKind.i32.wrap a) (IntKind.i32.wrap b) 32).1, (binK .i32 op (IntKind.i32.wrap a) (IntKind.i32.wrap b) 32).2)
  else if t = 2 then binK .i64 op a b 64
  else (0, 0)
/-- a number's bytes, the least first -/
def numOf : List UInt8 → Int
  | [] => 0
  | c :: l => (c.toNat : Int) + 256 * numOf l
def loadW (l : List UInt8) : Int := if numOf l < 2 ^ (8 * l.length - 1) then numOf l else numOf l - 2 ^ (8 * l.length)
def byteW (v : Int) (i : Nat) : UInt8 := UInt8.ofNat (IntKind.u8.wrap (v.fdiv (2 ^ (8 * i)))).toNat
def cellK {α : Type} (x : Mach) (at_ n : Int) (k : List UInt8 → Ev α) : Ev α :=
  if n < 1 ∨ 8 < n then .bad else if at_ < 0 ∨ (x.memory.length : Int) - n < at_ then .over 2 3 x else k ((x.memory.drop at_.toNat).take n.toNat)
def writeW (mem : List UInt8) (at_ : Nat) (v : Int) (n : Nat) : List UInt8 := mem.take at_ ++ (List.range n).map (byteW v) ++ mem.drop (at_ + n)
abbrev RunR := Mach → Fr → Int → Int → Ev Int
/-- a call of a function: its result; the caller's frame stays -/
def callW (rec : RunR) (x : Mach) (g : F) (args : List Int) (r : Fr) : Ev Int :=
  if 32 ≤ x.calls then .over 2 4 x
  else match rec { x with calls := x.calls + 1 } ⟨g, args ++ List.replicate g.locals.length 0, [], 0⟩ ((g.lists.length : Int) - 1) 0 with
    | .bad => .bad
    | .over s c x => .over s c x
    | .ok o x f => if o = -1 ∧ g.type ≠ 0 then popK f fun v f' => .ok v { x with calls := x.calls - 1 } r else .ok f.result { x with calls := x.calls - 1 } r
def callingW (fs : List F) (rec : RunR) (x : Mach) (r : Fr) (n : Int) : Ev Unit :=
  if n = 0 then match x.input with
    | [] => .ok () x (r.push 0)
    | v :: l => .ok () { x with input := l } (r.push v)
  else if n = 1 then popK r fun v r => .ok () { x with out := x.out ++ [v] } r
  else if n = 2 then popK r fun v r => .over 2 v x
  else if n < 3 then .bad
  else match fs[(n - 3).toNat]? with
    | none => .bad
    | some g =>
      if r.stack.length < g.params.length then .bad
      else match callW rec x g (r.stack.drop (r.stack.length - g.params.length)) { r with stack := r.stack.take (r.stack.length - g.params.length) } with
        | .bad => .bad
        | .over s c x => .over s c x
        | .ok v x r => .ok () x (if g.type ≠ 0 then r.push v else r)
def plainW (fs : List F) (rec : RunR) (w : W) (x : Mach) (r : Fr) : Ev Unit :=
  if w.op = 1 then .ok () x (r.push w.n)
  else if w.op = 2 then (if w.n < 0 then .bad else match r.locals[w.n.toNat]? with
    | none => .bad
    | some v => .ok () x (r.push v))
  else if w.op = 3 then (if w.n < 0 ∨ (r.locals.length : Int) ≤ w.n then .bad else popK r fun v r => .ok () x { r with locals := r.locals.set w.n.toNat v })
  else if w.op = 4 then popK r fun b r => popK r fun a r =>
    if (binW w.ty (signOf signs w.name) a b).2 ≠ 0 then .over 2 (binW w.ty (signOf signs w.name) a b).2 x else .ok () x (r.push (binW w.ty (signOf signs w.name) a b).1)
  else if w.op = 5 then popK r fun v r => .ok () x (r.push (if v = 0 then 1 else 0))
  else if w.op = 6 then popK r fun v r => .ok () x (r.push (IntKind.i32.wrap v))
  else if w.op = 8 then popK r fun a r => cellK x a w.n fun l => .ok () x (r.push (loadW l))
  else if w.op = 9 then popK r fun v r => popK r fun a r => cellK x a w.n fun l => .ok () { x with memory := writeW x.memory a.toNat v l.length } r
  else if w.op = 10 then callingW fs rec x r w.n
  else if w.op = 17 then .over 2 5 x
  else if w.op = 18 then popK r fun v r => .ok () x r
  else .ok () x r
def loopA (rec : RunR) (isLoop : Bool) (at_ deep : Int) : Nat → Mach → Fr → Ev Int
  | 0, _, _ => .bad
  | j + 1, x, r => match rec x r at_ deep with
    | .bad => .bad
    | .over s c x => .over s c x
    | .ok o x r => if o = 0 ∧ isLoop = true then loopA rec isLoop at_ deep j x r else .ok (if 0 < o then o - 1 else -1) x r
def aroundW (rec : RunR) (k : Nat) (w : W) (deep : Int) (x : Mach) (r : Fr) : Ev Int :=
  let go (at_ : Int) (r : Fr) := if at_ < 0 then Ev.ok (-1) x r else loopA rec (decide (w.op = 12)) at_ deep k x r
  if w.op = 13 then popK r fun c r => go (if c = 0 then w.other else w.body) r else go w.body r
def outW (w : W) (deep : Int) (x : Mach) (r : Fr) : Ev Int :=
  let go (n : Int) (r : Fr) := if n = deep ∧ r.fn.type ≠ 0 then popK r fun v r => Ev.ok n x { r with result := v } else .ok n x r
  if w.op = 16 then go deep r
  else if w.op = 15 then popK r fun c r => if c = 0 then .ok (-1) x r else go w.n r
  else go w.n r
def execW (fs : List F) (rec : RunR) (k : Nat) (deep : Int) (w : W) (x : Mach) (r : Fr) : Ev Int :=
  if w.op = 11 ∨ w.op = 12 ∨ w.op = 13 then aroundW rec k w (deep + 1) x r
  else if w.op = 14 ∨ w.op = 15 ∨ w.op = 16 then outW w deep x r
  else match plainW fs rec w x r with
    | .bad => .bad
    | .over s c x => .over s c x
    | .ok _ x r => .ok (-1) x r
def instrsW (fs : List F) (rec : RunR) (k : Nat) (deep : Int) (height : Nat) : List W → Mach → Fr → Ev Int
  | [], x, r => .ok (-1) x r
  | w :: ws, x, r => if x.steps < 1 then .over 3 0 x else
    match execW fs rec k deep w { x with steps := x.steps - 1 } r with
    | .bad => .bad
    | .over s c x => .over s c x
    | .ok o x r => if o = -1 then instrsW fs rec k deep height ws x r else if r.stack.length < height then .bad else .ok o x { r with stack := r.stack.take height }
/-- A LIST IS RUN: on (-1), or out of so many lists more. -/
def runL (fs : List F) : Nat → RunR
  | 0, _, _, _, _ => .bad
  | k + 1, x, r, at_, deep => if at_ < 0 then .bad else match r.fn.lists[at_.toNat]? with
    | none => .bad
    | some ws => instrsW fs (runL fs k) k deep r.stack.length ws x r
/-- A RUN: what was told, how it ended, with which number. -/
def runM (m : M) (input : List Int) (steps : Int) (k : Nat) : Option (List Int × Int × Int) :=
  if m.main < 0 then none else match m.funcs[m.main.toNat]? with
  | none => none
  | some g => match callW (runL m.funcs k) ⟨input, steps, List.replicate m.memory.toNat 0, [], 0⟩ g [] ⟨g, [], [], 0⟩ with
    | .bad => none
    | .over s c x => some (x.out, s, c)
    | .ok v x _ => some (x.out, 1, v)
end Go.Proofs.YthifgodgfhbnfaaDoor
set_option linter.unusedSimpArgs false
set_option linter.unusedVariables false
namespace Go.Proofs.YthifgodgfhbnfaaDoor
open Go Go.Abs
theorem takeE_len : ∀ {ts : List Int} {s s' : St}, takeE ts s = .ok s' → s.any = false → s'.any = false ∧ s'.stack.length + ts.length = s.stack.length
  | [], s, s', h, ha => by simp [takeE] at h; subst h; exact ⟨ha, by simp⟩
  | t :: ts, s, s', h, ha => by
    rw [takeE] at h
    split at h
    · cases hd : dropE s with
      | error e => rw [hd] at h; cases h
      | ok s1 =>
        rw [hd] at h
        unfold dropE at hd
        split at hd
        · rw [ha] at hd; cases hd
        · rename_i hne
          cases hd
          obtain ⟨a1, a2⟩ := takeE_len h ha
          simp only [List.length_dropLast] at a2
          exact ⟨a1, by simp only [List.length_cons]; omega⟩
    · cases h
theorem dropE_len {s s' : St} (h : dropE s = .ok s') (ha : s.any = false) : s'.any = false ∧ s'.stack.length + 1 = s.stack.length := by
  unfold dropE at h
  split at h
  · rw [ha] at h; cases h
  · cases h; exact ⟨ha, by simp; omega⟩
theorem giveS_len (s : St) (t : Int) : (giveS s t).any = s.any ∧ (giveS s t).stack.length = s.stack.length + (if t = 0 then 0 else 1) := by
  unfold giveS; split <;> simp
theorem gives_ok {r : Res St} {t : Int} {s' : St} (h : gives r t = .ok s') : ∃ s, r = .ok s ∧ s' = giveS s t := by
  cases r with
  | error e => cases h
  | ok s => exact ⟨s, rfl, by cases h; rfl⟩
theorem returnsE_len {ty : Int} {s s' : St} (h : returnsE ty s = .ok s') (ha : s.any = false) : s'.any = false ∧ s'.stack.length + (if ty = 0 then 0 else 1) = s.stack.length := by
  unfold returnsE at h
  by_cases h0 : ty = 0
  · rw [if_pos h0] at h ⊢; cases h; exact ⟨ha, rfl⟩
  · rw [if_neg h0] at h ⊢; have := takeE_len h ha; simpa using this
theorem popK_ok {α : Type} {r : Fr} {k : Int → Fr → Ev α} (h : 0 < r.stack.length) : ∃ v st, st.length + 1 = r.stack.length ∧ popK r k = k v { r with stack := st } := by
  unfold popK
  have hne : r.stack ≠ [] := List.length_pos_iff.1 h
  rw [List.getLast?_eq_some_getLast hne]
  exact ⟨_, _, by simp; omega, rfl⟩
/-- a frame as the function asks -/
structure FrOk (fs : List F) (r : Fr) : Prop where
  mem : r.fn ∈ fs
  loc : r.locals.length = (r.fn.params ++ r.fn.locals).length
/-- one machine behind another; at most d more were told than steps were taken -/
structure Beh (d : Int) (x x' : Mach) : Prop where
  steps : x'.steps ≤ x.steps
  low : min x.steps 0 ≤ x'.steps
  out : ∃ l, x'.out = x.out ++ l ∧ (l.length : Int) ≤ x.steps - x'.steps + d
theorem Beh.refl (x) : Beh 0 x x := ⟨Int.le_refl _, by omega, [], by simp, by simp⟩
theorem Beh.trans {d e a b c} (h : Beh d a b) (k : Beh e b c) : Beh (d + e) a c := by
  obtain ⟨h1, h4, l, h2, h3⟩ := h
  obtain ⟨k1, k4, m, k2, k3⟩ := k
  exact ⟨by omega, by omega, l ++ m, by rw [k2, h2, List.append_assoc], by simp; omega⟩
theorem Beh.trans0 {d a b c} (h : Beh 0 a b) (k : Beh d b c) : Beh d a c := by have := h.trans k; simpa using this
theorem Beh.weak {d e x x'} (h : Beh d x x') (hd : d ≤ e) : Beh e x x' := ⟨h.steps, h.low, let ⟨l, a, b⟩ := h.out; ⟨l, a, by omega⟩⟩
theorem Beh.step {x x' : Mach} (h : Beh 1 { x with steps := x.steps - 1 } x') (hx : 1 ≤ x.steps) : Beh 0 x x' ∧ x'.steps < x.steps := by
  obtain ⟨h1, h4, l, h2, h3⟩ := h
  simp only at h1 h2 h3 h4
  exact ⟨⟨by omega, by omega, l, h2, by omega⟩, by omega⟩
def OverOk (s c : Int) : Prop := s = 2 ∨ (s = 3 ∧ c = 0)
/-- what a list's run comes to -/
def LRes (x : Mach) (r : Fr) (deep : Int) : Ev Int → Prop
  | .bad => False
  | .over s c x' => Beh 0 x x' ∧ OverOk s c
  | .ok o x' r' => Beh 0 x x' ∧ r'.fn = r.fn ∧ r'.locals.length = r.locals.length ∧ (o = -1 → r'.stack.length = r.stack.length + (if deep = 0 ∧ r.fn.type ≠ 0 then 1 else 0)) ∧
      (o ≠ -1 → 0 ≤ o ∧ o ≤ deep ∧ r'.stack.length = r.stack.length ∧ x'.steps < x.steps ∧ 0 < x.steps)
/-- what a list-runner does, to so many steps -/
def Sound (fs : List F) (rec : RunR) (n : Nat) : Prop := ∀ (x : Mach) (r : Fr) (at_ deep : Int) (K : Nat), FrOk fs r → x.steps.toNat < n → 0 ≤ deep → 0 ≤ at_ → at_ < (r.fn.lists.length : Int) →
  lookE fs (r.fn.params ++ r.fn.locals) r.fn.type r.fn.lists K at_ deep = .ok () → LRes x r deep (rec x r at_ deep)
/-- what an instruction comes to, the list's stack being s before, s' behind it, above h -/
def ERes (d : Int) (x : Mach) (r : Fr) (h : Nat) (s' : St) (deep : Int) : Ev Int → Prop
  | .bad => False
  | .over s c x' => Beh d x x' ∧ OverOk s c
  | .ok o x' r' => Beh d x x' ∧ r'.fn = r.fn ∧ r'.locals.length = r.locals.length ∧ (o = -1 → s'.any = false ∧ r'.stack.length = h + s'.stack.length) ∧ (o ≠ -1 → 0 ≤ o ∧ o ≤ deep ∧ h ≤ r'.stack.length)
/-- what a plain instruction comes to -/
def PRes (x : Mach) (r : Fr) (h : Nat) (s' : St) : Ev Unit → Prop
  | .bad => False
  | .over s c x' => Beh 1 x x' ∧ OverOk s c
  | .ok _ x' r' => Beh 1 x x' ∧ r'.fn = r.fn ∧ r'.locals.length = r.locals.length ∧ s'.any = false ∧ r'.stack.length = h + s'.stack.length
theorem functionE_look {fs : List F} {f : F} (h : functionE fs f = .ok ()) : ∃ K, lookE fs (f.params ++ f.locals) f.type f.lists K ((f.lists.length : Int) - 1) 0 = .ok () := by
  unfold functionE at h
  split at h
  · cases h
  · split at h
    · cases h
    · exact ⟨_, h⟩
section
variable {fs : List F} {rec : RunR} {n : Nat} (hv : ∀ f ∈ fs, functionE fs f = .ok ())
include hv
theorem call_sound (hs : Sound fs rec n) {x : Mach} (hx : x.steps.toNat < n) {g : F} (hg : g ∈ fs) {args : List Int} (ha : args.length = g.params.length) (r : Fr) :
    match callW rec x g args r with
    | .bad => False
    | .over s c x' => Beh 0 x x' ∧ OverOk s c
    | .ok _ x' r' => Beh 0 x x' ∧ r' = r := by
  unfold callW
  by_cases hc : 32 ≤ x.calls
  · rw [if_pos hc]; exact ⟨.refl _, .inl rfl⟩
  · rw [if_neg hc]
    obtain ⟨K, hK⟩ := functionE_look (hv g hg)
    have hl := (listsE_ok (functionE_lists (hv g hg))).1
    have := hs { x with calls := x.calls + 1 } ⟨g, args ++ List.replicate g.locals.length 0, [], 0⟩ ((g.lists.length : Int) - 1) 0 K ⟨hg, by simp [ha]⟩ hx (by omega) (by omega) (by simp only; omega) hK
    revert this
    cases rec { x with calls := x.calls + 1 } ⟨g, args ++ List.replicate g.locals.length 0, [], 0⟩ ((g.lists.length : Int) - 1) 0 with
    | bad => intro h; exact h
    | over s c x' => intro h; exact ⟨⟨h.1.steps, h.1.low, h.1.out⟩, h.2⟩
    | ok o x' f =>
      intro ⟨h1, h2, h3, h4, h5⟩
      simp only at h4 ⊢
      by_cases ho : o = -1 ∧ g.type ≠ 0
      · rw [if_pos ho]
        have := h4 ho.1
        rw [if_pos ⟨trivial, ho.2⟩] at this
        obtain ⟨v, st, _, e⟩ := popK_ok (r := f) (k := fun v f' => Ev.ok v { x' with calls := x'.calls - 1 } r) (by simp at this; omega)
        rw [e]
        exact ⟨⟨h1.steps, h1.low, h1.out⟩, rfl⟩
      · rw [if_neg ho]
        exact ⟨⟨h1.steps, h1.low, h1.out⟩, rfl⟩
theorem plain_sound (hs : Sound fs rec n) {x : Mach} (hx : x.steps.toNat < n) {r : Fr} (hr : FrOk fs r) {w : W} {s s' : St} {h : Nat} (ha : s.any = false) (hst : r.stack.length = h + s.stack.length) {deep : Int}
    (hform : formB w = true) (hrg : rangedB fs (r.fn.params ++ r.fn.locals) deep w = true) (hnum : (r.fn.params ++ r.fn.locals).all numberB = true) (hp : plainE fs (r.fn.params ++ r.fn.locals) w s = .ok s') (hop : w.op ≤ 10 ∨ w.op = 18) : PRes x r h s' (plainW fs rec w x r) := by
  have b0 : Beh 1 x x := (Beh.refl x).weak (by omega)
  have nz : ∀ {t : Int}, numberB t = true → t ≠ 0 := by
    intro t ht q; subst q; simp [numberB] at ht
  have push : ∀ {x' : Mach} {r1 : Fr} {s1 : St} {t v : Int}, Beh 1 x x' → r1.fn = r.fn → r1.locals.length = r.locals.length → s1.any = false → r1.stack.length = h + s1.stack.length → t ≠ 0 → PRes x r h (giveS s1 t) (.ok () x' (r1.push v)) := by
    intro x' r1 s1 t v b e1 e2 a l ht
    have g := giveS_len s1 t
    refine ⟨b, e1, e2, g.1.trans a, ?_⟩
    rw [g.2, if_neg ht]
    simp [Fr.push, l]; omega
  have pop : ∀ {r1 : Fr} {s1 s2 : St} {k : Int → Fr → Ev Unit}, r1.fn = r.fn → r1.locals.length = r.locals.length → r1.stack.length = h + (s1.stack.length + 1) → (∀ v (r2 : Fr), r2.fn = r.fn → r2.locals.length = r.locals.length → r2.stack.length = h + s1.stack.length → PRes x r h s2 (k v r2)) → PRes x r h s2 (popK r1 k) := by
    intro r1 s1 s2 k e1 e2 l hk
    obtain ⟨v, st, hl, e⟩ := popK_ok (r := r1) (k := k) (by omega)
    rw [e]
    exact hk v _ e1 e2 (by simp only; omega)
  unfold plainE at hp
  unfold plainW
  by_cases h1 : w.op = 1
  · rw [if_pos h1] at hp ⊢
    cases hp
    exact push b0 rfl rfl ha hst (nz (by simpa [formB, h1] using hform))
  rw [if_neg h1] at hp ⊢
  by_cases h2 : w.op = 2
  · rw [if_pos h2] at hp ⊢
    cases hp
    have hr2 : 0 ≤ w.n ∧ w.n < (((r.fn.params ++ r.fn.locals).length : Nat) : Int) := by simpa [rangedB, h1, h2] using hrg
    rw [if_neg (by omega)]
    have hlt : w.n.toNat < r.locals.length := by rw [hr.loc]; omega
    rw [List.getElem?_eq_getElem hlt]
    refine push b0 rfl rfl ha hst (nz ?_)
    unfold localAt
    have hlt2 : w.n.toNat < (r.fn.params ++ r.fn.locals).length := by omega
    rw [List.getD_eq_getElem?_getD, List.getElem?_eq_getElem hlt2]
    exact List.all_eq_true.1 hnum _ (List.getElem_mem hlt2)
  rw [if_neg h2] at hp ⊢
  by_cases h3 : w.op = 3
  · rw [if_pos h3] at hp ⊢
    have hr2 : 0 ≤ w.n ∧ w.n < (((r.fn.params ++ r.fn.locals).length : Nat) : Int) := by simpa [rangedB, h1, h2, h3] using hrg
    rw [if_neg (by rw [hr.loc]; omega)]
    obtain ⟨a1, l1⟩ := takeE_len hp ha
    simp only [List.length_cons, List.length_nil] at l1
    exact pop (s1 := s') rfl rfl (by omega) fun v r2 e1 e2 l => ⟨b0, e1, by simpa using e2, a1, l⟩
  rw [if_neg h3] at hp ⊢
  by_cases h4 : w.op = 4
  · rw [if_pos h4] at hp ⊢
    obtain ⟨s1, e1, rfl⟩ := gives_ok hp
    obtain ⟨a1, l1⟩ := takeE_len e1 ha
    simp only [List.length_cons, List.length_nil] at l1
    have hty : w.ty ≠ 0 := nz (by
      simp [formB, h4] at hform
      exact hform.1)
    have hcmp : (if cmpB w.name = true then (1 : Int) else w.ty) ≠ 0 := by split <;> omega
    clear hp
    generalize (if cmpB w.name = true then (1 : Int) else w.ty) = tt at hcmp ⊢
    refine pop (s1 := ⟨0 :: s1.stack, false⟩) rfl rfl (by simp only [List.length_cons]; omega) fun b r2 e2 e3 l2 => ?_
    refine pop (s1 := s1) e2 e3 (by simpa using l2) fun a r3 e4 e5 l3 => ?_
    split
    · exact ⟨b0, .inl rfl⟩
    · exact push b0 e4 e5 a1 l3 hcmp
  rw [if_neg h4] at hp ⊢
  by_cases h5 : w.op = 5
  · rw [if_pos h5] at hp ⊢
    obtain ⟨s1, e1, rfl⟩ := gives_ok hp
    obtain ⟨a1, l1⟩ := takeE_len e1 ha
    simp only [List.length_cons, List.length_nil] at l1
    exact pop (s1 := s1) rfl rfl (by omega) fun v r2 e1 e2 l => push b0 e1 e2 a1 l (by omega)
  rw [if_neg h5] at hp ⊢
  by_cases h6 : w.op = 6
  · rw [if_pos h6] at hp ⊢
    obtain ⟨s1, e1, rfl⟩ := gives_ok hp
    obtain ⟨a1, l1⟩ := takeE_len e1 ha
    simp only [List.length_cons, List.length_nil] at l1
    exact pop (s1 := s1) rfl rfl (by omega) fun v r2 e1 e2 l => push b0 e1 e2 a1 l (by omega)
  rw [if_neg h6] at hp ⊢
  by_cases h7 : w.op = 7
  · rw [if_pos h7] at hp
    obtain ⟨s1, e1, rfl⟩ := gives_ok hp
    obtain ⟨a1, l1⟩ := takeE_len e1 ha
    simp only [List.length_cons, List.length_nil] at l1
    rw [if_neg (by omega), if_neg (by omega), if_neg (by omega), if_neg (by omega), if_neg (by omega)]
    have g := giveS_len s1 2
    exact ⟨b0, rfl, rfl, g.1.trans a1, by rw [g.2, if_neg (by omega)]; omega⟩
  rw [if_neg h7] at hp
  by_cases h8 : w.op = 8
  · rw [if_pos h8] at hp ⊢
    obtain ⟨s1, e1, rfl⟩ := gives_ok hp
    obtain ⟨a1, l1⟩ := takeE_len e1 ha
    simp only [List.length_cons, List.length_nil] at l1
    have hty : w.ty ≠ 0 := by
      intro q
      simp [formB, h1, h4, h5, h8, bytesB, q] at hform
    have hn : ¬ (w.n < 1 ∨ 8 < w.n) := by simp [formB, h1, h4, h5, h8, bytesB] at hform; omega
    refine pop (s1 := s1) rfl rfl (by omega) fun a r2 e1 e2 l => ?_
    unfold cellK
    rw [if_neg hn]
    split
    · exact ⟨b0, .inl rfl⟩
    · exact push b0 e1 e2 a1 l hty
  rw [if_neg h8] at hp ⊢
  by_cases h9 : w.op = 9
  · rw [if_pos h9] at hp ⊢
    obtain ⟨a1, l1⟩ := takeE_len hp ha
    simp only [List.length_cons, List.length_nil] at l1
    refine pop (s1 := ⟨0 :: s'.stack, false⟩) rfl rfl (by simp only [List.length_cons]; omega) fun v r2 e2 e3 l2 => ?_
    have hn : ¬ (w.n < 1 ∨ 8 < w.n) := by simp [formB, h1, h4, h5, h9, bytesB] at hform; omega
    refine pop (s1 := s') e2 e3 (by simpa using l2) fun a r3 e4 e5 l3 => ?_
    unfold cellK
    rw [if_neg hn]
    split
    · exact ⟨b0, .inl rfl⟩
    · exact ⟨⟨b0.steps, b0.low, b0.out⟩, e4, e5, a1, l3⟩
  rw [if_neg h9] at hp ⊢
  by_cases h10 : w.op = 10
  · rw [if_pos h10] at hp ⊢
    have hh : (headOf fs w.n).isSome = true := by simpa [rangedB, h1, h2, h3, h10] using hrg
    unfold callingW
    unfold headOf at hp hh
    by_cases n0 : w.n = 0
    · rw [if_pos n0] at hp ⊢
      simp only [List.reverse_nil] at hp
      obtain ⟨s1, e1, rfl⟩ := gives_ok hp
      cases e1
      cases x.input with
      | nil => exact push b0 rfl rfl ha hst (by omega)
      | cons v l => exact push ⟨b0.steps, b0.low, b0.out⟩ rfl rfl ha hst (by omega)
    rw [if_neg n0] at hp hh ⊢
    by_cases n1 : w.n = 1
    · rw [if_pos n1] at hp ⊢
      simp only [List.reverse_cons, List.reverse_nil, List.nil_append] at hp
      obtain ⟨s1, e1, e9⟩ := gives_ok hp
      have e9 : s' = giveS s1 0 := e9
      obtain ⟨a1, l1⟩ := takeE_len e1 ha
      simp only [List.length_cons, List.length_nil] at l1
      refine pop (s1 := s1) rfl rfl (by omega) fun v r2 e1 e2 l => ?_
      have g := giveS_len s1 0
      exact ⟨⟨Int.le_refl _, by simp only; omega, [v], rfl, by simp⟩, e1, e2, by rw [e9]; exact g.1.trans a1, by rw [e9, g.2, if_pos rfl]; omega⟩
    rw [if_neg n1] at hp hh ⊢
    by_cases n2 : w.n = 2
    · rw [if_pos n2] at hp ⊢
      simp only [List.reverse_cons, List.reverse_nil, List.nil_append] at hp
      obtain ⟨s1, e1, e9⟩ := gives_ok hp
      obtain ⟨a1, l1⟩ := takeE_len e1 ha
      simp only [List.length_cons, List.length_nil] at l1
      exact pop (s1 := s1) rfl rfl (by omega) fun v r2 e1 e2 l => ⟨b0, .inl rfl⟩
    rw [if_neg n2] at hp hh ⊢
    by_cases n3 : w.n < 0
    · rw [if_pos n3] at hh; cases hh
    rw [if_neg n3] at hp hh
    rw [if_neg (by omega)]
    cases hg : fs[(w.n - 3).toNat]? with
    | none => rw [hg] at hh; cases hh
    | some g =>
      rw [hg] at hp
      simp only [Option.map_some] at hp ⊢
      obtain ⟨s1, e1, rfl⟩ := gives_ok hp
      obtain ⟨a1, l1⟩ := takeE_len e1 ha
      rw [List.length_reverse] at l1
      rw [if_neg (by omega)]
      have key := call_sound hv hs hx (List.mem_of_getElem? hg) (args := r.stack.drop (r.stack.length - g.params.length)) (by simp; omega) { r with stack := r.stack.take (r.stack.length - g.params.length) }
      revert key
      cases callW rec x g (r.stack.drop (r.stack.length - g.params.length)) { r with stack := r.stack.take (r.stack.length - g.params.length) } with
      | bad => exact fun h => h
      | over s c x' => exact fun h => ⟨h.1.weak (by omega), h.2⟩
      | ok v x' r' =>
        intro ⟨k1, k2⟩
        subst k2
        simp only
        by_cases hz : g.type = 0
        · rw [if_neg (by simpa using hz)]
          have gl := giveS_len s1 g.type
          exact ⟨k1.weak (by omega), rfl, rfl, gl.1.trans a1, by rw [gl.2, if_pos hz]; simp; omega⟩
        · rw [if_pos hz]
          exact push (k1.weak (by omega)) rfl rfl a1 (by simp; omega) hz
  rw [if_neg h10] at hp ⊢
  have h18 : w.op = 18 := by
    rcases hop with q | q
    · exfalso
      simp [formB, h1, h4, h5, h8, h9] at hform
      omega
    · exact q
  rw [if_pos h18] at hp
  rw [if_neg (by omega), if_pos h18]
  obtain ⟨a1, l1⟩ := dropE_len hp ha
  exact pop (s1 := s') rfl rfl (by omega) fun v r2 e1 e2 l => ⟨b0, e1, e2, a1, l⟩
end
end Go.Proofs.YthifgodgfhbnfaaDoor
set_option linter.unusedSimpArgs false
set_option linter.unusedVariables false
namespace Go.Proofs.YthifgodgfhbnfaaDoor
open Go Go.Abs
section
variable {fs : List F} {rec : RunR} {n : Nat}
theorem loopA_sound (hs : Sound fs rec n) {r0 : Fr} {K : Nat} {at_ deep : Int} (hd : 0 < deep) (h0 : 0 ≤ at_) (h1 : at_ < (r0.fn.lists.length : Int)) (hl : lookE fs (r0.fn.params ++ r0.fn.locals) r0.fn.type r0.fn.lists K at_ deep = .ok ()) (isLoop : Bool) :
    ∀ (j : Nat) (x : Mach) (r : Fr), FrOk fs r → r.fn = r0.fn → x.steps.toNat < n → x.steps.toNat < j →
    match loopA rec isLoop at_ deep j x r with
    | .bad => False
    | .over s c x' => Beh 0 x x' ∧ OverOk s c
    | .ok o x' r' => Beh 0 x x' ∧ r'.fn = r.fn ∧ r'.locals.length = r.locals.length ∧ r'.stack.length = r.stack.length ∧ (o = -1 ∨ (0 ≤ o ∧ o + 1 ≤ deep))
  | 0, x, r, _, _, _, hj => by omega
  | j + 1, x, r, hr, hf, hx, hj => by
    rw [loopA]
    have key := hs x r at_ deep K hr hx (by omega) h0 (by rw [hf]; exact h1) (by rw [hf]; exact hl)
    revert key
    cases rec x r at_ deep with
    | bad => exact fun h => h
    | over s c x' => exact fun h => h
    | ok o x' r' =>
      intro ⟨k1, k2, k3, k4, k5⟩
      simp only
      have hst : r'.stack.length = r.stack.length := by
        by_cases ho : o = -1
        · have := k4 ho; rw [if_neg (by omega)] at this; omega
        · exact (k5 ho).2.2.1
      by_cases hc : o = 0 ∧ isLoop = true
      · rw [if_pos hc]
        have hlt := (k5 (by omega)).2.2.2.1
        have hpos := (k5 (by omega)).2.2.2.2
        have hb := k1.steps
        have key := loopA_sound hs hd h0 h1 hl isLoop j x' r' ⟨by rw [k2]; exact hr.mem, by rw [k3, k2]; exact hr.loc⟩ (k2.trans hf) (by omega) (by omega)
        revert key
        cases loopA rec isLoop at_ deep j x' r' with
        | bad => exact fun h => h
        | over s c x2 => exact fun h => ⟨k1.trans0 h.1, h.2⟩
        | ok o2 x2 r2 => exact fun h => ⟨k1.trans0 h.1, h.2.1.trans k2, h.2.2.1.trans k3, h.2.2.2.1.trans hst, h.2.2.2.2⟩
      · rw [if_neg hc]
        refine ⟨k1, k2, k3, hst, ?_⟩
        by_cases ho : 0 < o
        · rw [if_pos ho]
          have := k5 (by omega)
          exact .inr ⟨by omega, by omega⟩
        · rw [if_neg ho]; exact .inl rfl
theorem around_sound (hs : Sound fs rec n) {k : Nat} {x : Mach} (hx : x.steps.toNat < n) (hxk : x.steps.toNat < k) {r : Fr} (hr : FrOk fs r) {w : W} {h : Nat} {s1 : St} {deep : Int} (hd : 0 ≤ deep) (ha : s1.any = false) (hst : r.stack.length = h + s1.stack.length + (if w.op = 13 then 1 else 0))
    (hb : ∃ K, 0 ≤ w.body ∧ w.body < (r.fn.lists.length : Int) ∧ lookE fs (r.fn.params ++ r.fn.locals) r.fn.type r.fn.lists K w.body (deep + 1) = .ok ())
    (ho : w.op = 13 → 0 ≤ w.other → ∃ K, w.other < (r.fn.lists.length : Int) ∧ lookE fs (r.fn.params ++ r.fn.locals) r.fn.type r.fn.lists K w.other (deep + 1) = .ok ()) :
    ERes 0 x r h s1 deep (aroundW rec k w (deep + 1) x r) := by
  have go : ∀ (at_ : Int) (r1 : Fr), FrOk fs r1 → r1.fn = r.fn → r1.locals.length = r.locals.length → r1.stack.length = h + s1.stack.length → (0 ≤ at_ → ∃ K, at_ < (r.fn.lists.length : Int) ∧ lookE fs (r.fn.params ++ r.fn.locals) r.fn.type r.fn.lists K at_ (deep + 1) = .ok ()) →
      ERes 0 x r h s1 deep (if at_ < 0 then Ev.ok (-1) x r1 else loopA rec (decide (w.op = 12)) at_ (deep + 1) k x r1) := by
    intro at_ r1 hr1 e1 e2 e3 hK
    by_cases h0 : at_ < 0
    · rw [if_pos h0]
      exact ⟨.refl _, e1, e2, fun _ => ⟨ha, e3⟩, fun q => absurd rfl q⟩
    · rw [if_neg h0]
      obtain ⟨K, q1, q2⟩ := hK (by omega)
      have key := loopA_sound hs (r0 := r) (by omega) (by omega) q1 q2 (decide (w.op = 12)) k x r1 hr1 e1 hx hxk
      revert key
      cases loopA rec (decide (w.op = 12)) at_ (deep + 1) k x r1 with
      | bad => exact fun h => h
      | over s c x2 => exact fun h => h
      | ok o x2 r2 =>
        intro ⟨k1, k2, k3, k4, k5⟩
        refine ⟨k1, k2.trans e1, k3.trans e2, fun _ => ⟨ha, by omega⟩, fun q => ?_⟩
        rcases k5 with k5 | k5
        · exact absurd k5 q
        · exact ⟨k5.1, by omega, by omega⟩
  unfold aroundW
  simp only
  obtain ⟨K, b0, b1, b2⟩ := hb
  by_cases h13 : w.op = 13
  · rw [if_pos h13] at hst ⊢
    obtain ⟨v, st, hl, e⟩ := popK_ok (r := r) (k := fun c r => if (if c = 0 then w.other else w.body) < 0 then Ev.ok (-1) x r else loopA rec (decide (w.op = 12)) (if c = 0 then w.other else w.body) (deep + 1) k x r) (by omega)
    rw [e]
    refine go _ _ ⟨hr.mem, hr.loc⟩ rfl rfl (by simp only; omega) fun q => ?_
    by_cases hv0 : v = 0
    · rw [if_pos hv0] at q ⊢; exact ho h13 q
    · rw [if_neg hv0] at q ⊢; exact ⟨K, b1, b2⟩
  · rw [if_neg h13] at hst ⊢
    exact go _ _ hr rfl rfl (by omega) fun _ => ⟨K, b1, b2⟩
end
section
variable {fs : List F} {rec : RunR} {n : Nat} (hv : ∀ f ∈ fs, functionE fs f = .ok ())
include hv
theorem exec_sound (hs : Sound fs rec n) {k : Nat} {x : Mach} (hx : x.steps.toNat < n) (hxk : x.steps.toNat < k) {r : Fr} (hr : FrOk fs r) {w : W} {h : Nat} {s s' : St} {deep : Int} {K : Nat} (hd : 0 ≤ deep) (ha : s.any = false) (hst : r.stack.length = h + s.stack.length)
    (hin : ∀ m ∈ namesL w, 0 ≤ m ∧ m < (r.fn.lists.length : Int))
    (hi : instrE fs (r.fn.params ++ r.fn.locals) r.fn.type deep (lookE fs (r.fn.params ++ r.fn.locals) r.fn.type r.fn.lists K) w s = .ok s') : ERes 1 x r h s' deep (execW fs rec k deep w x r) := by
  have hnum : (r.fn.params ++ r.fn.locals).all numberB = true := by
    have := hv _ hr.mem
    unfold functionE at this
    split at this
    · cases this
    · rename_i q
      simp only [Bool.and_eq_true, Bool.not_eq_false] at q
      exact q.1.1
  have b0 : Beh 1 x x := (Beh.refl x).weak (by omega)
  unfold instrE at hi
  by_cases hf : formB w = false
  · rw [if_pos hf] at hi; cases hi
  rw [if_neg hf] at hi
  by_cases hg : rangedB fs (r.fn.params ++ r.fn.locals) deep w = false
  · rw [if_pos hg] at hi; cases hi
  rw [if_neg hg] at hi
  have up : ∀ {e : Ev Int}, ERes 0 x r h s' deep e → ERes 1 x r h s' deep e := by
    intro e he
    cases e with
    | bad => exact he
    | over s c x' => exact ⟨he.1.weak (by omega), he.2⟩
    | ok o x' r' => exact ⟨he.1.weak (by omega), he.2⟩
  unfold execW
  by_cases h11 : w.op = 11 ∨ w.op = 12
  · rw [if_pos h11] at hi
    rw [if_pos (by omega)]
    have hn : namesL w = [w.body] := by unfold namesL; rw [if_pos (by omega)]
    rw [hn] at hin
    have hb := hin w.body (by simp)
    cases hl : lookE fs (r.fn.params ++ r.fn.locals) r.fn.type r.fn.lists K w.body (deep + 1) with
    | error e => rw [hl] at hi; cases hi
    | ok u =>
      rw [hl] at hi
      cases hi
      exact up (around_sound hs hx hxk hr hd ha (by rw [if_neg (by omega)]; omega) ⟨K, hb.1, hb.2, hl⟩ (fun q => by omega))
  rw [if_neg h11] at hi
  by_cases h13 : w.op = 13
  · rw [if_pos h13] at hi
    rw [if_pos (by omega)]
    cases ht : takeE [1] s with
    | error e => rw [ht] at hi; cases hi
    | ok s1 =>
      rw [ht] at hi
      simp only at hi
      obtain ⟨a1, l1⟩ := takeE_len ht ha
      simp only [List.length_cons, List.length_nil] at l1
      cases hl : lookE fs (r.fn.params ++ r.fn.locals) r.fn.type r.fn.lists K w.body (deep + 1) with
      | error e => rw [hl] at hi; cases hi
      | ok u =>
        rw [hl] at hi
        simp only at hi
        have hb : 0 ≤ w.body ∧ w.body < (r.fn.lists.length : Int) := hin w.body (by
          unfold namesL
          by_cases ho : w.other < 0
          · rw [if_pos (by omega)]; simp
          · rw [if_neg (by omega), if_pos h13]; simp)
        by_cases ho : 0 ≤ w.other
        · rw [if_pos ho] at hi
          cases hl2 : lookE fs (r.fn.params ++ r.fn.locals) r.fn.type r.fn.lists K w.other (deep + 1) with
          | error e => rw [hl2] at hi; cases hi
          | ok u2 =>
            rw [hl2] at hi
            cases hi
            have hb2 := hin w.other (by unfold namesL; rw [if_neg (by omega), if_pos h13]; simp)
            exact up (around_sound hs hx hxk hr hd a1 (by rw [if_pos h13]; omega) ⟨K, hb.1, hb.2, hl⟩ (fun _ _ => ⟨K, hb2.2, hl2⟩))
        · rw [if_neg ho] at hi
          cases hi
          exact up (around_sound hs hx hxk hr hd a1 (by rw [if_pos h13]; omega) ⟨K, hb.1, hb.2, hl⟩ (fun _ q => absurd q ho))
  rw [if_neg h13] at hi
  have ret : ∀ {s2 : St} {r1 : Fr} {q : Int}, returnsE r.fn.type s = .ok s2 ∨ True → True := fun _ => trivial
  by_cases h15 : w.op = 15
  · rw [if_pos h15] at hi
    rw [if_neg (by omega), if_pos (by omega)]
    have hrg : 0 ≤ w.n ∧ w.n ≤ deep := by
      have q : rangedB fs (r.fn.params ++ r.fn.locals) deep w = true := by simpa using hg
      simpa [rangedB, h15] using q
    cases ht : takeE [1] s with
    | error e => rw [ht] at hi; cases hi
    | ok s1 =>
      rw [ht] at hi
      simp only at hi
      obtain ⟨a1, l1⟩ := takeE_len ht ha
      simp only [List.length_cons, List.length_nil] at l1
      unfold outW
      simp only
      rw [if_neg (by omega), if_pos h15]
      obtain ⟨v, st, hl, e⟩ := popK_ok (r := r) (k := fun c r => if c = 0 then Ev.ok (-1) x r else if w.n = deep ∧ r.fn.type ≠ 0 then popK r fun v r => Ev.ok w.n x { r with result := v } else .ok w.n x r) (by omega)
      rw [e]
      have hs' : s'.any = false ∧ s'.stack.length = s1.stack.length ∧ (w.n = deep → r.fn.type ≠ 0 → 0 < s1.stack.length) := by
        by_cases hq : w.n = deep
        · rw [if_pos hq] at hi
          obtain ⟨s2, e2, rfl⟩ := gives_ok hi
          obtain ⟨a2, l2⟩ := returnsE_len e2 a1
          have g := giveS_len s2 r.fn.type
          refine ⟨g.1.trans a2, by rw [g.2]; omega, fun _ hz => by rw [if_neg hz] at l2; omega⟩
        · rw [if_neg hq] at hi
          cases hi
          exact ⟨a1, rfl, fun q => absurd q hq⟩
      by_cases hv0 : v = 0
      · rw [if_pos hv0]
        exact ⟨b0, rfl, rfl, fun _ => ⟨hs'.1, by simp only; omega⟩, fun q => absurd rfl q⟩
      · rw [if_neg hv0]
        by_cases hq : w.n = deep ∧ r.fn.type ≠ 0
        · rw [if_pos hq]
          have := hs'.2.2 hq.1 hq.2
          obtain ⟨v2, st2, hl2, e2⟩ := popK_ok (r := { r with stack := st }) (k := fun v r => Ev.ok w.n x { r with result := v }) (by simp only; omega)
          simp only at e2 hl2
          rw [e2]
          exact ⟨b0, rfl, rfl, fun q => by omega, fun _ => ⟨hrg.1, hrg.2, by simp only; omega⟩⟩
        · rw [if_neg hq]
          exact ⟨b0, rfl, rfl, fun q => by omega, fun _ => ⟨hrg.1, hrg.2, by simp only; omega⟩⟩
  rw [if_neg h15] at hi
  by_cases h14 : w.op = 14
  · rw [if_pos h14] at hi
    rw [if_neg (by omega), if_pos (by omega)]
    have hrg : 0 ≤ w.n ∧ w.n ≤ deep := by
      have q : rangedB fs (r.fn.params ++ r.fn.locals) deep w = true := by simpa using hg
      simpa [rangedB, h14] using q
    unfold outW
    simp only
    rw [if_neg (by omega), if_neg h15]
    by_cases hq : w.n = deep ∧ r.fn.type ≠ 0
    · rw [if_pos hq]
      rw [if_pos hq.1] at hi
      cases ht : returnsE r.fn.type s with
      | error e => rw [ht] at hi; cases hi
      | ok s2 =>
        obtain ⟨a2, l2⟩ := returnsE_len ht ha
        rw [if_neg hq.2] at l2
        obtain ⟨v2, st2, hl2, e2⟩ := popK_ok (r := r) (k := fun v r => Ev.ok w.n x { r with result := v }) (by omega)
        rw [e2]
        exact ⟨b0, rfl, rfl, fun q => by omega, fun _ => ⟨hrg.1, hrg.2, by simp only; omega⟩⟩
    · rw [if_neg hq]
      exact ⟨b0, rfl, rfl, fun q => by omega, fun _ => ⟨hrg.1, hrg.2, by omega⟩⟩
  rw [if_neg h14] at hi
  by_cases h16 : w.op = 16
  · rw [if_pos h16] at hi
    rw [if_neg (by omega), if_pos (by omega)]
    unfold outW
    simp only
    rw [if_pos h16]
    cases ht : returnsE r.fn.type s with
    | error e => rw [ht] at hi; cases hi
    | ok s2 =>
      obtain ⟨a2, l2⟩ := returnsE_len ht ha
      by_cases hq : r.fn.type ≠ 0
      · rw [if_pos ⟨trivial, hq⟩]
        rw [if_neg hq] at l2
        obtain ⟨v2, st2, hl2, e2⟩ := popK_ok (r := r) (k := fun v r => Ev.ok deep x { r with result := v }) (by omega)
        rw [e2]
        exact ⟨b0, rfl, rfl, fun q => by omega, fun _ => ⟨hd, Int.le_refl _, by simp only; omega⟩⟩
      · rw [if_neg (fun q => hq q.2)]
        exact ⟨b0, rfl, rfl, fun q => by omega, fun _ => ⟨hd, Int.le_refl _, by omega⟩⟩
  rw [if_neg h16] at hi
  rw [if_neg (by omega), if_neg (by omega)]
  by_cases h17 : w.op = 17
  · have e : plainW fs rec w x r = .over 2 5 x := by
      unfold plainW
      simp [h17]
    rw [e]
    exact ⟨b0, .inl rfl⟩
  rw [if_neg h17] at hi
  have hf' : formB w = true := by simpa using hf
  have hop : w.op ≤ 10 ∨ w.op = 18 := by
    by_cases q : w.op ≤ 10
    · exact .inl q
    · right
      have : 1 ≤ w.op ∧ w.op ≤ 18 := by
        unfold formB at hf'
        rw [if_neg (by omega), if_neg (by omega), if_neg (by omega)] at hf'
        simpa using hf'
      omega
  have key := plain_sound hv hs hx hr ha hst hf' (by simpa using hg) hnum hi hop
  revert key
  cases plainW fs rec w x r with
  | bad => exact fun h => h
  | over s c x' => exact fun h => h
  | ok u x' r' => exact fun h => ⟨h.1, h.2.1, h.2.2.1, fun _ => ⟨h.2.2.2.1, h.2.2.2.2⟩, fun q => absurd rfl q⟩
theorem instrs_sound (hs : Sound fs rec n) {k : Nat} {h : Nat} {deep : Int} {K : Nat} (hd : 0 ≤ deep) {f : F} : ∀ (ws : List W), (∀ w ∈ ws, ∀ m ∈ namesL w, 0 ≤ m ∧ m < (f.lists.length : Int)) → ∀ (x : Mach) (r : Fr) (s s' : St), FrOk fs r → r.fn = f → x.steps.toNat < n + 1 → x.steps.toNat < k + 1 → s.any = false → r.stack.length = h + s.stack.length →
    instrsE fs (f.params ++ f.locals) f.type deep (lookE fs (f.params ++ f.locals) f.type f.lists K) ws s = .ok s' →
    match instrsW fs rec k deep h ws x r with
    | .bad => False
    | .over st c x' => Beh 0 x x' ∧ OverOk st c
    | .ok o x' r' => Beh 0 x x' ∧ r'.fn = r.fn ∧ r'.locals.length = r.locals.length ∧ (o = -1 → s'.any = false ∧ r'.stack.length = h + s'.stack.length) ∧ (o ≠ -1 → 0 ≤ o ∧ o ≤ deep ∧ r'.stack.length = h ∧ x'.steps < x.steps ∧ 0 < x.steps)
  | [], _, x, r, s, s', hr, hf, _, _, ha, hst, hi => by
    simp only [instrsE] at hi
    cases hi
    exact ⟨.refl _, rfl, rfl, fun _ => ⟨ha, hst⟩, fun q => absurd rfl q⟩
  | w :: ws, hin, x, r, s, s', hr, hf, hx, hxk, ha, hst, hi => by
    rw [instrsE] at hi
    cases he : instrE fs (f.params ++ f.locals) f.type deep (lookE fs (f.params ++ f.locals) f.type f.lists K) w s with
    | error e => rw [he] at hi; cases hi
    | ok s1 =>
      rw [he] at hi
      simp only at hi
      rw [instrsW]
      by_cases hs1 : x.steps < 1
      · rw [if_pos hs1]
        exact ⟨.refl _, .inr ⟨rfl, rfl⟩⟩
      · rw [if_neg hs1]
        subst hf
        have key := exec_sound hv hs (k := k) (x := { x with steps := x.steps - 1 }) (by simp only; omega) (by simp only; omega) hr hd ha hst (hin w (by simp)) he
        revert key
        cases execW fs rec k deep w { x with steps := x.steps - 1 } r with
        | bad => exact fun h => h
        | over st c x' => exact fun h => ⟨(h.1.step (by omega)).1, h.2⟩
        | ok o x' r' =>
          intro ⟨k1, k2, k3, k4, k5⟩
          obtain ⟨b, lt⟩ := k1.step (by omega)
          simp only
          by_cases ho : o = -1
          · rw [if_pos ho]
            obtain ⟨a1, l1⟩ := k4 ho
            have key := instrs_sound hs (k := k) (h := h) hd (f := r.fn) ws (fun w hw => hin w (by simp [hw])) x' r' s1 s' ⟨by rw [k2]; exact hr.mem, by rw [k3, k2]; exact hr.loc⟩ k2 (by omega) (by omega) a1 l1 hi
            revert key
            cases instrsW fs rec k deep h ws x' r' with
            | bad => exact fun h => h
            | over st c x2 => exact fun h => ⟨b.trans0 h.1, h.2⟩
            | ok o2 x2 r2 =>
              intro ⟨j1, j2, j3, j4, j5⟩
              exact ⟨b.trans0 j1, j2.trans k2, j3.trans k3, j4, fun q => by
                have := j5 q
                have h4 := this.2.2.2.1
                exact ⟨this.1, this.2.1, this.2.2.1, by omega, by omega⟩⟩
          · rw [if_neg ho]
            obtain ⟨q1, q2, q3⟩ := k5 ho
            rw [if_neg (by omega)]
            exact ⟨b, k2, k3, fun q => absurd q ho, fun _ => ⟨q1, q2, by simp only [List.length_take]; omega, lt, by omega⟩⟩
theorem runL_sound : ∀ k, Sound fs (runL fs k) k
  | 0 => fun x r at_ deep K _ hx => by omega
  | k + 1 => by
    intro x r at_ deep K hr hx hd h0 h1 hl
    have ih := runL_sound k
    rw [runL, if_neg (by omega)]
    have hlt : at_.toNat < r.fn.lists.length := by omega
    rw [List.getElem?_eq_getElem hlt]
    simp only
    cases K with
    | zero => simp [lookE] at hl
    | succ K =>
      rw [lookE] at hl
      have hrow : r.fn.lists.getD at_.toNat [] = r.fn.lists[at_.toNat] := by rw [List.getD_eq_getElem?_getD, List.getElem?_eq_getElem hlt]; rfl
      rw [hrow] at hl
      cases hi : instrsE fs (r.fn.params ++ r.fn.locals) r.fn.type deep (lookE fs (r.fn.params ++ r.fn.locals) r.fn.type r.fn.lists K) r.fn.lists[at_.toNat] ⟨[], false⟩ with
      | error e => rw [hi] at hl; cases hl
      | ok s' =>
        rw [hi] at hl
        simp only at hl
        have hah := (listsE_ok (functionE_lists (hv _ hr.mem))).2.1
        have key := instrs_sound hv ih (k := k) (h := r.stack.length) hd (f := r.fn) r.fn.lists[at_.toNat] (fun w hw m hm => by
          have := hah at_.toNat _ (List.getElem?_eq_getElem hlt) m (List.mem_flatMap.2 ⟨w, hw, hm⟩)
          omega) x r ⟨[], false⟩ s' hr rfl (by omega) (by omega) rfl (by simp) hi
        revert key
        cases instrsW fs (runL fs k) k deep r.stack.length r.fn.lists[at_.toNat] x r with
        | bad => exact fun h => h
        | over st c x' => exact fun h => h
        | ok o x' r' =>
          intro ⟨j1, j2, j3, j4, j5⟩
          refine ⟨j1, j2, j3, fun ho => ?_, j5⟩
          obtain ⟨a1, l1⟩ := j4 ho
          rw [l1]
          unfold endE at hl
          by_cases hz : deep = 0
          · rw [if_pos hz] at hl
            cases hq : returnsE r.fn.type s' with
            | error e => rw [hq] at hl; cases hl
            | ok s2 =>
              rw [hq] at hl
              simp only at hl
              obtain ⟨_, l2⟩ := returnsE_len hq a1
              by_cases he : s2.stack.length = 0
              · by_cases ht : r.fn.type = 0
                · rw [if_pos ht] at l2
                  rw [if_neg (fun q => q.2 ht)]; omega
                · rw [if_neg ht] at l2
                  rw [if_pos ⟨hz, ht⟩]; omega
              · rw [if_neg he] at hl; cases hl
          · rw [if_neg hz] at hl
            simp only at hl
            rw [if_neg (fun q => hz q.1)]
            by_cases he : s'.stack.length = 0
            · omega
            · rw [if_neg he] at hl; cases hl
end
/-- A VALID MODULE DOES SOMETHING. -/
theorem runM_sound {m : M} (hc : checkE m = .ok ()) (input : List Int) (steps : Int) (k : Nat) (hk : steps.toNat < k) : ∃ (out : List Int) (st code : Int), runM m input steps k = some (out, st, code) ∧ (st = 1 ∨ OverOk st code) ∧ (out.length : Int) ≤ max steps 0 := by
  have hv := checkE_functions hc
  have hm : mainB m = true := by
    unfold checkE at hc
    split at hc
    · cases hc
    · split at hc
      · cases hc
      · split at hc
        · assumption
        · cases hc
  unfold mainB at hm
  simp only [Bool.and_eq_true, decide_eq_true_eq] at hm
  obtain ⟨h0, h1⟩ := hm
  unfold runM
  rw [if_neg (by omega)]
  cases hg : m.funcs[m.main.toNat]? with
  | none => rw [hg] at h1; cases h1
  | some g =>
    rw [hg] at h1
    simp only [Bool.and_eq_true, decide_eq_true_eq] at h1 ⊢
    have key := call_sound hv (runL_sound hv k) (x := ⟨input, steps, List.replicate m.memory.toNat 0, [], 0⟩) hk (List.mem_of_getElem? hg) (args := []) (by simp [h1.2]) ⟨g, [], [], 0⟩
    revert key
    cases callW (runL m.funcs k) ⟨input, steps, List.replicate m.memory.toNat 0, [], 0⟩ g [] ⟨g, [], [], 0⟩ with
    | bad => exact fun h => h.elim
    | over s c x =>
      intro ⟨⟨q1, q4, l, q2, q3⟩, ho⟩
      refine ⟨_, _, _, rfl, .inr ho, ?_⟩
      simp only [List.nil_append] at q2 q1 q3 q4
      rw [q2]
      omega
    | ok v x r =>
      intro ⟨⟨q1, q4, l, q2, q3⟩, _⟩
      refine ⟨_, _, _, rfl, .inl rfl, ?_⟩
      simp only [List.nil_append] at q2 q1 q3 q4
      rw [q2]
      omega
end Go.Proofs.YthifgodgfhbnfaaDoor
set_option linter.unusedSimpArgs false
set_option linter.unusedVariables false
namespace Go.Proofs.YthifgodgfhbnfaaDoor
open Go Go.Abs
def Mach.plus (x : Mach) (d : Int) : Mach := { x with steps := x.steps + d }
/-- what was told stays, first -/
def Gr {α : Type} (l : List Int) : Ev α → Prop
  | .bad => True
  | .over _ _ x' | .ok _ x' _ => l <+: x'.out
def More {α : Type} (d : Int) (e e' : Ev α) : Prop := match e with
  | .bad => True
  | .over s c x1 => if s = 3 then Gr x1.out e' ∧ c = 0 else e' = .over s c (x1.plus d)
  | .ok o x1 r1 => e' = .ok o (x1.plus d) r1
def bindE {α β : Type} (e : Ev α) (f : α → Mach → Fr → Ev β) : Ev β := match e with
  | .bad => .bad
  | .over s c x => .over s c x
  | .ok a x r => f a x r
theorem Gr.bind {α β : Type} {l : List Int} {e : Ev α} {f : α → Mach → Fr → Ev β} (h : Gr l e) (hf : ∀ a x r, Gr x.out (f a x r)) : Gr l (bindE e f) := by
  cases e with
  | bad => exact trivial
  | over s c x => exact h
  | ok a x r =>
    have := hf a x r
    simp only [bindE]
    revert this
    cases f a x r with
    | bad => exact fun _ => trivial
    | over s c x' => exact fun k => List.IsPrefix.trans h k
    | ok b x' r' => exact fun k => List.IsPrefix.trans h k
theorem More.bind {α β : Type} {d : Int} {e e' : Ev α} {f f' : α → Mach → Fr → Ev β} (h : More d e e') (hf : ∀ a x r, More d (f a x r) (f' a (x.plus d) r)) (hg : ∀ a x r, Gr x.out (f' a x r)) : More d (bindE e f) (bindE e' f') := by
  cases e with
  | bad => exact trivial
  | over s c x =>
    simp only [More, bindE] at h ⊢
    by_cases hs : s = 3
    · rw [if_pos hs] at h ⊢
      exact ⟨h.1.bind hg, h.2⟩
    · rw [if_neg hs] at h ⊢
      rw [h]
  | ok a x r =>
    simp only [More] at h
    rw [h]
    exact hf a x r
theorem Gr.pop {α : Type} {l : List Int} {r : Fr} {k : Int → Fr → Ev α} (h : ∀ v r, Gr l (k v r)) : Gr l (popK r k) := by
  unfold popK
  split
  · exact trivial
  · exact h _ _
theorem More.pop {α : Type} {d : Int} {r : Fr} {k k' : Int → Fr → Ev α} (h : ∀ v r, More d (k v r) (k' v r)) : More d (popK r k) (popK r k') := by
  unfold popK
  cases r.stack.getLast? with
  | none => exact trivial
  | some v => exact h _ _
def RecMore (d : Int) (rec rec' : RunR) : Prop := ∀ x r at_ deep, More d (rec x r at_ deep) (rec' (x.plus d) r at_ deep)
def RecGr (rec : RunR) : Prop := ∀ x r at_ deep, Gr x.out (rec x r at_ deep)
section
variable {fs : List F} {rec rec' : RunR} {d : Int}
theorem call_eq (rec : RunR) (x : Mach) (g : F) (args : List Int) (r : Fr) : callW rec x g args r = if 32 ≤ x.calls then .over 2 4 x else
    bindE (rec { x with calls := x.calls + 1 } ⟨g, args ++ List.replicate g.locals.length 0, [], 0⟩ ((g.lists.length : Int) - 1) 0) fun o x f => if o = -1 ∧ g.type ≠ 0 then popK f fun v f' => .ok v { x with calls := x.calls - 1 } r else .ok f.result { x with calls := x.calls - 1 } r := by
  unfold callW
  cases rec { x with calls := x.calls + 1 } ⟨g, args ++ List.replicate g.locals.length 0, [], 0⟩ ((g.lists.length : Int) - 1) 0 <;> rfl
theorem call_gr (hg : RecGr rec) (x : Mach) (g : F) (args : List Int) (r : Fr) : Gr x.out (callW rec x g args r) := by
  rw [call_eq]
  split
  · exact List.prefix_refl _
  · refine Gr.bind (hg { x with calls := x.calls + 1 } _ _ _) fun o x f => ?_
    split
    · exact Gr.pop fun v r => List.prefix_refl _
    · exact List.prefix_refl _
theorem call_more (h : RecMore d rec rec') (hg : RecGr rec') (x : Mach) (g : F) (args : List Int) (r : Fr) : More d (callW rec x g args r) (callW rec' (x.plus d) g args r) := by
  rw [call_eq, call_eq]
  rw [show (x.plus d).calls = x.calls from rfl]
  by_cases hc : 32 ≤ x.calls
  · rw [if_pos hc, if_pos hc]
    simp [More]
  · rw [if_neg hc, if_neg hc]
    refine More.bind (h { x with calls := x.calls + 1 } _ _ _) (fun o x f => ?_) (fun o x f => ?_)
    · split
      · exact More.pop fun v r => rfl
      · exact rfl
    · split
      · exact Gr.pop fun v r => List.prefix_refl _
      · exact List.prefix_refl _
theorem calling_gr (hg : RecGr rec) (x : Mach) (r : Fr) (n : Int) : Gr x.out (callingW fs rec x r n) := by
  unfold callingW
  split
  · split <;> exact List.prefix_refl _
  split
  · exact Gr.pop fun v r => List.prefix_append _ _
  split
  · exact Gr.pop fun v r => List.prefix_refl _
  split
  · exact trivial
  split
  · exact trivial
  rename_i g _
  split
  · exact trivial
  · have := call_gr hg x g (r.stack.drop (r.stack.length - g.params.length)) { r with stack := r.stack.take (r.stack.length - g.params.length) }
    revert this
    cases callW rec x g (r.stack.drop (r.stack.length - g.params.length)) { r with stack := r.stack.take (r.stack.length - g.params.length) } <;> exact fun h => h
theorem calling_more (h : RecMore d rec rec') (hg : RecGr rec') (x : Mach) (r : Fr) (n : Int) : More d (callingW fs rec x r n) (callingW fs rec' (x.plus d) r n) := by
  unfold callingW
  by_cases h0 : n = 0
  · simp only [if_pos h0]
    rw [show (x.plus d).input = x.input from rfl]
    cases x.input <;> exact rfl
  simp only [if_neg h0]
  by_cases h1 : n = 1
  · simp only [if_pos h1]
    exact More.pop fun v r => rfl
  simp only [if_neg h1]
  by_cases h2 : n = 2
  · simp only [if_pos h2]
    exact More.pop fun v r => by simp [More]
  simp only [if_neg h2]
  by_cases h3 : n < 3
  · simp only [if_pos h3]
    exact trivial
  simp only [if_neg h3]
  cases fs[(n - 3).toNat]? with
  | none => exact trivial
  | some g =>
    simp only
    by_cases hl : r.stack.length < g.params.length
    · simp only [if_pos hl]; exact trivial
    · simp only [if_neg hl]
      have := call_more h hg x g (r.stack.drop (r.stack.length - g.params.length)) { r with stack := r.stack.take (r.stack.length - g.params.length) }
      revert this
      cases callW rec x g (r.stack.drop (r.stack.length - g.params.length)) { r with stack := r.stack.take (r.stack.length - g.params.length) } with
      | bad => exact fun _ => trivial
      | over s c x1 =>
        intro h
        simp only [More] at h ⊢
        by_cases hs : s = 3
        · rw [if_pos hs] at h ⊢
          refine ⟨?_, h.2⟩
          have h1 := h.1
          revert h1
          cases callW rec' (x.plus d) g (r.stack.drop (r.stack.length - g.params.length)) { r with stack := r.stack.take (r.stack.length - g.params.length) } <;> exact fun h => h
        · rw [if_neg hs] at h ⊢
          rw [h]
      | ok v x1 r1 =>
        intro h
        simp only [More] at h ⊢
        rw [h]
theorem cell_gr {α : Type} {l : List Int} {x : Mach} (hl : l <+: x.out) {a n : Int} {k : List UInt8 → Ev α} (h : ∀ m, Gr l (k m)) : Gr l (cellK x a n k) := by
  unfold cellK
  split
  · exact trivial
  split
  · exact hl
  · exact h _
theorem cell_more {α : Type} {x : Mach} {a n : Int} {k k' : List UInt8 → Ev α} (h : ∀ m, More d (k m) (k' m)) : More d (cellK x a n k) (cellK (x.plus d) a n k') := by
  unfold cellK
  rw [show (x.plus d).memory = x.memory from rfl]
  by_cases h1 : n < 1 ∨ 8 < n
  · rw [if_pos h1]; exact trivial
  rw [if_neg h1, if_neg h1]
  by_cases h2 : a < 0 ∨ (x.memory.length : Int) - n < a
  · rw [if_pos h2, if_pos h2]; simp [More]
  · rw [if_neg h2, if_neg h2]; exact h _
theorem plain_gr (hg : RecGr rec) (w : W) (x : Mach) (r : Fr) : Gr x.out (plainW fs rec w x r) := by
  have p : x.out <+: x.out := List.prefix_refl _
  unfold plainW
  split
  · exact p
  split
  · split
    · exact trivial
    · split
      · exact trivial
      · exact p
  split
  · split
    · exact trivial
    · exact Gr.pop fun v r => p
  split
  · refine Gr.pop fun b r => Gr.pop fun a r => ?_
    split <;> exact p
  split
  · exact Gr.pop fun v r => p
  split
  · exact Gr.pop fun v r => p
  split
  · exact Gr.pop fun a r => cell_gr p fun m => p
  split
  · exact Gr.pop fun v r => Gr.pop fun a r => cell_gr p fun m => p
  split
  · exact calling_gr hg _ _ _
  split
  · exact p
  split
  · exact Gr.pop fun v r => p
  · exact p
theorem plain_more (h : RecMore d rec rec') (hg : RecGr rec') (w : W) (x : Mach) (r : Fr) : More d (plainW fs rec w x r) (plainW fs rec' w (x.plus d) r) := by
  unfold plainW
  by_cases h1 : w.op = 1
  · simp only [if_pos h1]; exact rfl
  simp only [if_neg h1]
  by_cases h2 : w.op = 2
  · simp only [if_pos h2]
    by_cases q : w.n < 0
    · simp only [if_pos q]; exact trivial
    · simp only [if_neg q]
      cases r.locals[w.n.toNat]? <;> first | exact trivial | exact rfl
  simp only [if_neg h2]
  by_cases h3 : w.op = 3
  · simp only [if_pos h3]
    by_cases q : w.n < 0 ∨ (r.locals.length : Int) ≤ w.n
    · simp only [if_pos q]; exact trivial
    · simp only [if_neg q]; exact More.pop fun v r => rfl
  simp only [if_neg h3]
  by_cases h4 : w.op = 4
  · simp only [if_pos h4]
    refine More.pop fun b r => More.pop fun a r => ?_
    by_cases q : (binW w.ty (signOf signs w.name) a b).2 ≠ 0
    · rw [if_pos q, if_pos q]; simp [More]
    · rw [if_neg q, if_neg q]; exact rfl
  simp only [if_neg h4]
  by_cases h5 : w.op = 5
  · simp only [if_pos h5]; exact More.pop fun v r => rfl
  simp only [if_neg h5]
  by_cases h6 : w.op = 6
  · simp only [if_pos h6]; exact More.pop fun v r => rfl
  simp only [if_neg h6]
  by_cases h8 : w.op = 8
  · simp only [if_pos h8]; exact More.pop fun v r => cell_more fun m => rfl
  simp only [if_neg h8]
  by_cases h9 : w.op = 9
  · simp only [if_pos h9]; exact More.pop fun v r => More.pop fun a r => cell_more fun m => rfl
  simp only [if_neg h9]
  by_cases h10 : w.op = 10
  · simp only [if_pos h10]; exact calling_more h hg _ _ _
  simp only [if_neg h10]
  by_cases h17 : w.op = 17
  · simp only [if_pos h17]; simp [More]
  simp only [if_neg h17]
  by_cases h18 : w.op = 18
  · simp only [if_pos h18]; exact More.pop fun v r => rfl
  simp only [if_neg h18]
  exact rfl
theorem loop_eq (rec : RunR) (b : Bool) (at_ deep : Int) (j : Nat) (x : Mach) (r : Fr) : loopA rec b at_ deep (j + 1) x r = bindE (rec x r at_ deep) fun o x r => if o = 0 ∧ b = true then loopA rec b at_ deep j x r else .ok (if 0 < o then o - 1 else -1) x r := by
  rw [loopA]
  cases rec x r at_ deep <;> rfl
theorem loop_gr (hg : RecGr rec) (b : Bool) (at_ deep : Int) : ∀ (j : Nat) (x : Mach) (r : Fr), Gr x.out (loopA rec b at_ deep j x r)
  | 0, x, r => trivial
  | j + 1, x, r => by
    rw [loop_eq]
    refine Gr.bind (hg _ _ _ _) fun o x r => ?_
    split
    · exact loop_gr hg b at_ deep j x r
    · exact List.prefix_refl _
theorem loop_more (h : RecMore d rec rec') (hg : RecGr rec') (b : Bool) (at_ deep : Int) : ∀ (j j' : Nat) (x : Mach) (r : Fr), j ≤ j' → More d (loopA rec b at_ deep j x r) (loopA rec' b at_ deep j' (x.plus d) r)
  | 0, _, x, r, _ => trivial
  | j + 1, 0, x, r, hj => by omega
  | j + 1, j' + 1, x, r, hj => by
    rw [loop_eq, loop_eq]
    refine More.bind (h _ _ _ _) (fun o x r => ?_) (fun o x r => ?_)
    · by_cases q : o = 0 ∧ b = true
      · rw [if_pos q, if_pos q]; exact loop_more h hg b at_ deep j j' x r (by omega)
      · rw [if_neg q, if_neg q]; exact rfl
    · split
      · exact loop_gr hg b at_ deep j' x r
      · exact List.prefix_refl _
theorem around_gr (hg : RecGr rec) (k : Nat) (w : W) (deep : Int) (x : Mach) (r : Fr) : Gr x.out (aroundW rec k w deep x r) := by
  unfold aroundW
  simp only
  split
  · refine Gr.pop fun c r => ?_
    split <;> split <;> first | exact List.prefix_refl _ | exact loop_gr hg _ _ _ _ _ _
  · split <;> first | exact List.prefix_refl _ | exact loop_gr hg _ _ _ _ _ _
theorem around_more (h : RecMore d rec rec') (hg : RecGr rec') {k k' : Nat} (hk : k ≤ k') (w : W) (deep : Int) (x : Mach) (r : Fr) : More d (aroundW rec k w deep x r) (aroundW rec' k' w deep (x.plus d) r) := by
  unfold aroundW
  simp only
  have go : ∀ (a : Int) (r : Fr), More d (if a < 0 then Ev.ok (-1) x r else loopA rec (decide (w.op = 12)) a deep k x r) (if a < 0 then Ev.ok (-1) (x.plus d) r else loopA rec' (decide (w.op = 12)) a deep k' (x.plus d) r) := fun a r => by
    by_cases q : a < 0
    · rw [if_pos q, if_pos q]; exact rfl
    · rw [if_neg q, if_neg q]; exact loop_more h hg _ _ _ k k' x r hk
  by_cases h13 : w.op = 13
  · rw [if_pos h13, if_pos h13]
    exact More.pop fun c r => go _ _
  · rw [if_neg h13, if_neg h13]
    exact go _ _
theorem out_gr (w : W) (deep : Int) (x : Mach) (r : Fr) : Gr x.out (outW w deep x r) := by
  have p : x.out <+: x.out := List.prefix_refl _
  have go : ∀ (n : Int) (r : Fr), Gr x.out (if n = deep ∧ r.fn.type ≠ 0 then popK r fun v r => Ev.ok n x { r with result := v } else .ok n x r) := fun n r => by
    split
    · exact Gr.pop fun v r => p
    · exact p
  unfold outW
  simp only
  split
  · have g := go deep r
    simp only [true_and] at g ⊢
    exact g
  split
  · refine Gr.pop fun c r => ?_
    split
    · exact p
    · exact go _ _
  · exact go _ _
theorem out_more (w : W) (deep : Int) (x : Mach) (r : Fr) : More d (outW w deep x r) (outW w deep (x.plus d) r) := by
  have go : ∀ (n : Int) (r : Fr), More d (if n = deep ∧ r.fn.type ≠ 0 then popK r fun v r => Ev.ok n x { r with result := v } else .ok n x r) (if n = deep ∧ r.fn.type ≠ 0 then popK r fun v r => Ev.ok n (x.plus d) { r with result := v } else .ok n (x.plus d) r) := fun n r => by
    by_cases q : n = deep ∧ r.fn.type ≠ 0
    · rw [if_pos q, if_pos q]; exact More.pop fun v r => rfl
    · rw [if_neg q, if_neg q]; exact rfl
  unfold outW
  simp only
  by_cases h16 : w.op = 16
  · rw [if_pos h16, if_pos h16]
    have g := go deep r
    simp only [true_and] at g ⊢
    exact g
  rw [if_neg h16, if_neg h16]
  by_cases h15 : w.op = 15
  · rw [if_pos h15, if_pos h15]
    refine More.pop fun c r => ?_
    by_cases q : c = 0
    · rw [if_pos q, if_pos q]; exact rfl
    · rw [if_neg q, if_neg q]; exact go _ _
  · rw [if_neg h15, if_neg h15]; exact go _ _
theorem exec_eq (fs : List F) (rec : RunR) (k : Nat) (deep : Int) (w : W) (x : Mach) (r : Fr) : execW fs rec k deep w x r = if w.op = 11 ∨ w.op = 12 ∨ w.op = 13 then aroundW rec k w (deep + 1) x r
  else if w.op = 14 ∨ w.op = 15 ∨ w.op = 16 then outW w deep x r
  else bindE (plainW fs rec w x r) fun _ x r => .ok (-1) x r := by
  unfold execW
  cases plainW fs rec w x r <;> rfl
theorem exec_gr (hg : RecGr rec) (k : Nat) (deep : Int) (w : W) (x : Mach) (r : Fr) : Gr x.out (execW fs rec k deep w x r) := by
  rw [exec_eq]
  split
  · exact around_gr hg _ _ _ _ _
  split
  · exact out_gr _ _ _ _
  · exact Gr.bind (plain_gr hg _ _ _) fun _ x r => List.prefix_refl _
theorem exec_more (h : RecMore d rec rec') (hg : RecGr rec') {k k' : Nat} (hk : k ≤ k') (deep : Int) (w : W) (x : Mach) (r : Fr) : More d (execW fs rec k deep w x r) (execW fs rec' k' deep w (x.plus d) r) := by
  rw [exec_eq, exec_eq]
  by_cases h1 : w.op = 11 ∨ w.op = 12 ∨ w.op = 13
  · rw [if_pos h1, if_pos h1]; exact around_more h hg hk _ _ _ _
  rw [if_neg h1, if_neg h1]
  by_cases h2 : w.op = 14 ∨ w.op = 15 ∨ w.op = 16
  · rw [if_pos h2, if_pos h2]; exact out_more _ _ _ _
  rw [if_neg h2, if_neg h2]
  exact More.bind (plain_more h hg _ _ _) (fun _ x r => rfl) fun _ x r => List.prefix_refl _
theorem instrs_eq (fs : List F) (rec : RunR) (k : Nat) (deep : Int) (height : Nat) (w : W) (ws : List W) (x : Mach) (r : Fr) : instrsW fs rec k deep height (w :: ws) x r = if x.steps < 1 then .over 3 0 x else
    bindE (execW fs rec k deep w { x with steps := x.steps - 1 } r) fun o x r => if o = -1 then instrsW fs rec k deep height ws x r else if r.stack.length < height then .bad else .ok o x { r with stack := r.stack.take height } := by
  rw [instrsW]
  cases execW fs rec k deep w { x with steps := x.steps - 1 } r <;> rfl
theorem instrs_gr (hg : RecGr rec) (k : Nat) (deep : Int) (height : Nat) : ∀ (ws : List W) (x : Mach) (r : Fr), Gr x.out (instrsW fs rec k deep height ws x r)
  | [], x, r => List.prefix_refl _
  | w :: ws, x, r => by
    rw [instrs_eq]
    split
    · exact List.prefix_refl _
    · refine Gr.bind (exec_gr hg k deep w { x with steps := x.steps - 1 } r) fun o x r => ?_
      split
      · exact instrs_gr hg k deep height ws x r
      split
      · exact trivial
      · exact List.prefix_refl _
theorem instrs_more (h : RecMore d rec rec') (hg : RecGr rec') (hd : 0 ≤ d) {k k' : Nat} (hk : k ≤ k') (deep : Int) (height : Nat) : ∀ (ws : List W) (x : Mach) (r : Fr), More d (instrsW fs rec k deep height ws x r) (instrsW fs rec' k' deep height ws (x.plus d) r)
  | [], x, r => rfl
  | w :: ws, x, r => by
    rw [instrs_eq]
    by_cases hs : x.steps < 1
    · rw [if_pos hs]
      refine ⟨?_, rfl⟩
      exact instrs_gr hg k' deep height (w :: ws) (x.plus d) r
    · rw [if_neg hs, instrs_eq, if_neg (by show ¬ (x.steps + d < 1); omega)]
      have e : ({ x.plus d with steps := (x.plus d).steps - 1 } : Mach) = ({ x with steps := x.steps - 1 } : Mach).plus d := by
        simp only [Mach.plus, Mach.mk.injEq, true_and, and_true]; omega
      rw [e]
      refine More.bind (exec_more h hg hk deep w _ r) (fun o x r => ?_) (fun o x r => ?_)
      · by_cases q : o = -1
        · rw [if_pos q, if_pos q]; exact instrs_more h hg hd hk deep height ws x r
        rw [if_neg q, if_neg q]
        by_cases q2 : r.stack.length < height
        · rw [if_pos q2]; exact trivial
        · rw [if_neg q2, if_neg q2]; exact rfl
      · split
        · exact instrs_gr hg k' deep height ws x r
        split
        · exact trivial
        · exact List.prefix_refl _
theorem runL_gr : ∀ k, RecGr (runL fs k)
  | 0 => fun x r at_ deep => trivial
  | k + 1 => fun x r at_ deep => by
    rw [runL]
    split
    · exact trivial
    split
    · exact trivial
    · exact instrs_gr (runL_gr k) k deep _ _ x r
theorem runL_more (hd : 0 ≤ d) : ∀ k k', k ≤ k' → RecMore d (runL fs k) (runL fs k')
  | 0, _, _ => fun x r at_ deep => trivial
  | k + 1, 0, h => by omega
  | k + 1, k' + 1, h => fun x r at_ deep => by
    rw [runL, runL]
    by_cases q : at_ < 0
    · rw [if_pos q]; exact trivial
    rw [if_neg q, if_neg q]
    cases r.fn.lists[at_.toNat]? with
    | none => exact trivial
    | some ws => exact instrs_more (runL_more hd k k' (by omega)) (runL_gr k') hd (by omega) deep _ ws x r
end
/-- WITH MORE STEPS: the same, and more. -/
theorem runM_more {m : M} {input : List Int} {steps d : Int} {k k' : Nat} (hd : 0 ≤ d) (hk : k ≤ k') {o o' : List Int} {s s' c c' : Int} (h : runM m input steps k = some (o, s, c)) (h' : runM m input (steps + d) k' = some (o', s', c')) :
    o <+: o' ∧ (s = 3 → c = 0) ∧ (s ≠ 3 → o' = o ∧ s' = s ∧ c' = c) := by
  unfold runM at h h'
  by_cases h0 : m.main < 0
  · rw [if_pos h0] at h; cases h
  rw [if_neg h0] at h h'
  cases hg : m.funcs[m.main.toNat]? with
  | none => rw [hg] at h; cases h
  | some g =>
    rw [hg] at h h'
    simp only at h h'
    have key := call_more (runL_more (fs := m.funcs) hd k k' hk) (runL_gr k') ⟨input, steps, List.replicate m.memory.toNat 0, [], 0⟩ g [] ⟨g, [], [], 0⟩
    simp only [Mach.plus] at key
    revert key h
    cases callW (runL m.funcs k) ⟨input, steps, List.replicate m.memory.toNat 0, [], 0⟩ g [] ⟨g, [], [], 0⟩ with
    | bad => intro h; cases h
    | over st cd x =>
      intro h key
      simp only [Option.some.injEq, Prod.mk.injEq] at h
      obtain ⟨rfl, rfl, rfl⟩ := h
      simp only [More] at key
      by_cases hs : st = 3
      · rw [if_pos hs] at key
        obtain ⟨kg, kc⟩ := key
        refine ⟨?_, fun _ => kc, fun q => absurd hs q⟩
        revert kg h'
        cases callW (runL m.funcs k') ⟨input, steps + d, List.replicate m.memory.toNat 0, [], 0⟩ g [] ⟨g, [], [], 0⟩ with
        | bad => intro h; cases h
        | over s2 c2 x2 => intro h kg; simp only [Option.some.injEq, Prod.mk.injEq] at h; rw [← h.1]; exact kg
        | ok v2 x2 r2 => intro h kg; simp only [Option.some.injEq, Prod.mk.injEq] at h; rw [← h.1]; exact kg
      · rw [if_neg hs] at key
        rw [key] at h'
        simp only [Option.some.injEq, Prod.mk.injEq] at h'
        obtain ⟨rfl, rfl, rfl⟩ := h'
        exact ⟨List.prefix_refl _, fun q => absurd q hs, fun _ => ⟨rfl, rfl, rfl⟩⟩
    | ok v x r =>
      intro h key
      simp only [Option.some.injEq, Prod.mk.injEq] at h
      obtain ⟨rfl, rfl, rfl⟩ := h
      simp only [More] at key
      rw [key] at h'
      simp only [Option.some.injEq, Prod.mk.injEq] at h'
      obtain ⟨rfl, rfl, rfl⟩ := h'
      exact ⟨List.prefix_refl _, fun q => by omega, fun _ => ⟨rfl, rfl, rfl⟩⟩
end Go.Proofs.YthifgodgfhbnfaaDoor
