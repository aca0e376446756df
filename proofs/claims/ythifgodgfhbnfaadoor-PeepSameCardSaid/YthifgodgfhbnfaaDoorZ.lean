/- What is stored is loaded: the module of WasmBytes, looked at and run, in plain words; no condition but those that each theorem names. -/
import Derived.Test.YthifgodgfhbnfaaDoorY
set_option linter.unusedSimpArgs false
set_option linter.unusedVariables false
namespace Go.Proofs.YthifgodgfhbnfaaDoor
open Go Go.Abs
theorem byteW_zero (v : Int) : ((byteW v 0).toNat : Int) = v % 256 := by
  unfold byteW
  simp [IntKind.wrap, IntKind.signed, IntKind.bits]
  omega
theorem byteW_succ (v : Int) (j : Nat) : byteW v (j + 1) = byteW (v / 256) j := by
  unfold byteW
  congr 3
  rw [Int.fdiv_eq_ediv_of_nonneg _ (by exact Int.pow_nonneg (by omega)), Int.fdiv_eq_ediv_of_nonneg _ (by exact Int.pow_nonneg (by omega)), show 8 * (j + 1) = 8 + 8 * j by omega, Int.pow_add, ← Int.ediv_ediv_of_nonneg (by omega)]
  rfl
theorem num_bytes (v : Int) : ∀ n : Nat, numOf ((List.range (n + 1)).map (byteW v)) = v % 256 + 256 * numOf ((List.range n).map (byteW (v / 256))) := fun n => by
  rw [List.range_succ_eq_map, List.map_cons, numOf, byteW_zero, List.map_map]
  congr 2
  congr 1
  exact List.map_congr_left fun j _ => byteW_succ v j
theorem load1 (v : Int) : loadW ((List.range 1).map (byteW v)) = IntKind.i8.wrap v := by
  unfold loadW
  rw [num_bytes]
  simp [numOf, IntKind.wrap, IntKind.signed, IntKind.bits]
  split <;> split <;> omega
theorem num4 (v : Int) : numOf ((List.range 4).map (byteW v)) = v % 2 ^ 32 := by
  rw [num_bytes, num_bytes, num_bytes, num_bytes]
  simp [numOf]
  omega
theorem num8 (v : Int) : numOf ((List.range 8).map (byteW v)) = v % 2 ^ 64 := by
  rw [num_bytes, num_bytes, num_bytes, num_bytes, num4]
  omega
theorem load4 (v : Int) : loadW ((List.range 4).map (byteW v)) = IntKind.i32.wrap v := by
  unfold loadW
  rw [num4]
  simp [IntKind.wrap, IntKind.signed, IntKind.bits]
  split <;> split <;> omega
theorem load8 (v : Int) (h : -(2 ^ 63) ≤ v ∧ v ≤ 2 ^ 63 - 1) : loadW ((List.range 8).map (byteW v)) = v := by
  unfold loadW
  rw [num8]
  simp only [List.length_map, List.length_range]
  split <;> omega
theorem loadByte (v : Int) (j : Nat) : loadW [byteW v j] = IntKind.i8.wrap (v.fdiv (2 ^ (8 * j))) := by
  have h := load1 (v.fdiv (2 ^ (8 * j)))
  have e : byteW (v.fdiv (2 ^ (8 * j))) 0 = byteW v j := by
    unfold byteW
    rw [Nat.mul_zero, Int.pow_zero, Int.fdiv_one]
  have e2 : (List.range 1).map (byteW (v.fdiv (2 ^ (8 * j)))) = [byteW v j] := by rw [← e]; rfl
  rw [e2] at h
  exact h
def ldW (t n : Int) : W := ⟨8, t, n, 0, 0, []⟩
def stW (t n : Int) : W := ⟨9, t, n, 0, 0, []⟩
def extW : W := ⟨7, 0, 0, 0, 0, []⟩
def tellW : W := ⟨10, 0, 1, 0, 0, []⟩
def rowW (i : Nat) : List W := [numW 1 (i : Int), ldW 1 1, extW, tellW]
def headW (t n at_ v : Int) : List W := [numW 1 at_, numW t v, stW t n, numW 1 at_, ldW t n] ++ (if t = 1 then [extW] else []) ++ [tellW]
def rowsW (k : Nat) : List W := (List.range k).flatMap rowW
def bytesL (t n at_ v : Int) : List W := headW t n at_ v ++ rowsW 16 ++ [numW 1 0]
/-! looked at -/
def zeroW (w : W) : W := if w.op = 1 then { w with n := 0 } else w
theorem zeroW_names (w : W) : namesL (zeroW w) = namesL w := by
  unfold zeroW namesL
  split
  · rename_i h; simp [h]
  · rfl
theorem zeroW_instr (fs : List F) (ls : List Int) (ty deep : Int) (lk : Look) (w : W) (s : St) (h : w.op = 1 → wrapT w.ty w.n = w.n) : instrE fs ls ty deep lk (zeroW w) s = instrE fs ls ty deep lk w s := by
  unfold zeroW
  by_cases h1 : w.op = 1
  · rw [if_pos h1]
    have hz : wrapT w.ty 0 = 0 := by
      unfold wrapT
      split
      · rfl
      split
      · rfl
      split <;> rfl
    have e1 : formB { w with n := 0 } = formB w := by simp [formB, h1]
    have e2 : rangedB fs ls deep { w with n := 0 } = rangedB fs ls deep w := by simp [rangedB, h1, h h1, hz]
    unfold instrE
    rw [e1, e2]
    simp [h1, plainE]
  · rw [if_neg h1]
theorem zeroW_instrs (fs : List F) (ls : List Int) (ty deep : Int) (lk : Look) : ∀ (ws : List W) (s : St), (∀ w ∈ ws, w.op = 1 → wrapT w.ty w.n = w.n) → instrsE fs ls ty deep lk (ws.map zeroW) s = instrsE fs ls ty deep lk ws s
  | [], s, _ => rfl
  | w :: ws, s, h => by
    rw [List.map_cons, instrsE, instrsE, zeroW_instr _ _ _ _ _ _ _ (h w (by simp))]
    cases instrE fs ls ty deep lk w s with
    | error e => rfl
    | ok s' => exact zeroW_instrs fs ls ty deep lk ws s' fun w hw => h w (by simp [hw])
theorem zeroW_row (k : Int) : ∀ (ws : List W) (n : List Bool), rowE k (ws.map zeroW) n = rowE k ws n
  | [], _ => rfl
  | w :: ws, n => by
    rw [List.map_cons, rowE, rowE, zeroW_names]
    cases namesE k (namesL w) n with
    | error e => rfl
    | ok n' => exact zeroW_row k ws n'
theorem zeroW_check (l : List W) (h : ∀ w ∈ l, w.op = 1 → wrapT w.ty w.n = w.n) (hz : checkE (M12 [l.map zeroW]) = .ok ()) : checkE (M12 [l]) = .ok () := by
  have hh : ∀ l', headOf [F12 [l']] = headOf [F12 [l]] := fun l' => by
    funext n
    unfold headOf
    by_cases h3 : (n - 3).toNat = 0
    · simp [h3, F12]
    · have : ∀ (g : F), [g][(n - 3).toNat]? = none := fun g => by rw [List.getElem?_eq_none]; simp; omega
      simp [this]
  have key : instrsE [F12 [l]] [1, 1, 2, 2] 1 0 (lookE [F12 [l]] [1, 1, 2, 2] 1 [l] 0) (l.map zeroW) ⟨[], false⟩ = instrsE [F12 [l]] [1, 1, 2, 2] 1 0 (lookE [F12 [l]] [1, 1, 2, 2] 1 [l] 0) l ⟨[], false⟩ := zeroW_instrs _ _ _ _ _ l _ h
  have inst : ∀ (lk lk' : Look), (∀ a d, lk a d = lk' a d) → ∀ (ws : List W) s, instrsE [F12 [l.map zeroW]] [1, 1, 2, 2] 1 0 lk ws s = instrsE [F12 [l]] [1, 1, 2, 2] 1 0 lk' ws s := fun lk lk' hl ws => by
    have e : lk = lk' := by funext a d; exact hl a d
    subst e
    induction ws with
    | nil => intro s; rfl
    | cons w ws ih =>
      intro s
      rw [instrsE, instrsE]
      have e2 : instrE [F12 [l.map zeroW]] [1, 1, 2, 2] 1 0 lk w s = instrE [F12 [l]] [1, 1, 2, 2] 1 0 lk w s := by
        unfold instrE rangedB plainE
        rw [hh]
      rw [e2]
      cases instrE [F12 [l]] [1, 1, 2, 2] 1 0 lk w s with
      | error e => rfl
      | ok s' => exact ih s'
  have look : lookE [F12 [l.map zeroW]] [1, 1, 2, 2] 1 [l.map zeroW] 1 0 0 = lookE [F12 [l]] [1, 1, 2, 2] 1 [l] 1 0 0 := by
    rw [lookE, lookE]
    show (match instrsE [F12 [l.map zeroW]] [1, 1, 2, 2] 1 0 (lookE [F12 [l.map zeroW]] [1, 1, 2, 2] 1 [l.map zeroW] 0) (l.map zeroW) ⟨[], false⟩ with | .error e => Except.error e | .ok s => endE 1 0 s) = (match instrsE [F12 [l]] [1, 1, 2, 2] 1 0 (lookE [F12 [l]] [1, 1, 2, 2] 1 [l] 0) l ⟨[], false⟩ with | .error e => Except.error e | .ok s => endE 1 0 s)
    rw [← key, inst (lookE [F12 [l.map zeroW]] [1, 1, 2, 2] 1 [l.map zeroW] 0) (lookE [F12 [l]] [1, 1, 2, 2] 1 [l] 0) (fun a d => rfl)]
  have lists : listsE [l.map zeroW] = listsE [l] := by
    unfold listsE
    simp only [rowsE, zeroW_row, List.length_cons, List.length_nil]
  have fn : functionE [F12 [l.map zeroW]] (F12 [l.map zeroW]) = functionE [F12 [l]] (F12 [l]) := by
    unfold functionE
    show (if _ then _ else match listsE [l.map zeroW] with | .error e => Except.error e | .ok _ => lookE [F12 [l.map zeroW]] [1, 1, 2, 2] 1 [l.map zeroW] 1 0 0) = (if _ then _ else match listsE [l] with | .error e => Except.error e | .ok _ => lookE [F12 [l]] [1, 1, 2, 2] 1 [l] 1 0 0)
    rw [lists, look]
    rfl
  unfold checkE at hz ⊢
  simp only [M12, functionsE] at hz ⊢
  rw [fn] at hz
  exact hz
theorem bytes_ops (t n at_ v : Int) (ht : t = 1 ∨ t = 2) (hv : wrapT t v = v) (ha : -3 ≤ at_ ∧ at_ ≤ 20) : ∀ w ∈ bytesL t n at_ v, w.op = 1 → wrapT w.ty w.n = w.n := by
  have small : ∀ k : Int, -3 ≤ k → k ≤ 20 → wrapT 1 k = k := fun k h1 h2 => by
    simp [wrapT, IntKind.wrap, IntKind.signed, IntKind.bits]
    split <;> omega
  intro w hw h1
  simp only [bytesL, headW, List.mem_append, List.mem_cons, List.not_mem_nil, or_false] at hw
  rcases hw with ((hw | hw) | hw) | hw
  · rcases hw with (rfl | rfl | rfl | rfl | rfl) | hw
    · exact small _ ha.1 ha.2
    · exact hv
    · simp [stW] at h1
    · exact small _ ha.1 ha.2
    · simp [ldW] at h1
    · split at hw
      · simp at hw; subst hw; simp [extW] at h1
      · simp at hw
  · subst hw; simp [tellW] at h1
  · simp only [rowsW, List.mem_flatMap, List.mem_range, rowW, List.mem_cons, List.not_mem_nil, or_false] at hw
    obtain ⟨i, hi, hw⟩ := hw
    rcases hw with rfl | rfl | rfl | rfl
    · exact small (i : Int) (by omega) (by omega)
    · simp [ldW] at h1
    · simp [extW] at h1
    · simp [tellW] at h1
  · subst hw; rfl
theorem bytes_zero (t n at_ v : Int) : (bytesL t n at_ v).map zeroW = (bytesL t n 0 0).map zeroW := by
  simp [bytesL, headW, zeroW, numW]
theorem bytes_check {t n at_ v : Int} (ht : (t = 1 ∧ n = 1) ∨ (t = 1 ∧ n = 4) ∨ (t = 2 ∧ n = 8)) (hv : wrapT t v = v) (ha : -3 ≤ at_ ∧ at_ ≤ 20) : checkE (M12 [bytesL t n at_ v]) = .ok () := by
  refine zeroW_check _ (bytes_ops t n at_ v (by omega) hv ha) ?_
  rw [bytes_zero]
  rcases ht with ⟨rfl, rfl⟩ | ⟨rfl, rfl⟩ | ⟨rfl, rfl⟩ <;> kernel_rfl
end Go.Proofs.YthifgodgfhbnfaaDoor
set_option linter.unusedSimpArgs false
set_option linter.unusedVariables false
namespace Go.Proofs.YthifgodgfhbnfaaDoor
open Go Go.Abs
/-- a number that is laid, or a local; and what stands behind it: what they become -/
inductive PairP (R : Int → Int → Prop) (p w : W) : List W → Prop
  | drop (h : p.op = 1 ∨ p.op = 2) (h' : w.op = 18) : PairP R p w []
  | eqz (h : p.op = 1) (h' : w.op = 5) (ht : p.ty = w.ty) : PairP R p w [⟨1, 1, if p.n = 0 then 1 else 0, 0, 0, []⟩]
  | stay (h : p.op = 1) (h' : w.op = 15) (ht : p.ty = 1) (hn : p.n = 0) : PairP R p w []
  | go (h : p.op = 1) (h' : w.op = 15) (ht : p.ty = 1) (hn : p.n ≠ 0) : PairP R p w [⟨14, 0, w.n, 0, 0, []⟩]
  | none (h : p.op = 1) (h' : w.op = 13) (ht : p.ty = 1) (hn : (if p.n = 0 then w.other else w.body) < 0) : PairP R p w []
  | block (h : p.op = 1) (h' : w.op = 13) (ht : p.ty = 1) (hn : 0 ≤ (if p.n = 0 then w.other else w.body)) (b : Int) (hb : R (if p.n = 0 then w.other else w.body) b) : PairP R p w [⟨11, 0, 0, b, 0, []⟩]
/-- an instruction with its lists made -/
inductive LaidP (R : Int → Int → Prop) (w : W) : W → Prop
  | both (h : w.op = 13) (ho : 0 ≤ w.other) (b o : Int) (hb : R w.body b) (hr : R w.other o) : LaidP R w { w with body := b, other := o }
  | one (h : w.op = 13) (ho : w.other < 0) (b : Int) (hb : R w.body b) : LaidP R w { w with body := b }
  | body (h : w.op = 11 ∨ w.op = 12) (b : Int) (hb : R w.body b) : LaidP R w { w with body := b }
  | same (h : w.op ≠ 11 ∧ w.op ≠ 12 ∧ w.op ≠ 13) : LaidP R w w
/-- a list, made -/
inductive MkL (R : Int → Int → Prop) : List W → List W → Prop
  | nil : MkL R [] []
  | stop {ws l p w} (h : MkL R ws (l ++ [p])) (hp : leavesW p = true) : MkL R (ws ++ [w]) (l ++ [p])
  | pair {ws l p w two} (h : MkL R ws (l ++ [p])) (hp : leavesW p = false) (ht : PairP R p w two) : MkL R (ws ++ [w]) (l ++ two)
  | add {ws l w w'} (h : MkL R ws l) (hl : ∀ p, l.getLast? = some p → leavesW p = false) (hw : LaidP R w w') : MkL R (ws ++ [w]) (l ++ [w'])
theorem PairP.mono {R S : Int → Int → Prop} (hs : ∀ a b, R a b → S a b) {p w two} (h : PairP R p w two) : PairP S p w two := by
  cases h with
  | drop h h' => exact .drop h h'
  | eqz h h' ht => exact .eqz h h' ht
  | stay h h' ht hn => exact .stay h h' ht hn
  | go h h' ht hn => exact .go h h' ht hn
  | none h h' ht hn => exact .none h h' ht hn
  | block h h' ht hn b hb => exact .block h h' ht hn b (hs _ _ hb)
theorem LaidP.mono {R S : Int → Int → Prop} (hs : ∀ a b, R a b → S a b) {w w'} (h : LaidP R w w') : LaidP S w w' := by
  cases h with
  | both h ho b o hb hr => exact .both h ho b o (hs _ _ hb) (hs _ _ hr)
  | one h ho b hb => exact .one h ho b (hs _ _ hb)
  | body h b hb => exact .body h b (hs _ _ hb)
  | same h => exact .same h
theorem MkL.mono {R S : Int → Int → Prop} (hs : ∀ a b, R a b → S a b) {ws l} (h : MkL R ws l) : MkL S ws l := by
  induction h with
  | nil => exact .nil
  | stop h hp ih => exact .stop ih hp
  | pair h hp ht ih => exact .pair ih hp (ht.mono hs)
  | add h hl hw ih => exact .add ih hl (hw.mono hs)
/-- the list at a was made, and lies at n -/
def MkN (frm fin : To) : Nat → Int → Int → Prop
  | 0, _, _ => False
  | k + 1, a, n => 0 ≤ a ∧ 0 ≤ n ∧ ∃ ws l, frm[a.toNat]? = some ws ∧ fin[n.toNat]? = some l ∧ MkL (MkN frm fin k) ws l
/-- what a list-maker does -/
def MakesR (R : To → Int → Int → Prop) (rec : Rec) : Prop := ∀ a to n to', rec a to = some (n, to') → ∃ new, to' = to ++ new ∧ n = (to ++ new).length - 1 ∧ new ≠ [] ∧ ∀ fin, to' <+: fin → R fin a n
theorem pre_of {α : Type} {a b c : List α} (h : a ++ b <+: c) : a <+: c := List.IsPrefix.trans (List.prefix_append a b) h
theorem plists_laid {R : To → Int → Int → Prop} {rec : Rec} (hr : MakesR R rec) {w w' : W} {to to' : To} (h : plists rec w to = some (w', to')) : ∃ new, to' = to ++ new ∧ ∀ fin, to' <+: fin → LaidP (R fin) w w' := by
  unfold plists at h
  by_cases h13 : w.op = 13
  · rw [if_pos h13] at h
    cases e1 : rec w.body to with
    | none => rw [e1] at h; cases h
    | some q =>
      obtain ⟨b, to1⟩ := q
      rw [e1] at h
      simp only at h
      obtain ⟨n1, rfl, hb, _, r1⟩ := hr _ _ _ _ e1
      by_cases ho : 0 ≤ w.other
      · rw [if_pos ho] at h
        cases e2 : rec w.other (to ++ n1) with
        | none => rw [e2] at h; cases h
        | some q =>
          obtain ⟨o, to2⟩ := q
          rw [e2] at h
          simp only [Option.some.injEq, Prod.mk.injEq] at h
          obtain ⟨rfl, rfl⟩ := h
          obtain ⟨n2, rfl, ho2, _, r2⟩ := hr _ _ _ _ e2
          exact ⟨n1 ++ n2, by simp, fun fin hf => .both h13 ho b o (r1 fin (pre_of hf)) (r2 fin hf)⟩
      · rw [if_neg ho] at h
        simp only [Option.some.injEq, Prod.mk.injEq] at h
        obtain ⟨rfl, rfl⟩ := h
        exact ⟨n1, rfl, fun fin hf => .one h13 (by omega) b (r1 fin hf)⟩
  · rw [if_neg h13] at h
    by_cases h11 : w.op = 11 ∨ w.op = 12
    · rw [if_pos h11] at h
      cases e1 : rec w.body to with
      | none => rw [e1] at h; cases h
      | some q =>
        obtain ⟨b, to1⟩ := q
        rw [e1] at h
        simp only [Option.some.injEq, Prod.mk.injEq] at h
        obtain ⟨rfl, rfl⟩ := h
        obtain ⟨n1, rfl, hb, _, r1⟩ := hr _ _ _ _ e1
        exact ⟨n1, rfl, fun fin hf => .body h11 b (r1 fin hf)⟩
    · rw [if_neg h11] at h
      simp only [Option.some.injEq, Prod.mk.injEq] at h
      obtain ⟨rfl, rfl⟩ := h
      exact ⟨[], by simp, fun fin hf => .same (by omega)⟩
theorem ptogether_pair {R : To → Int → Int → Prop} {rec : Rec} (hr : MakesR R rec) {p w : W} {to to' : To} {two : List W} {is : Bool} (h : ptogether rec p w to = some (two, is, to')) : ∃ new, to' = to ++ new ∧ (is = true → ∀ fin, to' <+: fin → PairP (R fin) p w two) ∧ (is = false → new = []) := by
  unfold ptogether at h
  simp only at h
  by_cases h1 : (p.op = 1 ∨ p.op = 2) ∧ w.op = 18
  · rw [if_pos h1] at h
    simp only [Option.some.injEq, Prod.mk.injEq] at h
    obtain ⟨rfl, rfl, rfl⟩ := h
    exact ⟨[], by simp, fun _ _ _ => .drop h1.1 h1.2, fun _ => rfl⟩
  rw [if_neg h1] at h
  by_cases h2 : p.op = 1 ∧ w.op = 5
  · rw [if_pos h2] at h
    simp only [Option.some.injEq, Prod.mk.injEq] at h
    obtain ⟨rfl, rfl, rfl⟩ := h
    exact ⟨[], by simp, fun hi _ _ => .eqz h2.1 h2.2 (by simpa using hi), fun _ => rfl⟩
  rw [if_neg h2] at h
  by_cases h3 : p.op = 1 ∧ w.op = 15
  · rw [if_pos h3] at h
    by_cases h4 : p.n = 0
    · rw [if_pos h4] at h
      simp only [Option.some.injEq, Prod.mk.injEq] at h
      obtain ⟨rfl, rfl, rfl⟩ := h
      exact ⟨[], by simp, fun hi _ _ => .stay h3.1 h3.2 (by simp at hi; exact hi.2) h4, fun _ => rfl⟩
    · rw [if_neg h4] at h
      simp only [Option.some.injEq, Prod.mk.injEq] at h
      obtain ⟨rfl, rfl, rfl⟩ := h
      exact ⟨[], by simp, fun hi _ _ => .go h3.1 h3.2 (by simp at hi; exact hi.2) h4, fun _ => rfl⟩
  rw [if_neg h3] at h
  by_cases h5 : p.op = 1 ∧ w.op = 13
  · rw [if_pos h5] at h
    by_cases h6 : (decide (p.op = 1) && decide (p.ty = 1)) = true
    · rw [if_pos h6] at h
      have hty : p.ty = 1 := by simp at h6; exact h6.2
      unfold pchosen at h
      simp only at h
      by_cases h7 : (if p.n = 0 then w.other else w.body) < 0
      · rw [if_pos h7] at h
        simp only [Option.some.injEq, Prod.mk.injEq] at h
        obtain ⟨rfl, rfl, rfl⟩ := h
        exact ⟨[], by simp, fun _ _ _ => .none h5.1 h5.2 hty h7, fun _ => rfl⟩
      · rw [if_neg h7] at h
        cases e1 : rec (if p.n = 0 then w.other else w.body) to with
        | none => rw [e1] at h; cases h
        | some q =>
          obtain ⟨b, to1⟩ := q
          rw [e1] at h
          simp only [Option.some.injEq, Prod.mk.injEq] at h
          obtain ⟨rfl, rfl, rfl⟩ := h
          obtain ⟨n1, rfl, hb, _, r1⟩ := hr _ _ _ _ e1
          exact ⟨n1, rfl, fun _ fin hf => .block h5.1 h5.2 hty (by omega) b (r1 fin hf), fun h => by cases h⟩
    · rw [if_neg h6] at h
      simp only [Option.some.injEq, Prod.mk.injEq] at h
      obtain ⟨rfl, rfl, rfl⟩ := h
      exact ⟨[], by simp, fun h => (by cases h), fun _ => rfl⟩
  rw [if_neg h5] at h
  simp only [Option.some.injEq, Prod.mk.injEq] at h
  obtain ⟨rfl, rfl, rfl⟩ := h
  exact ⟨[], by simp, fun h => (by cases h), fun _ => rfl⟩
theorem snoc_of_last {l : List W} {p : W} (h : l.getLast? = some p) : l = l.dropLast ++ [p] := by
  have hne : l ≠ [] := by rintro rfl; simp at h
  rw [List.getLast?_eq_some_getLast hne] at h
  cases h
  exact (List.dropLast_concat_getLast hne).symm
theorem mkl_stop {R : Int → Int → Prop} {l : List W} {p : W} (hp : leavesW p = true) : ∀ (vs ws : List W), MkL R ws (l ++ [p]) → MkL R (ws ++ vs) (l ++ [p])
  | [], ws, h => by simpa using h
  | v :: vs, ws, h => by
    have := mkl_stop hp vs (ws ++ [v]) (.stop h hp)
    simpa using this
theorem ploop_mkl {R : To → Int → Int → Prop} {rec : Rec} (hr : MakesR R rec) : ∀ (vs ws l : List W) (to : To) (l' : List W) (to' : To), ploop rec vs l to = some (l', to') → (∀ fin, to <+: fin → MkL (R fin) ws l) → ∃ new, to' = to ++ new ∧ ∀ fin, to' <+: fin → MkL (R fin) (ws ++ vs) l'
  | [], ws, l, to, l', to', h, hm => by
    simp only [ploop, Option.some.injEq, Prod.mk.injEq] at h
    obtain ⟨rfl, rfl⟩ := h
    exact ⟨[], by simp, fun fin hf => by simpa using hm fin hf⟩
  | v :: vs, ws, l, to, l', to', h, hm => by
    have add : ∀ to1, to <+: to1 → (∀ p, l.getLast? = some p → leavesW p = false) → (match plists rec v to1 with | none => none | some (w', to2) => ploop rec vs (l ++ [w']) to2) = some (l', to') → ∃ new, to' = to1 ++ new ∧ ∀ fin, to' <+: fin → MkL (R fin) (ws ++ (v :: vs)) l' := by
      intro to1 ht hl hh
      cases e1 : plists rec v to1 with
      | none => rw [e1] at hh; cases hh
      | some q =>
        obtain ⟨w', to2⟩ := q
        rw [e1] at hh
        simp only at hh
        obtain ⟨n1, rfl, hw⟩ := plists_laid hr e1
        obtain ⟨n2, rfl, hm2⟩ := ploop_mkl hr vs (ws ++ [v]) (l ++ [w']) (to1 ++ n1) l' to' hh fun fin hf => .add (hm fin (ht.trans (pre_of hf))) hl (hw fin hf)
        exact ⟨n1 ++ n2, by simp, fun fin hf => by simpa using hm2 fin hf⟩
    rw [ploop] at h
    cases hl : l.getLast? with
    | none =>
      rw [hl] at h
      simp only at h
      exact add to (List.prefix_refl _) (by simp [hl]) h
    | some p =>
      rw [hl] at h
      simp only at h
      have hsn := snoc_of_last hl
      by_cases hp : leavesW p = true
      · rw [if_pos hp] at h
        simp only [Option.some.injEq, Prod.mk.injEq] at h
        obtain ⟨rfl, rfl⟩ := h
        refine ⟨[], by simp, fun fin hf => ?_⟩
        have := hm fin (by simpa using hf)
        rw [hsn] at this ⊢
        exact mkl_stop hp (v :: vs) ws this
      · rw [if_neg hp] at h
        have hp' : leavesW p = false := by simpa using hp
        cases e1 : ptogether rec p v to with
        | none => rw [e1] at h; cases h
        | some q =>
          obtain ⟨two, is, to1⟩ := q
          rw [e1] at h
          simp only at h
          obtain ⟨n1, rfl, hpair, hz⟩ := ptogether_pair hr e1
          cases is with
          | true =>
            rw [if_pos rfl] at h
            obtain ⟨n2, rfl, hm2⟩ := ploop_mkl hr vs (ws ++ [v]) (l.dropLast ++ two) (to ++ n1) l' to' h fun fin hf => .pair (by have := hm fin (pre_of hf); rw [hsn] at this; exact this) hp' (hpair rfl fin hf)
            exact ⟨n1 ++ n2, by simp, fun fin hf => by simpa using hm2 fin hf⟩
          | false =>
            rw [if_neg (by simp)] at h
            have := hz rfl
            subst this
            rw [List.append_nil] at h
            exact add to (List.prefix_refl _) (fun q hq => by rw [hl] at hq; cases hq; exact hp') h
theorem plist_mkn (frm : To) : ∀ k, MakesR (fun fin => MkN frm fin k) (plist frm k)
  | 0 => fun a to n to' h => by simp [plist] at h
  | k + 1 => fun a to n to' h => by
    rw [plist] at h
    by_cases ha : a < 0
    · rw [if_pos ha] at h; cases h
    rw [if_neg ha] at h
    cases hw : frm[a.toNat]? with
    | none => rw [hw] at h; cases h
    | some ws =>
      rw [hw] at h
      simp only at h
      cases e : ploop (plist frm k) ws [] to with
      | none => rw [e] at h; cases h
      | some q =>
        obtain ⟨l, to1⟩ := q
        rw [e] at h
        simp only [Option.some.injEq, Prod.mk.injEq] at h
        obtain ⟨rfl, rfl⟩ := h
        obtain ⟨new, rfl, hm⟩ := ploop_mkl (plist_mkn frm k) ws [] [] to l to1 e fun fin hf => .nil
        refine ⟨new ++ [l], by simp, by simp; omega, by simp, fun fin hf => ?_⟩
        refine ⟨by omega, by omega, ws, l, hw, ?_, by simpa using hm fin (pre_of hf)⟩
        obtain ⟨t, rfl⟩ := hf
        rw [Int.toNat_natCast, show to ++ new ++ [l] ++ t = (to ++ new) ++ (l :: t) by simp, List.getElem?_append_right (Nat.le_refl _)]
        simp
end Go.Proofs.YthifgodgfhbnfaaDoor
set_option linter.unusedSimpArgs false
set_option linter.unusedVariables false
namespace Go.Proofs.YthifgodgfhbnfaaDoor
open Go Go.Abs
def Mach.at (x : Mach) (t : Int) : Mach := { x with steps := t }
def Fr.as (r : Fr) (f : F) : Fr := { r with fn := f }
/-- the frame's function and locals stay -/
def Kp {α : Type} (r : Fr) : Ev α → Prop
  | .ok _ _ r' => r'.fn = r.fn ∧ r'.locals.length = r.locals.length
  | _ => True
def RecKp (rec : RunR) : Prop := ∀ x r a d, Kp r (rec x r a d)
theorem Kp.bind {α β : Type} {r0 : Fr} {e : Ev α} {f : α → Mach → Fr → Ev β} (h : Kp r0 e) (hf : ∀ a x r, Kp r (f a x r)) : Kp r0 (bindE e f) := by
  cases e with
  | bad => exact trivial
  | over s c x => exact trivial
  | ok a x r =>
    have := hf a x r
    simp only [bindE]
    revert this
    cases f a x r with
    | bad => exact fun _ => trivial
    | over s c x' => exact fun _ => trivial
    | ok b x' r' => exact fun k => ⟨k.1.trans h.1, k.2.trans h.2⟩
theorem Kp.pop {α : Type} {r0 r : Fr} {k : Int → Fr → Ev α} (h : ∀ v st, Kp r0 (k v { r with stack := st })) : Kp r0 (popK r k) := by
  unfold popK
  split
  · exact trivial
  · exact h _ _
section
variable {fs fs' : List F} {rec rec' : RunR} {f f' : F}
theorem call_kp (x : Mach) (g : F) (args : List Int) (r : Fr) {v : Int} {x' : Mach} {r' : Fr} (h : callW rec x g args r = .ok v x' r') : r' = r := by
  rw [call_eq] at h
  split at h
  · cases h
  · revert h
    cases rec { x with calls := x.calls + 1 } ⟨g, args ++ List.replicate g.locals.length 0, [], 0⟩ ((g.lists.length : Int) - 1) 0 with
    | bad => intro h; cases h
    | over s c x => intro h; cases h
    | ok o x fr =>
      intro h
      simp only [bindE] at h
      split at h
      · unfold popK at h
        split at h
        · cases h
        · cases h; rfl
      · cases h; rfl
theorem calling_kp (x : Mach) (r : Fr) (n : Int) : Kp r (callingW fs rec x r n) := by
  unfold callingW
  split
  · split <;> exact ⟨rfl, rfl⟩
  split
  · exact Kp.pop fun v st => ⟨rfl, rfl⟩
  split
  · exact Kp.pop fun v st => trivial
  split
  · exact trivial
  split
  · exact trivial
  split
  · exact trivial
  · rename_i g _ _
    have := fun v x' r' => call_kp (rec := rec) x g (r.stack.drop (r.stack.length - g.params.length)) { r with stack := r.stack.take (r.stack.length - g.params.length) } (v := v) (x' := x') (r' := r')
    revert this
    cases callW rec x g (r.stack.drop (r.stack.length - g.params.length)) { r with stack := r.stack.take (r.stack.length - g.params.length) } with
    | bad => exact fun _ => trivial
    | over s c x => exact fun _ => trivial
    | ok v x r' =>
      intro h
      have := h v x r' rfl
      subst this
      simp only
      split <;> exact ⟨rfl, rfl⟩
theorem plain_kp (w : W) (x : Mach) (r : Fr) : Kp r (plainW fs rec w x r) := by
  unfold plainW
  split
  · exact ⟨rfl, rfl⟩
  split
  · split
    · exact trivial
    · split
      · exact trivial
      · exact ⟨rfl, rfl⟩
  split
  · split
    · exact trivial
    · exact Kp.pop fun v st => ⟨rfl, by simp⟩
  split
  · refine Kp.pop fun v st => Kp.pop fun v st => ?_
    split
    · exact trivial
    · exact ⟨rfl, rfl⟩
  split
  · exact Kp.pop fun v st => ⟨rfl, rfl⟩
  split
  · exact Kp.pop fun v st => ⟨rfl, rfl⟩
  split
  · refine Kp.pop fun v st => ?_
    unfold cellK
    split
    · exact trivial
    split
    · exact trivial
    · exact ⟨rfl, rfl⟩
  split
  · refine Kp.pop fun v st => Kp.pop fun v st => ?_
    unfold cellK
    split
    · exact trivial
    split
    · exact trivial
    · exact ⟨rfl, rfl⟩
  split
  · exact calling_kp _ _ _
  split
  · exact trivial
  split
  · exact Kp.pop fun v st => ⟨rfl, rfl⟩
  · exact ⟨rfl, rfl⟩
theorem loop_kp (h : RecKp rec) (b : Bool) (a d : Int) : ∀ (j : Nat) (x : Mach) (r : Fr), Kp r (loopA rec b a d j x r)
  | 0, x, r => trivial
  | j + 1, x, r => by
    rw [loop_eq]
    refine Kp.bind (h _ _ _ _) fun o x r => ?_
    split
    · exact loop_kp h b a d j x r
    · exact ⟨rfl, rfl⟩
theorem around_kp (h : RecKp rec) (k : Nat) (w : W) (d : Int) (x : Mach) (r : Fr) : Kp r (aroundW rec k w d x r) := by
  have go : ∀ (a : Int) (st : List Int), Kp r (if a < 0 then Ev.ok (-1) x { r with stack := st } else loopA rec (decide (w.op = 12)) a d k x { r with stack := st }) := fun a st => by
    split
    · exact ⟨rfl, rfl⟩
    · exact loop_kp h _ a d k x { r with stack := st }
  unfold aroundW
  simp only
  split
  · exact Kp.pop fun v st => go _ st
  · exact go _ r.stack
theorem out_kp (w : W) (d : Int) (x : Mach) (r : Fr) : Kp r (outW w d x r) := by
  have go : ∀ (n : Int) (st : List Int), Kp r (if n = d ∧ r.fn.type ≠ 0 then popK { r with stack := st } fun v r => Ev.ok n x { r with result := v } else .ok n x { r with stack := st }) := fun n st => by
    split
    · exact Kp.pop fun v st => ⟨rfl, rfl⟩
    · exact ⟨rfl, rfl⟩
  unfold outW
  simp only
  split
  · have g := go d r.stack
    simp only [true_and] at g ⊢
    exact g
  split
  · refine Kp.pop fun v st => ?_
    split
    · exact ⟨rfl, rfl⟩
    · exact go _ st
  · exact go _ r.stack
theorem exec_kp (h : RecKp rec) (k : Nat) (d : Int) (w : W) (x : Mach) (r : Fr) : Kp r (execW fs rec k d w x r) := by
  rw [exec_eq]
  split
  · exact around_kp h _ _ _ _ _
  split
  · exact out_kp _ _ _ _
  · exact Kp.bind (plain_kp _ _ _) fun _ x r => ⟨rfl, rfl⟩
theorem instrs_kp (h : RecKp rec) (k : Nat) (d : Int) (height : Nat) : ∀ (ws : List W) (x : Mach) (r : Fr), Kp r (instrsW fs rec k d height ws x r)
  | [], x, r => ⟨rfl, rfl⟩
  | w :: ws, x, r => by
    rw [instrs_eq]
    split
    · exact trivial
    · refine Kp.bind (exec_kp h k d w { x with steps := x.steps - 1 } r) fun o x r => ?_
      split
      · exact instrs_kp h k d height ws x r
      split
      · exact trivial
      · exact ⟨rfl, rfl⟩
theorem runL_kp : ∀ k, RecKp (runL fs k)
  | 0 => fun x r a d => trivial
  | k + 1 => fun x r a d => by
    rw [runL]
    split
    · exact trivial
    split
    · exact trivial
    · exact instrs_kp (runL_kp k) k d _ _ x r
/-! ### the same, in no more steps -/
def Sm {α : Type} (f' : F) (e e' : Ev α) : Prop := match e with
  | .bad => True
  | .over s c x1 => if s = 3 then Gr x1.out e' else ∃ t, x1.steps ≤ t ∧ e' = .over s c (x1.at t)
  | .ok o x1 r1 => ∃ t, x1.steps ≤ t ∧ e' = .ok o (x1.at t) (r1.as f')
theorem Sm.bind {α β : Type} {f1 f2 : F} {e e' : Ev α} {F1 F2 : α → Mach → Fr → Ev β} (h : Sm f1 e e') (hf : ∀ a x r t, e = .ok a x r → x.steps ≤ t → Sm f2 (F1 a x r) (F2 a (x.at t) (r.as f1))) (hg : ∀ a x r, Gr x.out (F2 a x r)) : Sm f2 (bindE e F1) (bindE e' F2) := by
  cases e with
  | bad => exact trivial
  | over s c x =>
    simp only [Sm, bindE] at h ⊢
    by_cases hs : s = 3
    · rw [if_pos hs] at h ⊢
      exact h.bind hg
    · rw [if_neg hs] at h ⊢
      obtain ⟨t, h1, h2⟩ := h
      rw [h2]
      exact ⟨t, h1, rfl⟩
  | ok a x r =>
    simp only [Sm] at h
    obtain ⟨t, h1, h2⟩ := h
    rw [h2]
    exact hf a x r t rfl h1
theorem Sm.pop {α : Type} {f' : F} {r : Fr} {k k' : Int → Fr → Ev α} (h : ∀ v st, r.stack = st ++ [v] → Sm f' (k v { r with stack := st }) (k' v ({ r with stack := st }.as f'))) : Sm f' (popK r k) (popK (r.as f') k') := by
  unfold popK
  rw [show (r.as f').stack = r.stack from rfl]
  cases hl : r.stack.getLast? with
  | none => exact trivial
  | some v =>
    refine h v _ ?_
    have hne : r.stack ≠ [] := by intro e; rw [e] at hl; simp at hl
    rw [List.getLast?_eq_some_getLast hne] at hl
    cases hl
    exact (List.dropLast_concat_getLast hne).symm
/-- the functions that are made of others -/
structure Cor (g g' : F) : Prop where
  params : g'.params = g.params
  locals : g'.locals = g.locals
  type : g'.type = g.type
  made : ∃ K, MkN g.lists g'.lists K ((g.lists.length : Int) - 1) ((g'.lists.length : Int) - 1)
def CorFs (fs fs' : List F) : Prop := ∀ (i : Nat) g, fs[i]? = some g → functionE fs g = .ok () ∧ ∃ g', fs'[i]? = some g' ∧ Cor g g'
def RecSim (fs : List F) (rec rec' : RunR) : Prop := ∀ (f f' : F) (K K' : Nat) (a n d : Int) (x : Mach) (t : Int) (r : Fr), f'.type = f.type → MkN f.lists f'.lists K a n → 0 ≤ d → lookE fs (f.params ++ f.locals) f.type f.lists K' a d = .ok () → r.fn = f → r.locals.length = (f.params ++ f.locals).length → x.steps ≤ t →
  Sm f' (rec x r a d) (rec' (x.at t) (r.as f') n d)
theorem ok_sm {α : Type} {f' : F} {a : α} {x : Mach} {r : Fr} {t : Int} (h : x.steps ≤ t) : Sm f' (.ok a x r) (.ok a (x.at t) (r.as f')) := ⟨t, h, rfl⟩
theorem over_sm {α : Type} {f' : F} {s c : Int} {x : Mach} {t : Int} (h : x.steps ≤ t) (hs : s ≠ 3) : Sm (α := α) f' (.over s c x) (.over s c (x.at t)) := by
  simp only [Sm]
  rw [if_neg hs]
  exact ⟨t, h, rfl⟩
theorem call_sim (hr : RecSim fs rec rec') {g g' : F} (hc : Cor g g') (hv : functionE fs g = .ok ()) {x : Mach} {t : Int} (ht : x.steps ≤ t) {args : List Int} (ha : args.length = g.params.length) (r : Fr) :
    Sm f' (callW rec x g args r) (callW rec' (x.at t) g' args (r.as f')) := by
  rw [call_eq, call_eq]
  rw [show (x.at t).calls = x.calls from rfl]
  by_cases hcl : 32 ≤ x.calls
  · rw [if_pos hcl, if_pos hcl]
    exact over_sm ht (by omega)
  · rw [if_neg hcl, if_neg hcl]
    obtain ⟨K, hK⟩ := hc.made
    obtain ⟨K', hK'⟩ := functionE_look hv
    have key := hr g g' K K' _ _ 0 { x with calls := x.calls + 1 } t ⟨g, args ++ List.replicate g.locals.length 0, [], 0⟩ hc.type hK (by omega) hK' rfl (by simp [ha]) ht
    rw [hc.locals]
    refine Sm.bind key (fun o x1 r1 t1 _ h1 => ?_) (fun o x1 r1 => ?_)
    · rw [hc.type]
      by_cases q : o = -1 ∧ g.type ≠ 0
      · rw [if_pos q, if_pos q]
        unfold popK
        rw [show (r1.as g').stack = r1.stack from rfl]
        cases r1.stack.getLast? with
        | none => exact trivial
        | some v => exact ⟨t1, h1, rfl⟩
      · rw [if_neg q, if_neg q]
        exact ⟨t1, h1, rfl⟩
    · split
      · exact Gr.pop fun v r => List.prefix_refl _
      · exact List.prefix_refl _
theorem calling_sim (hr : RecSim fs rec rec') (hC : CorFs fs fs') {x : Mach} {t : Int} (ht : x.steps ≤ t) (r : Fr) (n : Int) : Sm f' (callingW fs rec x r n) (callingW fs' rec' (x.at t) (r.as f') n) := by
  unfold callingW
  by_cases h0 : n = 0
  · simp only [if_pos h0]
    rw [show (x.at t).input = x.input from rfl]
    cases x.input with
    | nil => exact ⟨t, ht, rfl⟩
    | cons v l => exact ⟨t, ht, rfl⟩
  simp only [if_neg h0]
  by_cases h1 : n = 1
  · simp only [if_pos h1]
    exact Sm.pop fun v st _ => ⟨t, ht, rfl⟩
  simp only [if_neg h1]
  by_cases h2 : n = 2
  · simp only [if_pos h2]
    exact Sm.pop fun v st _ => over_sm ht (by omega)
  simp only [if_neg h2]
  by_cases h3 : n < 3
  · simp only [if_pos h3]
    exact trivial
  simp only [if_neg h3]
  cases hg : fs[(n - 3).toNat]? with
  | none => exact trivial
  | some g =>
    obtain ⟨hv, g', hg', hc⟩ := hC _ _ hg
    rw [hg']
    simp only
    rw [show (r.as f').stack = r.stack from rfl, hc.params]
    by_cases hl : r.stack.length < g.params.length
    · simp only [if_pos hl]; exact trivial
    · simp only [if_neg hl]
      have key := call_sim (f' := f') hr hc hv ht (args := r.stack.drop (r.stack.length - g.params.length)) (by simp; omega) { r with stack := r.stack.take (r.stack.length - g.params.length) }
      rw [show ({ r.as f' with stack := r.stack.take (r.stack.length - g.params.length) } : Fr) = ({ r with stack := r.stack.take (r.stack.length - g.params.length) } : Fr).as f' from rfl]
      revert key
      cases callW rec x g (r.stack.drop (r.stack.length - g.params.length)) { r with stack := r.stack.take (r.stack.length - g.params.length) } with
      | bad => exact fun _ => trivial
      | over s c x1 =>
        intro h
        simp only [Sm] at h ⊢
        by_cases hs : s = 3
        · rw [if_pos hs] at h ⊢
          revert h
          cases callW rec' (x.at t) g' (r.stack.drop (r.stack.length - g.params.length)) (({ r with stack := r.stack.take (r.stack.length - g.params.length) } : Fr).as f') <;> exact fun h => h
        · rw [if_neg hs] at h ⊢
          obtain ⟨t1, h1, h2⟩ := h
          rw [h2]
          exact ⟨t1, h1, rfl⟩
      | ok v x1 r1 =>
        intro h
        simp only [Sm] at h ⊢
        obtain ⟨t1, h1, h2⟩ := h
        rw [h2]
        refine ⟨t1, h1, ?_⟩
        simp only
        rw [hc.type]
        split <;> rfl
theorem cell_sim {α : Type} {x : Mach} {t : Int} (ht : x.steps ≤ t) {a n : Int} {k k' : List UInt8 → Ev α} (h : ∀ m, Sm f' (k m) (k' m)) : Sm f' (cellK x a n k) (cellK (x.at t) a n k') := by
  unfold cellK
  rw [show (x.at t).memory = x.memory from rfl]
  by_cases h1 : n < 1 ∨ 8 < n
  · rw [if_pos h1]; exact trivial
  rw [if_neg h1, if_neg h1]
  by_cases h2 : a < 0 ∨ (x.memory.length : Int) - n < a
  · rw [if_pos h2, if_pos h2]; exact over_sm ht (by omega)
  · rw [if_neg h2, if_neg h2]; exact h _
theorem plain_sim (hr : RecSim fs rec rec') (hC : CorFs fs fs') {x : Mach} {t : Int} (ht : x.steps ≤ t) (w : W) (r : Fr) : Sm f' (plainW fs rec w x r) (plainW fs' rec' w (x.at t) (r.as f')) := by
  unfold plainW
  by_cases h1 : w.op = 1
  · simp only [if_pos h1]; exact ⟨t, ht, rfl⟩
  simp only [if_neg h1]
  by_cases h2 : w.op = 2
  · simp only [if_pos h2]
    by_cases q : w.n < 0
    · simp only [if_pos q]; exact trivial
    · simp only [if_neg q]
      rw [show (r.as f').locals = r.locals from rfl]
      cases r.locals[w.n.toNat]? <;> first | exact trivial | exact ⟨t, ht, rfl⟩
  simp only [if_neg h2]
  by_cases h3 : w.op = 3
  · simp only [if_pos h3]
    rw [show (r.as f').locals = r.locals from rfl]
    by_cases q : w.n < 0 ∨ (r.locals.length : Int) ≤ w.n
    · simp only [if_pos q]; exact trivial
    · simp only [if_neg q]; exact Sm.pop fun v st _ => ⟨t, ht, rfl⟩
  simp only [if_neg h3]
  by_cases h4 : w.op = 4
  · simp only [if_pos h4]
    refine Sm.pop fun b st _ => Sm.pop fun a st _ => ?_
    by_cases q : (binW w.ty (signOf signs w.name) a b).2 ≠ 0
    · rw [if_pos q, if_pos q]; exact over_sm ht (by omega)
    · rw [if_neg q, if_neg q]; exact ⟨t, ht, rfl⟩
  simp only [if_neg h4]
  by_cases h5 : w.op = 5
  · simp only [if_pos h5]; exact Sm.pop fun v st _ => ⟨t, ht, rfl⟩
  simp only [if_neg h5]
  by_cases h6 : w.op = 6
  · simp only [if_pos h6]; exact Sm.pop fun v st _ => ⟨t, ht, rfl⟩
  simp only [if_neg h6]
  by_cases h8 : w.op = 8
  · simp only [if_pos h8]; exact Sm.pop fun v st _ => cell_sim ht fun m => ⟨t, ht, rfl⟩
  simp only [if_neg h8]
  by_cases h9 : w.op = 9
  · simp only [if_pos h9]; exact Sm.pop fun v st _ => Sm.pop fun a st _ => cell_sim ht fun m => ⟨t, ht, rfl⟩
  simp only [if_neg h9]
  by_cases h10 : w.op = 10
  · simp only [if_pos h10]; exact calling_sim hr hC ht _ _
  simp only [if_neg h10]
  by_cases h17 : w.op = 17
  · simp only [if_pos h17]; exact over_sm ht (by omega)
  simp only [if_neg h17]
  by_cases h18 : w.op = 18
  · simp only [if_pos h18]; exact Sm.pop fun v st _ => ⟨t, ht, rfl⟩
  simp only [if_neg h18]
  exact ⟨t, ht, rfl⟩
/-- a list, and what was made of it, run from this function's frames -/
def At (f f' : F) (rec rec' : RunR) (a n d : Int) : Prop := ∀ (x : Mach) (t : Int) (r : Fr), r.fn = f → r.locals.length = (f.params ++ f.locals).length → x.steps ≤ t → Sm f' (rec x r a d) (rec' (x.at t) (r.as f') n d)
theorem loop_sim (hk : RecKp rec) (hg' : RecGr rec') {a n d : Int} (h : At f f' rec rec' a n d) (b : Bool) : ∀ (j j' : Nat) (x : Mach) (t : Int) (r : Fr), j ≤ j' → r.fn = f → r.locals.length = (f.params ++ f.locals).length → x.steps ≤ t → Sm f' (loopA rec b a d j x r) (loopA rec' b n d j' (x.at t) (r.as f'))
  | 0, _, x, t, r, _, _, _, _ => trivial
  | j + 1, 0, x, t, r, hj, _, _, _ => by omega
  | j + 1, j' + 1, x, t, r, hj, h1, h2, ht => by
    rw [loop_eq, loop_eq]
    refine Sm.bind (h x t r h1 h2 ht) (fun o x1 r1 t1 e h3 => ?_) (fun o x1 r1 => ?_)
    · have kp := hk x r a d
      rw [e] at kp
      by_cases q : o = 0 ∧ b = true
      · rw [if_pos q, if_pos q]
        exact loop_sim hk hg' h b j j' x1 t1 r1 (by omega) (kp.1.trans h1) (kp.2.trans h2) h3
      · rw [if_neg q, if_neg q]
        exact ⟨t1, h3, rfl⟩
    · split
      · exact loop_gr hg' b n d j' x1 r1
      · exact List.prefix_refl _
theorem go_sim (hk : RecKp rec) (hg' : RecGr rec') {a n d : Int} (h : (a < 0 ∧ n < 0) ∨ (0 ≤ a ∧ 0 ≤ n ∧ At f f' rec rec' a n d)) (b : Bool) {j j' : Nat} (hj : j ≤ j') {x : Mach} {t : Int} {r : Fr} (h1 : r.fn = f) (h2 : r.locals.length = (f.params ++ f.locals).length) (ht : x.steps ≤ t) :
    Sm f' (if a < 0 then Ev.ok (-1) x r else loopA rec b a d j x r) (if n < 0 then Ev.ok (-1) (x.at t) (r.as f') else loopA rec' b n d j' (x.at t) (r.as f')) := by
  rcases h with ⟨q1, q2⟩ | ⟨q1, q2, h⟩
  · rw [if_pos q1, if_pos q2]; exact ⟨t, ht, rfl⟩
  · rw [if_neg (by omega), if_neg (by omega)]
    exact loop_sim hk hg' h b j j' x t r hj h1 h2 ht
theorem out_sim (hty : f'.type = f.type) (w : W) (d : Int) {x : Mach} {t : Int} {r : Fr} (h1 : r.fn = f) (ht : x.steps ≤ t) : Sm f' (outW w d x r) (outW w d (x.at t) (r.as f')) := by
  have go : ∀ (n : Int) (st : List Int), Sm f' (if n = d ∧ r.fn.type ≠ 0 then popK { r with stack := st } fun v r => Ev.ok n x { r with result := v } else .ok n x { r with stack := st }) (if n = d ∧ f'.type ≠ 0 then popK ({ r with stack := st }.as f') fun v r => Ev.ok n (x.at t) { r with result := v } else .ok n (x.at t) ({ r with stack := st }.as f')) := fun n st => by
    rw [h1, hty]
    by_cases q : n = d ∧ f.type ≠ 0
    · rw [if_pos q, if_pos q]; exact Sm.pop fun v st _ => ⟨t, ht, rfl⟩
    · rw [if_neg q, if_neg q]; exact ⟨t, ht, rfl⟩
  unfold outW
  simp only
  by_cases h16 : w.op = 16
  · rw [if_pos h16, if_pos h16]
    have g := go d r.stack
    simp only [true_and] at g ⊢
    exact g
  rw [if_neg h16, if_neg h16]
  by_cases h15 : w.op = 15
  · rw [if_pos h15, if_pos h15]
    refine Sm.pop fun c st _ => ?_
    by_cases q : c = 0
    · rw [if_pos q, if_pos q]; exact ⟨t, ht, rfl⟩
    · rw [if_neg q, if_neg q]; exact go _ st
  · rw [if_neg h15, if_neg h15]; exact go _ r.stack
end
end Go.Proofs.YthifgodgfhbnfaaDoor
set_option linter.unusedSimpArgs false
set_option linter.unusedVariables false
namespace Go.Proofs.YthifgodgfhbnfaaDoor
open Go Go.Abs
theorem MkN.nonneg {frm fin : To} {K : Nat} {a n : Int} (h : MkN frm fin K a n) : 0 ≤ a ∧ 0 ≤ n := by
  cases K with
  | zero => exact h.elim
  | succ K => exact ⟨h.1, h.2.1⟩
theorem Gr.mono {α : Type} {l l' : List Int} {e : Ev α} (h : Gr l e) (hp : l' <+: l) : Gr l' e := by
  cases e with
  | bad => exact trivial
  | over s c x => exact hp.trans h
  | ok a x r => exact hp.trans h
theorem instrE_facts {fs : List F} {ls : List Int} {ty d : Int} {lk : Look} {w : W} {s s' : St} (h : instrE fs ls ty d lk w s = .ok s') : rangedB fs ls d w = true ∧ formB w = true ∧ (w.op = 11 ∨ w.op = 12 ∨ w.op = 13 → lk w.body (d + 1) = .ok ()) ∧ (w.op = 13 → 0 ≤ w.other → lk w.other (d + 1) = .ok ()) := by
  unfold instrE at h
  by_cases hf : formB w = false
  · rw [if_pos hf] at h; cases h
  rw [if_neg hf] at h
  by_cases hg : rangedB fs ls d w = false
  · rw [if_pos hg] at h; cases h
  rw [if_neg hg] at h
  refine ⟨by simpa using hg, by simpa using hf, ?_⟩
  by_cases h11 : w.op = 11 ∨ w.op = 12
  · rw [if_pos h11] at h
    cases hl : lk w.body (d + 1) with
    | error e => rw [hl] at h; cases h
    | ok u => exact ⟨fun _ => rfl, fun q => by omega⟩
  rw [if_neg h11] at h
  by_cases h13 : w.op = 13
  · rw [if_pos h13] at h
    cases ht : takeE [1] s with
    | error e => rw [ht] at h; cases h
    | ok s1 =>
      rw [ht] at h
      simp only at h
      cases hl : lk w.body (d + 1) with
      | error e => rw [hl] at h; cases h
      | ok u =>
        rw [hl] at h
        simp only at h
        refine ⟨fun _ => rfl, fun _ ho => ?_⟩
        rw [if_pos ho] at h
        cases hl2 : lk w.other (d + 1) with
        | error e => rw [hl2] at h; cases h
        | ok u => rfl
  · exact ⟨fun q => by omega, fun q => absurd q h13⟩
theorem instrsE_append {fs : List F} {ls : List Int} {ty d : Int} {lk : Look} {w : W} : ∀ {ws : List W} {s s2 : St}, instrsE fs ls ty d lk (ws ++ [w]) s = .ok s2 → ∃ s1, instrsE fs ls ty d lk ws s = .ok s1 ∧ instrE fs ls ty d lk w s1 = .ok s2
  | [], s, s2, h => by
    simp only [List.nil_append, instrsE] at h
    cases e : instrE fs ls ty d lk w s with
    | error q => rw [e] at h; cases h
    | ok s' => rw [e] at h; cases h; exact ⟨s, rfl, e⟩
  | v :: ws, s, s2, h => by
    rw [List.cons_append, instrsE] at h
    cases e : instrE fs ls ty d lk v s with
    | error q => rw [e] at h; cases h
    | ok s' =>
      rw [e] at h
      obtain ⟨s1, h1, h2⟩ := instrsE_append h
      exact ⟨s1, by rw [instrsE, e]; exact h1, h2⟩
section
variable {fs fs' : List F} {rec rec' : RunR} {f f' : F} {k k' K K' : Nat} {d : Int}
theorem exec_sim (hr : RecSim fs rec rec') (hC : CorFs fs fs') (hk : RecKp rec) (hg' : RecGr rec') (hty : f'.type = f.type) (hkk : k ≤ k') (hd : 0 ≤ d) {w w' : W} {s s' : St} (hw : LaidP (MkN f.lists f'.lists K) w w')
    (hi : instrE fs (f.params ++ f.locals) f.type d (lookE fs (f.params ++ f.locals) f.type f.lists K') w s = .ok s') {x : Mach} {t : Int} {r : Fr} (h1 : r.fn = f) (h2 : r.locals.length = (f.params ++ f.locals).length) (ht : x.steps ≤ t) :
    Sm f' (execW fs rec k d w x r) (execW fs' rec' k' d w' (x.at t) (r.as f')) := by
  obtain ⟨_, _, lb, lo⟩ := instrE_facts hi
  have at_ : ∀ {a b : Int}, MkN f.lists f'.lists K a b → lookE fs (f.params ++ f.locals) f.type f.lists K' a (d + 1) = .ok () → (a < 0 ∧ b < 0) ∨ (0 ≤ a ∧ 0 ≤ b ∧ At f f' rec rec' a b (d + 1)) := fun hb hl =>
    .inr ⟨hb.nonneg.1, hb.nonneg.2, fun x t r h1 h2 ht => hr f f' K K' _ _ _ x t r hty hb (by omega) hl h1 h2 ht⟩
  rw [exec_eq, exec_eq]
  cases hw with
  | both h ho b o hb hr2 =>
    rw [if_pos (by omega), if_pos (by show w.op = 11 ∨ w.op = 12 ∨ w.op = 13; omega)]
    unfold aroundW
    simp only
    rw [if_pos h, if_pos h]
    refine Sm.pop fun c st _ => ?_
    by_cases hc : c = 0
    · simp only [if_pos hc]
      exact go_sim hk hg' (at_ hr2 (lo h ho)) _ hkk (r := { r with stack := st }) h1 h2 ht
    · simp only [if_neg hc]
      exact go_sim hk hg' (at_ hb (lb (by omega))) _ hkk (r := { r with stack := st }) h1 h2 ht
  | one h ho b hb =>
    rw [if_pos (by omega), if_pos (by show w.op = 11 ∨ w.op = 12 ∨ w.op = 13; omega)]
    unfold aroundW
    simp only
    rw [if_pos h, if_pos h]
    refine Sm.pop fun c st _ => ?_
    by_cases hc : c = 0
    · simp only [if_pos hc]
      exact go_sim hk hg' (.inl ⟨ho, ho⟩) _ hkk (r := { r with stack := st }) h1 h2 ht
    · simp only [if_neg hc]
      exact go_sim hk hg' (at_ hb (lb (by omega))) _ hkk (r := { r with stack := st }) h1 h2 ht
  | body h b hb =>
    rw [if_pos (by omega), if_pos (by show w.op = 11 ∨ w.op = 12 ∨ w.op = 13; omega)]
    unfold aroundW
    simp only
    rw [if_neg (show ¬ w.op = 13 by omega), if_neg (show ¬ w.op = 13 by omega)]
    exact go_sim hk hg' (at_ hb (lb (by omega))) _ hkk h1 h2 ht
  | same h =>
    have c1 : ¬ (w.op = 11 ∨ w.op = 12 ∨ w.op = 13) := by omega
    rw [if_neg c1, if_neg c1]
    by_cases q : w.op = 14 ∨ w.op = 15 ∨ w.op = 16
    · rw [if_pos q, if_pos q]; exact out_sim hty w d h1 ht
    · rw [if_neg q, if_neg q]
      exact Sm.bind (plain_sim hr hC ht w r) (fun _ x1 r1 t1 _ h3 => ⟨t1, h3, rfl⟩) fun _ x1 r1 => List.prefix_refl _
/-- how a list goes on behind an instruction, if nothing follows -/
def tailE (h : Nat) (o : Int) (x : Mach) (r : Fr) : Ev Int := if o = -1 then .ok (-1) x r else if r.stack.length < h then .bad else .ok o x { r with stack := r.stack.take h }
theorem one_eq (h : Nat) (w : W) (x : Mach) (r : Fr) : instrsW fs rec k d h [w] x r = if x.steps < 1 then .over 3 0 x else bindE (execW fs rec k d w { x with steps := x.steps - 1 } r) (tailE h) := by
  rw [instrs_eq]
  rfl
theorem tail_sim (h : Nat) {o : Int} {x : Mach} {t : Int} {r : Fr} (ht : x.steps ≤ t) : Sm f' (tailE h o x r) (tailE h o (x.at t) (r.as f')) := by
  unfold tailE
  by_cases ho : o = -1
  · rw [if_pos ho, if_pos ho]; exact ⟨t, ht, rfl⟩
  rw [if_neg ho, if_neg ho, show (r.as f').stack = r.stack from rfl]
  by_cases hs : r.stack.length < h
  · rw [if_pos hs]; exact trivial
  · rw [if_neg hs, if_neg hs]; exact ⟨t, ht, rfl⟩
theorem tail_gr (h : Nat) (o : Int) (x : Mach) (r : Fr) : Gr x.out (tailE h o x r) := by
  unfold tailE
  split
  · exact List.prefix_refl _
  split
  · exact trivial
  · exact List.prefix_refl _
theorem instrs_append (h : Nat) (vs : List W) : ∀ (ws : List W) (x : Mach) (r : Fr), instrsW fs rec k d h (ws ++ vs) x r = bindE (instrsW fs rec k d h ws x r) fun o x r => if o = -1 then instrsW fs rec k d h vs x r else .ok o x r
  | [], x, r => by
    rw [List.nil_append, instrsW]
    simp [bindE]
  | w :: ws, x, r => by
    rw [List.cons_append, instrs_eq, instrs_eq]
    by_cases hs : x.steps < 1
    · rw [if_pos hs, if_pos hs]; rfl
    · rw [if_neg hs, if_neg hs]
      cases execW fs rec k d w { x with steps := x.steps - 1 } r with
      | bad => rfl
      | over s c x1 => rfl
      | ok o x1 r1 =>
        simp only [bindE]
        by_cases ho : o = -1
        · rw [if_pos ho, if_pos ho, instrs_append h vs ws x1 r1]; rfl
        · rw [if_neg ho, if_neg ho]
          by_cases hl : r1.stack.length < h
          · rw [if_pos hl]
          · rw [if_neg hl]; simp only; rw [if_neg ho]
/-- a number, or a local: it is laid on the stack, if there is a step -/
theorem pure_eq (h : Nat) {p : W} (hp : p.op = 1 ∨ (p.op = 2 ∧ 0 ≤ p.n)) {x : Mach} {r : Fr} (hl : p.op = 2 → p.n < (r.locals.length : Int)) : ∃ v, (p.op = 1 → v = p.n) ∧ instrsW fs rec k d h [p] x r = if x.steps < 1 then .over 3 0 x else .ok (-1) { x with steps := x.steps - 1 } (r.push v) := by
  rcases hp with h1 | ⟨h2, hn⟩
  · refine ⟨p.n, fun _ => rfl, ?_⟩
    have c1 : ¬ (p.op = 11 ∨ p.op = 12 ∨ p.op = 13) := by omega
    have c2 : ¬ (p.op = 14 ∨ p.op = 15 ∨ p.op = 16) := by omega
    rw [one_eq, exec_eq, if_neg c1, if_neg c2]
    simp [plainW, h1, bindE, tailE]
  · have hlt := hl h2
    have hlt' : p.n.toNat < r.locals.length := by omega
    refine ⟨r.locals[p.n.toNat], fun h1 => by omega, ?_⟩
    have c1 : ¬ (p.op = 11 ∨ p.op = 12 ∨ p.op = 13) := by omega
    have c2 : ¬ (p.op = 14 ∨ p.op = 15 ∨ p.op = 16) := by omega
    rw [one_eq, exec_eq, if_neg c1, if_neg c2]
    have e : ¬ p.n < 0 := by omega
    simp [plainW, h2, bindE, tailE, e, List.getElem?_eq_getElem hlt']
/-- what stands behind such a one, against what both become -/
theorem pair_step (hr : RecSim fs rec rec') (hk : RecKp rec) (hg' : RecGr rec') (hty : f'.type = f.type) (hkk : k ≤ k') (hd : 0 ≤ d) {p w : W} {two : List W} {s s' : St} (hp : PairP (MkN f.lists f'.lists K) p w two)
    (hi : instrE fs (f.params ++ f.locals) f.type d (lookE fs (f.params ++ f.locals) f.type f.lists K') w s = .ok s') (h : Nat) {x : Mach} {u v : Int} {S : List Int} {r : Fr} (h1 : r.fn = f) (h2 : r.locals.length = (f.params ++ f.locals).length) (hu : x.steps + 1 ≤ u) (hv : p.op = 1 → v = p.n) :
    Sm f' (instrsW fs rec k d h [w] x { r with stack := S ++ [v] }) (instrsW fs' rec' k' d h two (x.at u) ({ r with stack := S }.as f')) := by
  obtain ⟨rg, _, lb, lo⟩ := instrE_facts hi
  have hgr : ∀ two : List W, Gr x.out (instrsW fs' rec' k' d h two (x.at u) ({ r with stack := S }.as f')) := fun two => instrs_gr hg' k' d h two (x.at u) _
  rw [one_eq]
  by_cases hs : x.steps < 1
  · rw [if_pos hs]
    simp only [Sm]
    exact hgr two
  rw [if_neg hs]
  have pop : ∀ {α : Type} (F : Int → Fr → Ev α), popK { r with stack := S ++ [v] } F = F v { r with stack := S } := fun F => by simp [popK]
  cases hp with
  | drop q1 q2 =>
    have c1 : ¬ (w.op = 11 ∨ w.op = 12 ∨ w.op = 13) := by omega
    have c2 : ¬ (w.op = 14 ∨ w.op = 15 ∨ w.op = 16) := by omega
    rw [exec_eq, if_neg c1, if_neg c2]
    have e : plainW fs rec w { x with steps := x.steps - 1 } { r with stack := S ++ [v] } = .ok () { x with steps := x.steps - 1 } { r with stack := S } := by
      unfold plainW
      simp [q2, pop]
    rw [e]
    exact ⟨u, by simp only; omega, rfl⟩
  | eqz q1 q2 qt =>
    have c1 : ¬ (w.op = 11 ∨ w.op = 12 ∨ w.op = 13) := by omega
    have c2 : ¬ (w.op = 14 ∨ w.op = 15 ∨ w.op = 16) := by omega
    rw [exec_eq, if_neg c1, if_neg c2]
    have e : plainW fs rec w { x with steps := x.steps - 1 } { r with stack := S ++ [v] } = .ok () { x with steps := x.steps - 1 } (({ r with stack := S } : Fr).push (if v = 0 then 1 else 0)) := by
      unfold plainW
      simp [q2, pop]
    rw [e]
    obtain ⟨v', hv', e'⟩ := pure_eq (fs := fs') (rec := rec') (k := k') (d := d) h (p := ⟨1, 1, if p.n = 0 then 1 else 0, 0, 0, []⟩) (.inl rfl) (x := x.at u) (r := { r with stack := S }.as f') (fun q => by simp at q)
    have c5 : ¬ (x.at u).steps < 1 := by show ¬ u < 1; omega
    have hvn := hv q1
    rw [e', if_neg c5, hv' rfl]
    subst hvn
    exact ⟨u - 1, by simp only; omega, rfl⟩
  | stay q1 q2 qt qn =>
    have c1 : ¬ (w.op = 11 ∨ w.op = 12 ∨ w.op = 13) := by omega
    have c2 : w.op = 14 ∨ w.op = 15 ∨ w.op = 16 := by omega
    have c3 : ¬ w.op = 16 := by omega
    rw [exec_eq, if_neg c1, if_pos c2]
    unfold outW
    simp only
    rw [if_neg c3, if_pos q2, pop, if_pos (by rw [hv q1]; exact qn)]
    exact ⟨u, by simp only; omega, rfl⟩
  | go q1 q2 qt qn =>
    have hn : 0 ≤ w.n := by
      simp [rangedB, q2] at rg
      exact rg.1
    have c1 : ¬ (w.op = 11 ∨ w.op = 12 ∨ w.op = 13) := by omega
    have c2 : w.op = 14 ∨ w.op = 15 ∨ w.op = 16 := by omega
    have c3 : ¬ w.op = 16 := by omega
    have c4 : ¬ v = 0 := by rw [hv q1]; exact qn
    have c5 : ¬ (x.at u).steps < 1 := by show ¬ u < 1; omega
    have c6 : ¬ ((14 : Int) = 11 ∨ (14 : Int) = 12 ∨ (14 : Int) = 13) := by omega
    have c7 : (14 : Int) = 14 ∨ (14 : Int) = 15 ∨ (14 : Int) = 16 := by omega
    rw [exec_eq, if_neg c1, if_pos c2]
    rw [one_eq, if_neg c5, exec_eq, if_neg c6, if_pos c7]
    unfold outW
    simp only
    rw [if_neg c3, if_pos q2, pop, if_neg c4, if_neg (show ¬ ((14 : Int) = 16) by omega), if_neg (show ¬ ((14 : Int) = 15) by omega)]
    refine Sm.bind (f1 := f') ?_ (fun o x1 r1 t1 _ h3 => tail_sim h h3) fun o x1 r1 => tail_gr h o x1 r1
    show Sm f' (if w.n = d ∧ r.fn.type ≠ 0 then popK { r with stack := S } fun v r => Ev.ok w.n { x with steps := x.steps - 1 } { r with result := v } else .ok w.n { x with steps := x.steps - 1 } { r with stack := S })
      (if w.n = d ∧ f'.type ≠ 0 then popK ({ r with stack := S }.as f') fun v r => Ev.ok w.n (({ x with steps := x.steps - 1 } : Mach).at (u - 1)) { r with result := v } else .ok w.n (({ x with steps := x.steps - 1 } : Mach).at (u - 1)) ({ r with stack := S }.as f'))
    rw [h1, hty]
    by_cases q : w.n = d ∧ f.type ≠ 0
    · rw [if_pos q, if_pos q]; exact Sm.pop fun v st _ => ⟨u - 1, by simp only; omega, rfl⟩
    · rw [if_neg q, if_neg q]; exact ⟨u - 1, by simp only; omega, rfl⟩
  | none q1 q2 qt qn =>
    have c1 : w.op = 11 ∨ w.op = 12 ∨ w.op = 13 := by omega
    rw [exec_eq, if_pos c1]
    unfold aroundW
    simp only
    rw [if_pos q2, pop, hv q1, if_pos qn]
    exact ⟨u, by simp only; omega, rfl⟩
  | block q1 q2 qt qn b hb =>
    have c1 : w.op = 11 ∨ w.op = 12 ∨ w.op = 13 := by omega
    have c5 : ¬ (x.at u).steps < 1 := by show ¬ u < 1; omega
    have c6 : (11 : Int) = 11 ∨ (11 : Int) = 12 ∨ (11 : Int) = 13 := by omega
    rw [exec_eq, if_pos c1]
    rw [one_eq, if_neg c5, exec_eq, if_pos c6]
    unfold aroundW
    simp only
    rw [if_pos q2, pop, hv q1, if_neg (show ¬ ((11 : Int) = 13) by omega)]
    have hl : lookE fs (f.params ++ f.locals) f.type f.lists K' (if p.n = 0 then w.other else w.body) (d + 1) = .ok () := by
      by_cases hp0 : p.n = 0
      · rw [if_pos hp0] at qn ⊢; exact lo q2 qn
      · rw [if_neg hp0]; exact lb (by omega)
    have key := go_sim (f := f) (f' := f') hk hg' (a := if p.n = 0 then w.other else w.body) (n := b) (d := d + 1) (.inr ⟨hb.nonneg.1, hb.nonneg.2, fun x t r h1 h2 ht => hr f f' K K' _ _ _ x t r hty hb (by omega) hl h1 h2 ht⟩) false hkk (x := { x with steps := x.steps - 1 }) (t := u - 1) (r := { r with stack := S }) h1 h2 (by simp only; omega)
    have e12 : decide (w.op = 12) = false := by simp; omega
    rw [e12]
    refine Sm.bind (f1 := f') ?_ (fun o x1 r1 t1 _ h3 => tail_sim h h3) fun o x1 r1 => tail_gr h o x1 r1
    exact key
end
end Go.Proofs.YthifgodgfhbnfaaDoor
set_option linter.unusedSimpArgs false
set_option linter.unusedVariables false
namespace Go.Proofs.YthifgodgfhbnfaaDoor
open Go Go.Abs
section
variable {fs fs' : List F} {rec rec' : RunR} {f f' : F} {k k' K K' : Nat} {d : Int}
theorem leave_not (h : Nat) {p : W} (hp : leavesW p = true) (hn : p.op = 14 → 0 ≤ p.n) (hd : 0 ≤ d) (x : Mach) (r : Fr) {x' : Mach} {r' : Fr} : instrsW fs rec k d h [p] x r ≠ .ok (-1) x' r' := by
  intro e
  rw [one_eq] at e
  split at e
  · cases e
  rw [exec_eq] at e
  have hop : p.op = 14 ∨ p.op = 16 ∨ p.op = 17 := by simpa [leavesW, or_assoc] using hp
  have c1 : ¬ (p.op = 11 ∨ p.op = 12 ∨ p.op = 13) := by omega
  rw [if_neg c1] at e
  have key : ∀ {o : Int} {x1 : Mach} {r1 : Fr}, 0 ≤ o → tailE h o x1 r1 ≠ .ok (-1) x' r' := by
    intro o x1 r1 ho e
    unfold tailE at e
    rw [if_neg (by omega)] at e
    split at e
    · cases e
    · cases e; omega
  by_cases c2 : p.op = 14 ∨ p.op = 15 ∨ p.op = 16
  · rw [if_pos c2] at e
    have go : ∀ (n : Int), 0 ≤ n → bindE (if n = d ∧ r.fn.type ≠ 0 then popK r fun v r => Ev.ok n { x with steps := x.steps - 1 } { r with result := v } else .ok n { x with steps := x.steps - 1 } r) (tailE h) ≠ .ok (-1) x' r' := by
      intro n hn e
      split at e
      · unfold popK at e
        split at e
        · cases e
        · exact key hn e
      · exact key hn e
    unfold outW at e
    simp only at e
    by_cases h16 : p.op = 16
    · rw [if_pos h16] at e
      have g := go d hd
      simp only [true_and] at g e
      exact g e
    · have h15 : ¬ p.op = 15 := by omega
      rw [if_neg h16, if_neg h15] at e
      exact go p.n (hn (by omega)) e
  · rw [if_neg c2] at e
    have h17 : p.op = 17 := by omega
    have e2 : plainW fs rec p { x with steps := x.steps - 1 } r = .over 2 5 { x with steps := x.steps - 1 } := by
      unfold plainW
      simp [h17]
    rw [e2] at e
    cases e
theorem one_sim (hr : RecSim fs rec rec') (hC : CorFs fs fs') (hk : RecKp rec) (hg' : RecGr rec') (hty : f'.type = f.type) (hkk : k ≤ k') (hd : 0 ≤ d) (h : Nat) {w w' : W} {s s' : St} (hw : LaidP (MkN f.lists f'.lists K) w w')
    (hi : instrE fs (f.params ++ f.locals) f.type d (lookE fs (f.params ++ f.locals) f.type f.lists K') w s = .ok s') {x : Mach} {t : Int} {r : Fr} (h1 : r.fn = f) (h2 : r.locals.length = (f.params ++ f.locals).length) (ht : x.steps ≤ t) :
    Sm f' (instrsW fs rec k d h [w] x r) (instrsW fs' rec' k' d h [w'] (x.at t) (r.as f')) := by
  rw [one_eq]
  by_cases hs : x.steps < 1
  · rw [if_pos hs]
    exact instrs_gr hg' k' d h [w'] (x.at t) _
  · have c5 : ¬ (x.at t).steps < 1 := by show ¬ t < 1; omega
    rw [if_neg hs, one_eq, if_neg c5]
    exact Sm.bind (exec_sim (x := { x with steps := x.steps - 1 }) (t := t - 1) hr hC hk hg' hty hkk hd hw hi h1 h2 (by simp only; omega)) (fun o x1 r1 t1 _ h3 => tail_sim h h3) fun o x1 r1 => tail_gr h o x1 r1
theorem mkl_sim (hr : RecSim fs rec rec') (hC : CorFs fs fs') (hk : RecKp rec) (hk' : RecKp rec') (hg' : RecGr rec') (hty : f'.type = f.type) (hkk : k ≤ k') (hd : 0 ≤ d) (h : Nat) {ws l : List W} (hm : MkL (MkN f.lists f'.lists K) ws l) :
    ∀ s2, instrsE fs (f.params ++ f.locals) f.type d (lookE fs (f.params ++ f.locals) f.type f.lists K') ws ⟨[], false⟩ = .ok s2 →
    (∀ q ∈ l, q.op = 2 → 0 ≤ q.n ∧ q.n < ((f.params ++ f.locals).length : Int)) ∧ (∀ q ∈ l, q.op = 14 → 0 ≤ q.n) ∧
    ∀ (x : Mach) (t : Int) (r : Fr), r.fn = f → r.locals.length = (f.params ++ f.locals).length → x.steps ≤ t → Sm f' (instrsW fs rec k d h ws x r) (instrsW fs' rec' k' d h l (x.at t) (r.as f')) := by
  induction hm with
  | nil => exact fun s2 _ => ⟨by simp, by simp, fun x t r h1 h2 ht => ⟨t, ht, rfl⟩⟩
  | @stop ws l p w hm hp ih =>
    intro s2 hi
    obtain ⟨s1, i1, i2⟩ := instrsE_append hi
    obtain ⟨A, B, C⟩ := ih s1 i1
    refine ⟨A, B, fun x t r h1 h2 ht => ?_⟩
    have key := C x t r h1 h2 ht
    have hnot : ∀ x' r', instrsW fs' rec' k' d h (l ++ [p]) (x.at t) (r.as f') ≠ .ok (-1) x' r' := by
      intro x' r' e
      rw [instrs_append] at e
      revert e
      cases instrsW fs' rec' k' d h l (x.at t) (r.as f') with
      | bad => intro e; cases e
      | over s c x1 => intro e; cases e
      | ok o x1 r1 =>
        intro e
        simp only [bindE] at e
        by_cases ho : o = -1
        · rw [if_pos ho] at e
          exact leave_not h hp (B p (by simp)) hd x1 r1 e
        · rw [if_neg ho] at e
          cases e
          exact ho rfl
    rw [instrs_append]
    revert key
    cases instrsW fs rec k d h ws x r with
    | bad => exact fun _ => trivial
    | over s c x1 => exact fun k => k
    | ok o x1 r1 =>
      intro key
      obtain ⟨t1, h3, h4⟩ := key
      have ho : o ≠ -1 := by rintro rfl; exact hnot _ _ h4
      simp only [bindE]
      rw [if_neg ho]
      exact ⟨t1, h3, h4⟩
  | @pair ws l p w two hm hp hpair ih =>
    intro s2 hi
    obtain ⟨s1, i1, i2⟩ := instrsE_append hi
    obtain ⟨A, B, C⟩ := ih s1 i1
    obtain ⟨rg, _, _, _⟩ := instrE_facts i2
    have hpop : p.op = 1 ∨ p.op = 2 := by
      cases hpair with
      | drop h _ => exact h
      | _ => exact .inl (by assumption)
    have hp2 := A p (by simp)
    refine ⟨fun q hq => ?_, fun q hq => ?_, fun x t r h1 h2 ht => ?_⟩
    · rcases List.mem_append.1 hq with hq | hq
      · exact A q (by simp [hq])
      · cases hpair <;> simp at hq <;> (subst hq; intro h; simp at h)
    · rcases List.mem_append.1 hq with hq | hq
      · exact B q (by simp [hq])
      · cases hpair with
        | go q1 q2 qt qn =>
          simp at hq; subst hq; intro _
          simp [rangedB, q2] at rg
          exact rg.1
        | _ => simp at hq <;> (subst hq; intro h; simp at h)
    have key := C x t r h1 h2 ht
    have kp' := instrs_kp (fs := fs') hk' k' d h l (x.at t) (r.as f')
    have kp := instrs_kp (fs := fs) hk k d h ws x r
    rw [instrs_append] at key ⊢
    rw [instrs_append]
    revert key kp'
    cases instrsW fs' rec' k' d h l (x.at t) (r.as f') with
    | bad =>
      intro key kp'
      simp only [bindE] at key ⊢
      revert key
      cases instrsW fs rec k d h ws x r with
      | bad => exact fun _ => trivial
      | over s c x1 => exact fun k => k
      | ok o x1 r1 => intro key; obtain ⟨t1, h3, h4⟩ := key; cases h4
    | over s' c' y1 =>
      intro key kp'
      simp only [bindE] at key ⊢
      revert key
      cases instrsW fs rec k d h ws x r with
      | bad => exact fun _ => trivial
      | over s c x1 => exact fun k => k
      | ok o x1 r1 => intro key; obtain ⟨t1, h3, h4⟩ := key; cases h4
    | ok o y1 ρ1 =>
      intro key kp'
      by_cases ho : o = -1
      · subst ho
        simp only [bindE, ↓reduceIte] at key ⊢
        have hloc : ρ1.locals.length = (f.params ++ f.locals).length := kp'.2.trans h2
        obtain ⟨v, hv, e⟩ := pure_eq (fs := fs') (rec := rec') (k := k') (d := d) h (p := p) (by rcases hpop with q | q; exact .inl q; exact .inr ⟨q, (hp2 q).1⟩) (x := y1) (r := ρ1) (fun q => by rw [hloc]; exact (hp2 q).2)
        rw [e] at key
        revert key kp
        cases instrsW fs rec k d h ws x r with
        | bad => exact fun _ _ => trivial
        | over s c x1 =>
          intro _ key
          simp only [Sm] at key ⊢
          by_cases hs : s = 3
          · rw [if_pos hs] at key ⊢
            have hpre : x1.out <+: y1.out := by
              split at key
              · exact key
              · exact key
            exact Gr.mono (instrs_gr hg' k' d h two y1 ρ1) hpre
          · rw [if_neg hs] at key
            obtain ⟨t1, h3, h4⟩ := key
            split at h4
            · cases h4; exact absurd rfl hs
            · cases h4
        | ok o x1 r1 =>
          intro kp key
          simp only [Sm] at key
          obtain ⟨t1, h3, h4⟩ := key
          split at h4
          · cases h4
          · rename_i hst
            simp only [Ev.ok.injEq] at h4
            obtain ⟨ho, hx, hρ⟩ := h4
            subst ho
            simp only [↓reduceIte]
            have hy : y1 = x1.at (t1 + 1) := by
              have := congrArg Mach.input hx
              have := congrArg Mach.steps hx
              have := congrArg Mach.memory hx
              have := congrArg Mach.out hx
              have := congrArg Mach.calls hx
              cases y1; cases x1
              simp only [Mach.at, Mach.mk.injEq] at *
              refine ⟨by assumption, by omega, by assumption, by assumption, by assumption⟩
            have hr1 : r1 = { r1 with stack := ρ1.stack ++ [v] } := by
              have := congrArg Fr.stack hρ
              cases r1
              simp only [Fr.as, Fr.push] at this ⊢
              rw [this]
            have hρ1 : ρ1 = ({ r1 with stack := ρ1.stack } : Fr).as f' := by
              have a1 := congrArg Fr.fn hρ
              have a2 := congrArg Fr.locals hρ
              have a3 := congrArg Fr.result hρ
              cases r1; cases ρ1
              simp only [Fr.as, Fr.push] at a1 a2 a3 ⊢
              rw [a1, a2, a3]
            rw [hy, hr1]
            rw [show instrsW fs' rec' k' d h two (x1.at (t1 + 1)) ρ1 = instrsW fs' rec' k' d h two (x1.at (t1 + 1)) (({ r1 with stack := ρ1.stack } : Fr).as f') by rw [← hρ1]]
            exact pair_step hr hk hg' hty hkk hd hpair i2 h (kp.1.trans h1) (kp.2.trans h2) (by omega) hv
      · simp only [bindE] at key ⊢
        rw [if_neg ho] at key ⊢
        revert key
        cases instrsW fs rec k d h ws x r with
        | bad => exact fun _ => trivial
        | over s c x1 => exact fun k => k
        | ok o2 x1 r1 =>
          intro key
          obtain ⟨t1, h3, h4⟩ := key
          have ho2 : o2 ≠ -1 := by
            intro q
            simp only [Ev.ok.injEq] at h4
            exact ho (h4.1.trans q)
          simp only
          rw [if_neg ho2]
          exact ⟨t1, h3, h4⟩
  | @add ws l w w' hm hl hw ih =>
    intro s2 hi
    obtain ⟨s1, i1, i2⟩ := instrsE_append hi
    obtain ⟨A, B, C⟩ := ih s1 i1
    obtain ⟨rg, _, _, _⟩ := instrE_facts i2
    have hw' : w'.op = w.op ∧ w'.n = w.n := by cases hw <;> exact ⟨rfl, rfl⟩
    refine ⟨fun q hq => ?_, fun q hq => ?_, fun x t r h1 h2 ht => ?_⟩
    · rcases List.mem_append.1 hq with hq | hq
      · exact A q hq
      · simp at hq; subst hq
        intro q2
        rw [hw'.1] at q2
        rw [hw'.2]
        simpa [rangedB, q2] using rg
    · rcases List.mem_append.1 hq with hq | hq
      · exact B q hq
      · simp at hq; subst hq
        intro q2
        rw [hw'.1] at q2
        rw [hw'.2]
        simp [rangedB, q2] at rg
        exact rg.1
    · have kp := instrs_kp (fs := fs) hk k d h ws x r
      rw [instrs_append, instrs_append]
      refine Sm.bind (C x t r h1 h2 ht) (fun o x1 r1 t1 e h3 => ?_) (fun o x1 r1 => ?_)
      · rw [e] at kp
        by_cases ho : o = -1
        · rw [if_pos ho, if_pos ho]
          exact one_sim hr hC hk hg' hty hkk hd h hw i2 (kp.1.trans h1) (kp.2.trans h2) h3
        · rw [if_neg ho, if_neg ho]
          exact ⟨t1, h3, rfl⟩
      · split
        · exact instrs_gr hg' k' d h [w'] x1 r1
        · exact List.prefix_refl _
end
theorem runL_sim {fs fs' : List F} (hC : CorFs fs fs') : ∀ k k', k ≤ k' → RecSim fs (runL fs k) (runL fs' k')
  | 0, _, _ => fun f f' K K' a n d x t r _ _ _ _ _ _ _ => trivial
  | k + 1, 0, h => by omega
  | k + 1, k' + 1, h => by
    intro f f' K K' a n d x t r hty hm hd hl h1 h2 ht
    cases K with
    | zero => exact hm.elim
    | succ K =>
      obtain ⟨ha, hn, ws, l, hw, hl', hml⟩ := hm
      cases K' with
      | zero => simp [lookE] at hl
      | succ K' =>
        rw [lookE] at hl
        have hrow : f.lists.getD a.toNat [] = ws := by rw [List.getD_eq_getElem?_getD, hw]; rfl
        rw [hrow] at hl
        cases hi : instrsE fs (f.params ++ f.locals) f.type d (lookE fs (f.params ++ f.locals) f.type f.lists K') ws ⟨[], false⟩ with
        | error e => rw [hi] at hl; cases hl
        | ok s =>
          rw [runL, runL, if_neg (by omega), if_neg (by omega)]
          rw [show (r.as f').fn.lists = f'.lists from rfl, h1, hw, hl']
          exact (mkl_sim (runL_sim hC k k' (by omega)) hC (runL_kp k) (runL_kp k') (runL_gr k') hty (by omega) hd r.stack.length hml s hi).2.2 x t r h1 h2 ht
/-- WHAT PEEP MAKES DOES THE SAME, IN NO MORE STEPS. -/
theorem runM_sim {m m' : M} (hC : CorFs m.funcs m'.funcs) (hmem : m'.memory = m.memory) (hmain : m'.main = m.main) (hck : checkE m = .ok ()) {input : List Int} {steps : Int} {k : Nat} {o o' : List Int} {s s' c c' : Int}
    (h : runM m input steps k = some (o, s, c)) (h' : runM m' input steps k = some (o', s', c')) : o <+: o' ∧ (s ≠ 3 → o' = o ∧ s' = s ∧ c' = c) := by
  obtain ⟨hm0, g, hg, hgt, hgp⟩ := check_main hck
  obtain ⟨hv, g', hg', hc⟩ := hC _ _ hg
  unfold runM at h h'
  rw [hmain, if_neg (by omega), hg', hmem] at h'
  rw [if_neg (by omega), hg] at h
  simp only at h h'
  have key := call_sim (f' := g') (runL_sim hC k k (Nat.le_refl _)) hc hv (x := ⟨input, steps, List.replicate m.memory.toNat 0, [], 0⟩) (t := steps) (Int.le_refl _) (args := []) (by rw [hgp]; rfl) ⟨g, [], [], 0⟩
  rw [show ((⟨input, steps, List.replicate m.memory.toNat 0, [], 0⟩ : Mach).at steps) = ⟨input, steps, List.replicate m.memory.toNat 0, [], 0⟩ from rfl, show ((⟨g, [], [], 0⟩ : Fr).as g') = ⟨g', [], [], 0⟩ from rfl] at key
  revert key h
  cases callW (runL m.funcs k) ⟨input, steps, List.replicate m.memory.toNat 0, [], 0⟩ g [] ⟨g, [], [], 0⟩ with
  | bad => intro h; cases h
  | over st cd x =>
    intro h key
    simp only [Option.some.injEq, Prod.mk.injEq] at h
    obtain ⟨rfl, rfl, rfl⟩ := h
    simp only [Sm] at key
    by_cases hs : st = 3
    · rw [if_pos hs] at key
      refine ⟨?_, fun q => absurd hs q⟩
      revert key h'
      cases callW (runL m'.funcs k) ⟨input, steps, List.replicate m.memory.toNat 0, [], 0⟩ g' [] ⟨g', [], [], 0⟩ with
      | bad => intro h; cases h
      | over s2 c2 x2 => intro h kg; simp only [Option.some.injEq, Prod.mk.injEq] at h; rw [← h.1]; exact kg
      | ok v2 x2 r2 => intro h kg; simp only [Option.some.injEq, Prod.mk.injEq] at h; rw [← h.1]; exact kg
    · rw [if_neg hs] at key
      obtain ⟨t1, _, key⟩ := key
      rw [key] at h'
      simp only [Option.some.injEq, Prod.mk.injEq] at h'
      obtain ⟨rfl, rfl, rfl⟩ := h'
      exact ⟨List.prefix_refl _, fun _ => ⟨rfl, rfl, rfl⟩⟩
  | ok v x r =>
    intro h key
    simp only [Option.some.injEq, Prod.mk.injEq] at h
    obtain ⟨rfl, rfl, rfl⟩ := h
    obtain ⟨t1, _, key⟩ := key
    rw [key] at h'
    simp only [Option.some.injEq, Prod.mk.injEq] at h'
    obtain ⟨rfl, rfl, rfl⟩ := h'
    exact ⟨List.prefix_refl _, fun _ => ⟨rfl, rfl, rfl⟩⟩
end Go.Proofs.YthifgodgfhbnfaaDoor
set_option linter.unusedSimpArgs false
set_option linter.unusedVariables false
namespace Go.Proofs.YthifgodgfhbnfaaDoor
open Go Go.Abs
theorem takeE_any : ∀ {ts : List Int} {s s' : St}, takeE ts s = .ok s' → s.any = false → s'.any = false := fun h ha => (takeE_len h ha).1
theorem gives_any {r : Res St} {t : Int} {s' : St} (h : gives r t = .ok s') (ha : ∀ s, r = .ok s → s.any = false) : s'.any = false := by
  obtain ⟨s, h1, rfl⟩ := gives_ok h
  exact (giveS_len s t).1.trans (ha s h1)
theorem returnsE_any {ty : Int} {s s' : St} (h : returnsE ty s = .ok s') (ha : s.any = false) : s'.any = false := (returnsE_len h ha).1
section
variable {fs fs' : List F} {ls : List Int} {ty d : Int} {lk lk' : Look}
theorem plainE_any {w : W} {s s' : St} (h : plainE fs ls w s = .ok s') (ha : s.any = false) : s'.any = false := by
  unfold plainE at h
  split at h
  · cases h; exact (giveS_len s _).1.trans ha
  split at h
  · cases h; exact (giveS_len s _).1.trans ha
  split at h
  · exact takeE_any h ha
  split at h
  · exact gives_any h fun s1 h1 => takeE_any h1 ha
  split at h
  · exact gives_any h fun s1 h1 => takeE_any h1 ha
  split at h
  · exact gives_any h fun s1 h1 => takeE_any h1 ha
  split at h
  · exact gives_any h fun s1 h1 => takeE_any h1 ha
  split at h
  · exact gives_any h fun s1 h1 => takeE_any h1 ha
  split at h
  · exact takeE_any h ha
  split at h
  · split at h
    · exact gives_any h fun s1 h1 => takeE_any h1 ha
    · cases h; exact ha
  split at h
  · exact (dropE_len h ha).1
  · cases h; exact ha
theorem instrE_any {w : W} {s s' : St} (h : instrE fs ls ty d lk w s = .ok s') (hl : leavesW w = false) (ha : s.any = false) : s'.any = false := by
  have hop : w.op ≠ 14 ∧ w.op ≠ 16 ∧ w.op ≠ 17 := by simpa [leavesW, and_assoc] using hl
  unfold instrE at h
  split at h
  · cases h
  split at h
  · cases h
  split at h
  · split at h
    · cases h; exact ha
    · cases h
  split at h
  · split at h
    · cases h
    · rename_i s1 h1
      have := takeE_any h1 ha
      split at h
      · cases h
      · split at h
        · split at h
          · cases h
          · cases h; exact this
        · cases h; exact this
  split at h
  · split at h
    · cases h
    · rename_i s1 h1
      have := takeE_any h1 ha
      split at h
      · exact gives_any h fun s2 h2 => returnsE_any h2 this
      · cases h; exact this
  split at h
  · omega
  split at h
  · omega
  split at h
  · omega
  · exact plainE_any h ha
/-- what leaves leaves nothing known -/
theorem instrE_leaves {w : W} {s s' : St} (h : instrE fs ls ty d lk w s = .ok s') (hl : leavesW w = true) : s' = leftS := by
  have hop : w.op = 14 ∨ w.op = 16 ∨ w.op = 17 := by simpa [leavesW, or_assoc] using hl
  unfold instrE at h
  split at h
  · cases h
  split at h
  · cases h
  have c1 : ¬ (w.op = 11 ∨ w.op = 12) := by omega
  have c2 : ¬ w.op = 13 := by omega
  have c3 : ¬ w.op = 15 := by omega
  rw [if_neg c1, if_neg c2, if_neg c3] at h
  split at h
  · split at h
    · split at h
      · cases h
      · cases h; rfl
    · cases h; rfl
  split at h
  · split at h
    · cases h
    · cases h; rfl
  split at h
  · cases h; rfl
  · omega
theorem look_unit {lk : Look} {a d : Int} {u : Unit} (h : lk a d = .ok u) : lk a d = .ok () := h
/-- an instruction with its lists made -/
theorem laid_check (hh : headOf fs' = headOf fs) {R : Int → Int → Prop} (hR : ∀ a b, R a b → lk a (d + 1) = .ok () → lk' b (d + 1) = .ok ()) (hRn : ∀ a b, R a b → 0 ≤ a ∧ 0 ≤ b) {w w' : W} (hw : LaidP R w w') {s s' : St} (h : instrE fs ls ty d lk w s = .ok s') : instrE fs' ls ty d lk' w' s = .ok s' := by
  obtain ⟨rg, fm, lb, lo⟩ := instrE_facts h
  have rg' : ∀ w', w'.op = w.op → w'.ty = w.ty → w'.n = w.n → rangedB fs' ls d w' = true := fun w' e1 e2 e3 => by
    unfold rangedB at rg ⊢
    rw [e1, e2, e3, hh]
    exact rg
  have fm' : ∀ w', w'.op = w.op → w'.ty = w.ty → w'.n = w.n → w'.name = w.name → formB w' = true := fun w' e1 e2 e3 e4 => by
    unfold formB at fm ⊢
    rw [e1, e2, e3, e4]
    exact fm
  have hfm : ¬ formB w = false := by rw [fm]; simp
  have hrg : ¬ rangedB fs ls d w = false := by rw [rg]; simp
  unfold instrE at h
  rw [if_neg hfm, if_neg hrg] at h
  cases hw with
  | both q ho b o hb hr =>
    have c1 : ¬ (w.op = 11 ∨ w.op = 12) := by omega
    rw [if_neg c1, if_pos q, lb (by omega)] at h
    unfold instrE
    rw [fm' { w with body := b, other := o } rfl rfl rfl rfl, rg' { w with body := b, other := o } rfl rfl rfl]
    simp only [Bool.true_eq_false, if_false]
    rw [if_neg c1, if_pos q]
    cases ht : takeE [1] s with
    | error e => rw [ht] at h; cases h
    | ok s1 =>
      rw [ht] at h
      simp only at h ⊢
      rw [if_pos ho, lo q ho] at h
      rw [hR _ _ hb (lb (by omega))]
      simp only
      rw [if_pos (hRn _ _ hr).2, hR _ _ hr (lo q ho)]
      exact h
  | one q ho b hb =>
    have c1 : ¬ (w.op = 11 ∨ w.op = 12) := by omega
    rw [if_neg c1, if_pos q, lb (by omega)] at h
    unfold instrE
    rw [fm' { w with body := b } rfl rfl rfl rfl, rg' { w with body := b } rfl rfl rfl]
    simp only [Bool.true_eq_false, if_false]
    rw [if_neg c1, if_pos q]
    cases ht : takeE [1] s with
    | error e => rw [ht] at h; cases h
    | ok s1 =>
      rw [ht] at h
      simp only at h ⊢
      have c4 : ¬ 0 ≤ w.other := by omega
      rw [if_neg c4] at h
      rw [hR _ _ hb (lb (by omega))]
      simp only
      rw [if_neg c4]
      exact h
  | body q b hb =>
    have q' : w.op = 11 ∨ w.op = 12 := q
    rw [if_pos q', lb (by omega)] at h
    unfold instrE
    rw [fm' { w with body := b } rfl rfl rfl rfl, rg' { w with body := b } rfl rfl rfl]
    simp only [Bool.true_eq_false, if_false]
    rw [if_pos q', hR _ _ hb (lb (by omega))]
    exact h
  | same q =>
    have c1 : ¬ (w.op = 11 ∨ w.op = 12) := by omega
    have c2 : ¬ w.op = 13 := by omega
    rw [if_neg c1, if_neg c2] at h
    unfold instrE
    rw [fm' _ rfl rfl rfl rfl, rg' _ rfl rfl rfl]
    simp only [Bool.true_eq_false, if_false]
    rw [if_neg c1, if_neg c2]
    have e : plainE fs' ls w s = plainE fs ls w s := by unfold plainE; rw [hh]
    rw [e]
    exact h
theorem instrsE_snoc {w : W} : ∀ {ws : List W} {s s1 s2 : St}, instrsE fs ls ty d lk ws s = .ok s1 → instrE fs ls ty d lk w s1 = .ok s2 → instrsE fs ls ty d lk (ws ++ [w]) s = .ok s2
  | [], s, s1, s2, h1, h2 => by
    simp only [instrsE] at h1
    cases h1
    rw [List.nil_append, instrsE, h2]
    rfl
  | v :: ws, s, s1, s2, h1, h2 => by
    rw [instrsE] at h1
    rw [List.cons_append, instrsE]
    cases e : instrE fs ls ty d lk v s with
    | error q => rw [e] at h1; cases h1
    | ok s' => rw [e] at h1; exact instrsE_snoc h1 h2
theorem number_ne {t : Int} (h : numberB t = true) : t ≠ 0 := by
  simp [numberB] at h
  omega
theorem wrapT_bit (b : Prop) [Decidable b] : wrapT 1 (if b then 1 else 0) = if b then 1 else 0 := by
  split <;> decide
/-- a number, or a local, in the check -/
theorem pure_check (hnum : ls.all numberB = true) {p : W} (hp : p.op = 1 ∨ p.op = 2) {s s' : St} (h : instrE fs ls ty d lk p s = .ok s') : ∃ t, t ≠ 0 ∧ (p.op = 1 → t = p.ty) ∧ s' = { s with stack := s.stack ++ [t] } := by
  obtain ⟨rg, fm, _, _⟩ := instrE_facts h
  have hfm : ¬ formB p = false := by rw [fm]; simp
  have hrg : ¬ rangedB fs ls d p = false := by rw [rg]; simp
  unfold instrE at h
  rw [if_neg hfm, if_neg hrg, if_neg (by omega), if_neg (by omega), if_neg (by omega), if_neg (by omega), if_neg (by omega), if_neg (by omega)] at h
  unfold plainE at h
  rcases hp with h1 | h2
  · rw [if_pos h1] at h
    cases h
    have ht : p.ty ≠ 0 := number_ne (by simpa [formB, h1] using fm)
    exact ⟨p.ty, ht, fun _ => rfl, by unfold giveS; rw [if_neg ht]⟩
  · rw [if_neg (by omega), if_pos h2] at h
    cases h
    have hr : 0 ≤ p.n ∧ p.n < (ls.length : Int) := by simpa [rangedB, h2] using rg
    have hl : p.n.toNat < ls.length := by omega
    have ht : localAt ls p.n ≠ 0 := by
      unfold localAt
      rw [List.getD_eq_getElem?_getD, List.getElem?_eq_getElem hl]
      exact number_ne (List.all_eq_true.1 hnum _ (List.getElem_mem hl))
    exact ⟨_, ht, fun q => by omega, by unfold giveS; rw [if_neg ht]⟩
theorem take_one {s : St} {t : Int} : takeE [t] { s with stack := s.stack ++ [t] } = .ok s := by
  simp [takeE, dropE]
theorem take_one_ok {s s' : St} {t u : Int} (h : takeE [u] { s with stack := s.stack ++ [t] } = .ok s') : s' = s := by
  simp [takeE, dropE] at h
  split at h
  · cases h; rfl
  · cases h
/-- what is taken and given again -/
theorem returns_back {ty : Int} {s s1 : St} (ha : s.any = false) (h : returnsE ty s = .ok s1) : giveS s1 ty = s := by
  unfold returnsE at h
  by_cases h0 : ty = 0
  · rw [if_pos h0] at h
    cases h
    unfold giveS
    rw [if_pos h0]
  · rw [if_neg h0] at h
    simp only [takeE] at h
    split at h
    · rename_i hc
      unfold dropE at h
      by_cases hl : s.stack.length = 0
      · rw [if_pos hl, ha] at h
        simp at h
      · rw [if_neg hl] at h
        simp only at h
        cases h
        have hlast : s.stack.getLast? = some ty := by
          rcases hc with hc | hc
          · exact absurd hc hl
          · exact hc
        unfold giveS
        rw [if_neg h0]
        have hne : s.stack ≠ [] := by intro e; rw [e] at hl; exact hl rfl
        rw [List.getLast?_eq_some_getLast hne] at hlast
        have : s.stack.dropLast ++ [ty] = s.stack := by
          have h2 := List.dropLast_concat_getLast hne
          rw [Option.some.inj hlast] at h2
          exact h2
        cases s
        simp only [St.mk.injEq, and_true]
        exact this
    · cases h
/-- A LIST, MADE, IN THE CHECK: as it was; or it leaves. -/
theorem mkl_check (hh : headOf fs' = headOf fs) (hnum : ls.all numberB = true) {R : Int → Int → Prop} (hR : ∀ a b, R a b → lk a (d + 1) = .ok () → lk' b (d + 1) = .ok ()) (hRn : ∀ a b, R a b → 0 ≤ a ∧ 0 ≤ b) {ws l : List W} (hm : MkL R ws l) :
    ∀ s2, instrsE fs ls ty d lk ws ⟨[], false⟩ = .ok s2 → (instrsE fs' ls ty d lk' l ⟨[], false⟩ = .ok s2 ∧ s2.any = false) ∨ (instrsE fs' ls ty d lk' l ⟨[], false⟩ = .ok leftS ∧ ∃ l0 p, l = l0 ++ [p] ∧ leavesW p = true) := by
  have last : ∀ {l0 l : List W} {p q : W}, l ++ [p] = l0 ++ [q] → p = q := fun h => by
    have := congrArg List.getLast? h
    simpa using this
  induction hm with
  | nil => intro s2 h; simp only [instrsE] at h; cases h; exact .inl ⟨rfl, rfl⟩
  | @stop ws l p w hm hp ih =>
    intro s2 hi
    obtain ⟨s1, i1, i2⟩ := instrsE_append hi
    refine .inr ⟨?_, l, p, rfl, hp⟩
    rcases ih s1 i1 with ⟨e, _⟩ | ⟨e, _⟩
    · obtain ⟨sa, j1, j2⟩ := instrsE_append e
      rw [instrE_leaves j2 hp] at e
      exact e
    · exact e
  | @pair ws l p w two hm hp hpair ih =>
    intro s2 hi
    obtain ⟨s1, i1, i2⟩ := instrsE_append hi
    rcases ih s1 i1 with ⟨e, ha1⟩ | ⟨_, l0, q, e, hq⟩
    · obtain ⟨sa, j1, j2⟩ := instrsE_append e
      have hpop : p.op = 1 ∨ p.op = 2 := by
        cases hpair with
        | drop h _ => exact h
        | _ => exact .inl (by assumption)
      obtain ⟨t, ht0, ht, rfl⟩ := pure_check hnum hpop j2
      have haa : sa.any = false := ha1
      obtain ⟨rg, fm, lb, lo⟩ := instrE_facts i2
      have hfm : ¬ formB w = false := by rw [fm]; simp
      have hrg : ¬ rangedB fs ls d w = false := by rw [rg]; simp
      unfold instrE at i2
      rw [if_neg hfm, if_neg hrg] at i2
      cases hpair with
      | drop q1 q2 =>
        rw [if_neg (by omega), if_neg (by omega), if_neg (by omega), if_neg (by omega), if_neg (by omega), if_neg (by omega)] at i2
        have e2 : s2 = sa := by
          simp [plainE, q2, dropE] at i2
          exact i2.symm
        subst e2
        exact .inl ⟨by simpa using j1, haa⟩
      | eqz q1 q2 qt =>
        rw [if_neg (by omega), if_neg (by omega), if_neg (by omega), if_neg (by omega), if_neg (by omega), if_neg (by omega)] at i2
        have e2 : s2 = giveS sa 1 := by
          simp only [plainE, q2] at i2
          rw [if_neg (by omega), if_neg (by omega), if_neg (by omega), if_neg (by omega), if_pos trivial, ← qt, ← ht q1, take_one] at i2
          cases i2; rfl
        subst e2
        refine .inl ⟨instrsE_snoc j1 ?_, (giveS_len sa 1).1.trans haa⟩
        have w1 := wrapT_bit (p.n = 0)
        simp [instrE, formB, rangedB, plainE, numberB, w1]
      | stay q1 q2 qt qn =>
        rw [if_neg (by omega), if_neg (by omega), if_pos q2, ht q1, qt, take_one] at i2
        have e2 : s2 = sa := by
          simp only at i2
          split at i2
          · obtain ⟨sb, k1, k2⟩ := gives_ok i2
            rw [k2, returns_back haa k1]
          · cases i2; rfl
        subst e2
        exact .inl ⟨by simpa using j1, haa⟩
      | go q1 q2 qt qn =>
        rw [if_neg (by omega), if_neg (by omega), if_pos q2, ht q1, qt, take_one] at i2
        simp only at i2
        have hn : 0 ≤ w.n ∧ w.n ≤ d := by simpa [rangedB, q2] using rg
        refine .inr ⟨instrsE_snoc j1 ?_, l, _, rfl, rfl⟩
        have hf : formB ⟨14, 0, w.n, 0, 0, []⟩ = true := rfl
        have hr : rangedB fs' ls d ⟨14, 0, w.n, 0, 0, []⟩ = true := by simp [rangedB, hn]
        unfold instrE
        rw [hf, hr]
        simp only [Bool.true_eq_false, if_false]
        by_cases hd : w.n = d
        · rw [if_pos hd] at i2
          obtain ⟨sb, k1, k2⟩ := gives_ok i2
          simp [hd, k1]
        · simp [hd]
      | none q1 q2 qt qn =>
        rw [if_neg (by omega), if_pos q2, ht q1, qt, take_one] at i2
        have e2 : s2 = sa := by
          simp only at i2
          rw [lb (by omega)] at i2
          simp only at i2
          split at i2
          · split at i2
            · cases i2
            · cases i2; rfl
          · cases i2; rfl
        subst e2
        exact .inl ⟨by simpa using j1, haa⟩
      | block q1 q2 qt qn b hb =>
        rw [if_neg (by omega), if_pos q2, ht q1, qt, take_one] at i2
        have e2 : s2 = sa := by
          simp only at i2
          rw [lb (by omega)] at i2
          simp only at i2
          split at i2
          · split at i2
            · cases i2
            · cases i2; rfl
          · cases i2; rfl
        subst e2
        have hl : lk (if p.n = 0 then w.other else w.body) (d + 1) = .ok () := by
          by_cases hp0 : p.n = 0
          · rw [if_pos hp0] at qn ⊢; exact lo q2 qn
          · rw [if_neg hp0]; exact lb (by omega)
        refine .inl ⟨instrsE_snoc j1 ?_, haa⟩
        have hf : formB ⟨11, 0, 0, b, 0, []⟩ = true := rfl
        have hr : rangedB fs' ls d ⟨11, 0, 0, b, 0, []⟩ = true := by simp [rangedB]
        unfold instrE
        rw [hf, hr]
        simp [hR _ _ hb hl]
    · have := last e
      subst this
      rw [hp] at hq
      cases hq
  | @add ws l w w' hm hl hw ih =>
    intro s2 hi
    obtain ⟨s1, i1, i2⟩ := instrsE_append hi
    rcases ih s1 i1 with ⟨e, ha1⟩ | ⟨_, l0, q, e, hq⟩
    · have key := laid_check hh hR hRn hw i2
      have hlv : leavesW w' = leavesW w := by cases hw <;> rfl
      by_cases hp : leavesW w' = true
      · have := instrE_leaves key hp
        subst this
        exact .inr ⟨instrsE_snoc e key, l, w', rfl, hp⟩
      · exact .inl ⟨instrsE_snoc e key, instrE_any key (by simpa using hp) ha1⟩
    · have := hl q (by rw [e]; simp)
      rw [this] at hq
      cases hq
theorem end_left (ty d : Int) : endE ty d leftS = .ok () := by
  unfold endE
  by_cases hd : d = 0
  · rw [if_pos hd]
    unfold returnsE
    by_cases ht : ty = 0
    · rw [if_pos ht]; rfl
    · rw [if_neg ht]; rfl
  · rw [if_neg hd]; rfl
end
theorem mkn_look {fs fs' : List F} {ls : List Int} {ty : Int} {frm fin : To} (hh : headOf fs' = headOf fs) (hnum : ls.all numberB = true) : ∀ (K K' : Nat) (a n d : Int), MkN frm fin K a n → lookE fs ls ty frm K' a d = .ok () → lookE fs' ls ty fin K n d = .ok ()
  | 0, _, a, n, d, h, _ => h.elim
  | K + 1, 0, a, n, d, _, hl => by simp [lookE] at hl
  | K + 1, K' + 1, a, n, d, ⟨ha, hn, ws, l, hw, hl', hml⟩, hl => by
    rw [lookE] at hl ⊢
    rw [show frm.getD a.toNat [] = ws by rw [List.getD_eq_getElem?_getD, hw]; rfl] at hl
    rw [show fin.getD n.toNat [] = l by rw [List.getD_eq_getElem?_getD, hl']; rfl]
    cases hi : instrsE fs ls ty d (lookE fs ls ty frm K') ws ⟨[], false⟩ with
    | error e => rw [hi] at hl; cases hl
    | ok s =>
      rw [hi] at hl
      simp only at hl
      rcases mkl_check hh hnum (lk := lookE fs ls ty frm K') (lk' := lookE fs' ls ty fin K) (fun a b hab hk => mkn_look hh hnum K K' a b (d + 1) hab hk) (fun a b hab => hab.nonneg) hml s hi with ⟨e, _⟩ | ⟨e, _⟩
      · rw [e]; exact hl
      · rw [e]; exact end_left ty d
end Go.Proofs.YthifgodgfhbnfaaDoor
set_option linter.unusedSimpArgs false
set_option linter.unusedVariables false
namespace Go.Proofs.YthifgodgfhbnfaaDoor
open Go Go.Abs
/-- the lists from n on that were made, all named but those of S -/
def NamedBut (lo hi : Nat) (S : List Int) (named named' : List Bool) : Prop := named'.length = named.length ∧ ∀ i : Nat, named'.getD i true = if lo ≤ i ∧ i < hi ∧ (i : Int) ∉ S then true else named.getD i true
/-- none is named from here on -/
def Fresh (lo hi : Nat) (named : List Bool) : Prop := hi ≤ named.length ∧ ∀ i : Nat, lo ≤ i → i < hi → named.getD i true = false
theorem rowsE_append : ∀ (a b : To) (k : Nat) (n n1 n2 : List Bool), rowsE k a n = .ok n1 → rowsE (k + a.length) b n1 = .ok n2 → rowsE k (a ++ b) n = .ok n2
  | [], b, k, n, n1, n2, h1, h2 => by simp only [rowsE] at h1; cases h1; simpa using h2
  | l :: a, b, k, n, n1, n2, h1, h2 => by
    rw [List.cons_append, rowsE]
    rw [rowsE] at h1
    cases e : rowE (k : Int) l n with
    | error q => rw [e] at h1; cases h1
    | ok n' =>
      rw [e] at h1
      simp only at h1 ⊢
      refine rowsE_append a b (k + 1) n' n1 n2 h1 ?_
      rw [List.length_cons] at h2
      rw [show k + 1 + a.length = k + (a.length + 1) by omega]
      exact h2
theorem rowE_names (k : Int) : ∀ (ws : List W) (n : List Bool), rowE k ws n = namesE k (ws.flatMap namesL) n
  | [], n => rfl
  | w :: ws, n => by
    have app : ∀ (a b : List Int) (n : List Bool), namesE k (a ++ b) n = match namesE k a n with | .error e => .error e | .ok n' => namesE k b n' := by
      intro a
      induction a with
      | nil => intro b n; rfl
      | cons x a ih =>
        intro b n
        rw [List.cons_append, namesE, namesE]
        cases nameE k n x with
        | error e => rfl
        | ok n' => exact ih b n'
    rw [rowE, List.flatMap_cons, app]
    cases namesE k (namesL w) n with
    | error e => rfl
    | ok n' => exact rowE_names k ws n'
/-- the names of a list, all fresh -/
theorem namesE_all (hi : Nat) : ∀ (S : List Int) (named : List Bool), S.Nodup → (∀ x ∈ S, 0 ≤ x ∧ x < (hi : Int)) → hi ≤ named.length → (∀ x ∈ S, named.getD x.toNat true = false) →
    ∃ named', namesE (hi : Int) S named = .ok named' ∧ named'.length = named.length ∧ ∀ i : Nat, named'.getD i true = if (i : Int) ∈ S then true else named.getD i true
  | [], named, _, _, _, _ => ⟨named, rfl, rfl, fun i => by simp⟩
  | x :: S, named, hd, hin, hl, hf => by
    rw [List.nodup_cons] at hd
    have hx := hin x (by simp)
    have hfx := hf x (by simp)
    have e : nameE (hi : Int) named x = .ok (named.set x.toNat true) := by
      unfold nameE
      rw [if_pos ⟨hx.1, hx.2, hfx⟩]
    obtain ⟨named', h1, h2, h3⟩ := namesE_all hi S (named.set x.toNat true) hd.2 (fun y hy => hin y (by simp [hy])) (by simpa using hl) fun y hy => by
      rw [getD_set]
      have hy' := hin y (by simp [hy])
      have : y ≠ x := fun q => hd.1 (q ▸ hy)
      rw [if_neg (by omega)]
      exact hf y (by simp [hy])
    refine ⟨named', by rw [namesE, e]; exact h1, by simpa using h2, fun i => ?_⟩
    rw [h3 i, getD_set]
    by_cases q1 : (i : Int) ∈ S
    · rw [if_pos q1, if_pos (by simp [q1])]
    · rw [if_neg q1]
      by_cases q2 : i = x.toNat
      · have : (i : Int) = x := by omega
        rw [if_pos q2, if_pos (by simp [this])]
      · have : (i : Int) ≠ x := by omega
        rw [if_neg q2, if_neg (by simp [q1, this])]
/-- what a list-maker does for names: all that it makes is named, but the last one -/
def NamesOk (rec : Rec) : Prop := ∀ a to n to', rec a to = some (n, to') → ∃ new, to' = to ++ new ∧ n = (to ++ new).length - 1 ∧ new ≠ [] ∧ ∀ named, Fresh to.length (to ++ new).length named → ∃ named', rowsE to.length new named = .ok named' ∧ NamedBut to.length (to ++ new).length [n] named named'
/-- lists that were made ahead of a list, which names some of them -/
structure Ahd (lo : Nat) (mid : To) (S : List Int) : Prop where
  nd : S.Nodup
  inside : ∀ x ∈ S, (lo : Int) ≤ x ∧ x < (lo + mid.length : Nat)
  ok : ∀ named, Fresh lo (lo + mid.length) named → ∃ named', rowsE lo mid named = .ok named' ∧ NamedBut lo (lo + mid.length) S named named'
theorem Ahd.nil (lo : Nat) : Ahd lo [] [] := ⟨by simp, by simp, fun named _ => ⟨named, rfl, rfl, fun i => by rw [if_neg (by simp)]⟩⟩
theorem Ahd.add {rec : Rec} (hr : NamesOk rec) {to mid : To} {S : List Int} (h : Ahd to.length mid S) {a n : Int} {to' : To} (e : rec a (to ++ mid) = some (n, to')) : ∃ mid', to' = to ++ mid' ∧ Ahd to.length mid' (S ++ [n]) ∧ 0 ≤ n := by
  obtain ⟨new, rfl, hn, hne, hok⟩ := hr _ _ _ _ e
  have hpos : 0 < new.length := List.length_pos_iff.2 hne
  simp only [List.length_append] at hn hok
  refine ⟨mid ++ new, by simp, ⟨?_, ?_, fun named hf => ?_⟩, by omega⟩
  · rw [List.nodup_append]
    refine ⟨h.nd, by simp, fun x hx y hy q => ?_⟩
    simp at hy
    have := h.inside x hx
    subst hy
    rw [q] at this
    omega
  · intro x hx
    rcases List.mem_append.1 hx with hx | hx
    · have := h.inside x hx
      simp only [List.length_append]
      omega
    · simp at hx
      subst hx
      simp only [List.length_append]
      omega
  · simp only [List.length_append] at hf
    obtain ⟨n1, e1, l1, g1⟩ := h.ok named ⟨by have := hf.1; omega, fun i q1 q2 => hf.2 i q1 (by omega)⟩
    obtain ⟨n2, e2, l2, g2⟩ := hok n1 ⟨by rw [l1]; have := hf.1; omega, fun i q1 q2 => by
      rw [g1, if_neg (by omega)]
      exact hf.2 i (by omega) (by omega)⟩
    refine ⟨n2, rowsE_append mid new _ _ _ _ e1 e2, l2.trans l1, fun i => ?_⟩
    simp only [List.length_append]
    rw [g2, g1]
    have key : (to.length ≤ i ∧ i < to.length + (mid.length + new.length) ∧ (i : Int) ∉ S ++ [n]) ↔ ((to.length + mid.length ≤ i ∧ i < to.length + mid.length + new.length ∧ (i : Int) ∉ [n]) ∨ (to.length ≤ i ∧ i < to.length + mid.length ∧ (i : Int) ∉ S)) := by
      simp only [List.mem_append, List.mem_singleton, not_or]
      constructor
      · rintro ⟨a1, a2, a3, a4⟩
        by_cases q : i < to.length + mid.length
        · exact .inr ⟨a1, q, a3⟩
        · exact .inl ⟨by omega, by omega, a4⟩
      · rintro (⟨a1, a2, a4⟩ | ⟨a1, a2, a3⟩)
        · exact ⟨by omega, by omega, fun q => by have := h.inside _ q; omega, a4⟩
        · exact ⟨a1, by omega, a3, by omega⟩
    by_cases c2 : to.length + mid.length ≤ i ∧ i < to.length + mid.length + new.length ∧ (i : Int) ∉ [n]
    · rw [if_pos c2, if_pos (key.2 (.inl c2))]
    · rw [if_neg c2]
      by_cases c1 : to.length ≤ i ∧ i < to.length + mid.length ∧ (i : Int) ∉ S
      · rw [if_pos c1, if_pos (key.2 (.inr c1))]
      · rw [if_neg c1, if_neg (fun q => (key.1 q).elim c2 c1)]
theorem plists_ahd {rec : Rec} (hr : NamesOk rec) {to mid : To} {S : List Int} (h : Ahd to.length mid S) {w w' : W} {to' : To} (e : plists rec w (to ++ mid) = some (w', to')) : ∃ mid', to' = to ++ mid' ∧ Ahd to.length mid' (S ++ namesL w') := by
  unfold plists at e
  by_cases h13 : w.op = 13
  · rw [if_pos h13] at e
    cases e1 : rec w.body (to ++ mid) with
    | none => rw [e1] at e; cases e
    | some q =>
      obtain ⟨b, to1⟩ := q
      rw [e1] at e
      simp only at e
      obtain ⟨m1, rfl, A1, p1⟩ := h.add hr e1
      by_cases ho : 0 ≤ w.other
      · rw [if_pos ho] at e
        cases e2 : rec w.other (to ++ m1) with
        | none => rw [e2] at e; cases e
        | some q =>
          obtain ⟨o, to2⟩ := q
          rw [e2] at e
          simp only [Option.some.injEq, Prod.mk.injEq] at e
          obtain ⟨rfl, rfl⟩ := e
          obtain ⟨m2, rfl, A2, p2⟩ := A1.add hr e2
          refine ⟨m2, rfl, ?_⟩
          have hn : namesL { w with body := b, other := o } = [b, o] := by
            unfold namesL
            simp only
            rw [if_neg (by omega), if_pos h13]
          rw [hn]
          simpa using A2
      · rw [if_neg ho] at e
        simp only [Option.some.injEq, Prod.mk.injEq] at e
        obtain ⟨rfl, rfl⟩ := e
        refine ⟨m1, rfl, ?_⟩
        have hn : namesL { w with body := b } = [b] := by
          unfold namesL
          simp only
          rw [if_pos (by omega)]
        rw [hn]
        exact A1
  · rw [if_neg h13] at e
    by_cases h11 : w.op = 11 ∨ w.op = 12
    · rw [if_pos h11] at e
      cases e1 : rec w.body (to ++ mid) with
      | none => rw [e1] at e; cases e
      | some q =>
        obtain ⟨b, to1⟩ := q
        rw [e1] at e
        simp only [Option.some.injEq, Prod.mk.injEq] at e
        obtain ⟨rfl, rfl⟩ := e
        obtain ⟨m1, rfl, A1, p1⟩ := h.add hr e1
        refine ⟨m1, rfl, ?_⟩
        have hn : namesL { w with body := b } = [b] := by
          unfold namesL
          simp only
          rw [if_pos (by omega)]
        rw [hn]
        exact A1
    · rw [if_neg h11] at e
      simp only [Option.some.injEq, Prod.mk.injEq] at e
      obtain ⟨rfl, rfl⟩ := e
      refine ⟨mid, rfl, ?_⟩
      have hn : namesL w = [] := by unfold namesL; rw [if_neg (by omega), if_neg (by omega)]
      rw [hn, List.append_nil]
      exact h
theorem ptogether_ahd {rec : Rec} (hr : NamesOk rec) {to mid : To} {S : List Int} (h : Ahd to.length mid S) {p w : W} {two : List W} {is : Bool} {to' : To} (e : ptogether rec p w (to ++ mid) = some (two, is, to')) : ∃ mid', to' = to ++ mid' ∧ (is = true → (p.op = 1 ∨ p.op = 2) ∧ Ahd to.length mid' (S ++ two.flatMap namesL)) ∧ (is = false → mid' = mid) := by
  unfold ptogether at e
  simp only at e
  by_cases h1 : (p.op = 1 ∨ p.op = 2) ∧ w.op = 18
  · rw [if_pos h1] at e
    simp only [Option.some.injEq, Prod.mk.injEq] at e
    obtain ⟨rfl, rfl, rfl⟩ := e
    exact ⟨mid, rfl, fun _ => ⟨h1.1, by simpa using h⟩, fun _ => rfl⟩
  rw [if_neg h1] at e
  by_cases h2 : p.op = 1 ∧ w.op = 5
  · rw [if_pos h2] at e
    simp only [Option.some.injEq, Prod.mk.injEq] at e
    obtain ⟨rfl, rfl, rfl⟩ := e
    exact ⟨mid, rfl, fun _ => ⟨.inl h2.1, by simpa [namesL] using h⟩, fun _ => rfl⟩
  rw [if_neg h2] at e
  by_cases h3 : p.op = 1 ∧ w.op = 15
  · rw [if_pos h3] at e
    by_cases h4 : p.n = 0
    · rw [if_pos h4] at e
      simp only [Option.some.injEq, Prod.mk.injEq] at e
      obtain ⟨rfl, rfl, rfl⟩ := e
      exact ⟨mid, rfl, fun _ => ⟨.inl h3.1, by simpa using h⟩, fun _ => rfl⟩
    · rw [if_neg h4] at e
      simp only [Option.some.injEq, Prod.mk.injEq] at e
      obtain ⟨rfl, rfl, rfl⟩ := e
      exact ⟨mid, rfl, fun _ => ⟨.inl h3.1, by simpa [namesL] using h⟩, fun _ => rfl⟩
  rw [if_neg h3] at e
  by_cases h5 : p.op = 1 ∧ w.op = 13
  · rw [if_pos h5] at e
    by_cases h6 : (decide (p.op = 1) && decide (p.ty = 1)) = true
    · rw [if_pos h6] at e
      unfold pchosen at e
      simp only at e
      by_cases h7 : (if p.n = 0 then w.other else w.body) < 0
      · rw [if_pos h7] at e
        simp only [Option.some.injEq, Prod.mk.injEq] at e
        obtain ⟨rfl, rfl, rfl⟩ := e
        exact ⟨mid, rfl, fun _ => ⟨.inl h5.1, by simpa using h⟩, fun _ => rfl⟩
      · rw [if_neg h7] at e
        cases e1 : rec (if p.n = 0 then w.other else w.body) (to ++ mid) with
        | none => rw [e1] at e; cases e
        | some q =>
          obtain ⟨b, to1⟩ := q
          rw [e1] at e
          simp only [Option.some.injEq, Prod.mk.injEq] at e
          obtain ⟨rfl, rfl, rfl⟩ := e
          obtain ⟨m1, rfl, A1, p1⟩ := h.add hr e1
          exact ⟨m1, rfl, fun _ => ⟨.inl h5.1, by simpa [namesL] using A1⟩, fun h => by cases h⟩
    · rw [if_neg h6] at e
      simp only [Option.some.injEq, Prod.mk.injEq] at e
      obtain ⟨rfl, rfl, rfl⟩ := e
      exact ⟨mid, rfl, fun h => (by cases h), fun _ => rfl⟩
  rw [if_neg h5] at e
  simp only [Option.some.injEq, Prod.mk.injEq] at e
  obtain ⟨rfl, rfl, rfl⟩ := e
  exact ⟨mid, rfl, fun h => (by cases h), fun _ => rfl⟩
theorem ploop_ahd {rec : Rec} (hr : NamesOk rec) {to : To} : ∀ (vs l : List W) (mid : To) (l' : List W) (to' : To), Ahd to.length mid (l.flatMap namesL) → ploop rec vs l (to ++ mid) = some (l', to') → ∃ mid', to' = to ++ mid' ∧ Ahd to.length mid' (l'.flatMap namesL)
  | [], l, mid, l', to', h, e => by
    simp only [ploop, Option.some.injEq, Prod.mk.injEq] at e
    obtain ⟨rfl, rfl⟩ := e
    exact ⟨mid, rfl, h⟩
  | v :: vs, l, mid, l', to', h, e => by
    have add : (match plists rec v (to ++ mid) with | none => none | some (w', to2) => ploop rec vs (l ++ [w']) to2) = some (l', to') → ∃ mid', to' = to ++ mid' ∧ Ahd to.length mid' (l'.flatMap namesL) := by
      intro e
      cases e1 : plists rec v (to ++ mid) with
      | none => rw [e1] at e; cases e
      | some q =>
        obtain ⟨w', to2⟩ := q
        rw [e1] at e
        simp only at e
        obtain ⟨m1, rfl, A1⟩ := plists_ahd hr h e1
        exact ploop_ahd hr vs (l ++ [w']) m1 l' to' (by simpa using A1) e
    rw [ploop] at e
    cases hl : l.getLast? with
    | none => rw [hl] at e; exact add e
    | some p =>
      rw [hl] at e
      simp only at e
      have hsn := snoc_of_last hl
      by_cases hp : leavesW p = true
      · rw [if_pos hp] at e
        simp only [Option.some.injEq, Prod.mk.injEq] at e
        obtain ⟨rfl, rfl⟩ := e
        exact ⟨mid, rfl, h⟩
      · rw [if_neg hp] at e
        cases e1 : ptogether rec p v (to ++ mid) with
        | none => rw [e1] at e; cases e
        | some q =>
          obtain ⟨two, is, to1⟩ := q
          rw [e1] at e
          simp only at e
          obtain ⟨m1, rfl, hA, hz⟩ := ptogether_ahd hr h e1
          cases is with
          | true =>
            rw [if_pos rfl] at e
            obtain ⟨hop, A1⟩ := hA rfl
            refine ploop_ahd hr vs (l.dropLast ++ two) m1 l' to' ?_ e
            have hnp : namesL p = [] := by unfold namesL; rw [if_neg (by omega), if_neg (by omega)]
            rw [hsn] at A1
            simpa [hnp] using A1
          | false =>
            rw [if_neg (by simp)] at e
            rw [hz rfl] at e
            exact add e
theorem plist_names (frm : To) : ∀ k, NamesOk (plist frm k)
  | 0 => fun a to n to' h => by simp [plist] at h
  | k + 1 => fun a to n to' h => by
    rw [plist] at h
    by_cases ha : a < 0
    · rw [if_pos ha] at h; cases h
    rw [if_neg ha] at h
    cases hw : frm[a.toNat]? with
    | none => rw [hw] at h; cases h
    | some ws =>
      rw [hw] at h
      simp only at h
      cases e : ploop (plist frm k) ws [] to with
      | none => rw [e] at h; cases h
      | some q =>
        obtain ⟨l, to1⟩ := q
        rw [e] at h
        simp only [Option.some.injEq, Prod.mk.injEq] at h
        obtain ⟨rfl, rfl⟩ := h
        obtain ⟨mid, rfl, A⟩ := ploop_ahd (plist_names frm k) (to := to) ws [] [] l to1 (Ahd.nil _) (by simpa using e)
        refine ⟨mid ++ [l], by simp, by simp; omega, by simp, fun named hf => ?_⟩
        simp only [List.length_append, List.length_cons, List.length_nil] at hf ⊢
        obtain ⟨n1, e1, l1, g1⟩ := A.ok named ⟨by have := hf.1; omega, fun i q1 q2 => hf.2 i q1 (by omega)⟩
        obtain ⟨n2, e2, l2, g2⟩ := namesE_all (to.length + mid.length) (l.flatMap namesL) n1 A.nd (fun x hx => by have := A.inside x hx; omega) (by rw [l1]; have := hf.1; omega) fun x hx => by
          have hx' := A.inside x hx
          rw [g1, if_neg (fun q => q.2.2 (by rw [show ((x.toNat : Nat) : Int) = x by omega]; exact hx))]
          exact hf.2 _ (by omega) (by omega)
        refine ⟨n2, rowsE_append mid [l] _ _ _ _ e1 ?_, l2.trans l1, fun i => ?_⟩
        · rw [rowsE, rowE_names, e2]; rfl
        · rw [g2, g1]
          by_cases q1 : (i : Int) ∈ l.flatMap namesL
          · have := A.inside _ q1
            rw [if_pos q1, if_pos ⟨by omega, by omega, by simp; omega⟩]
          · rw [if_neg q1]
            by_cases q2 : to.length ≤ i ∧ i < to.length + mid.length
            · rw [if_pos ⟨q2.1, q2.2, q1⟩, if_pos ⟨q2.1, by omega, by simp; omega⟩]
            · rw [if_neg (fun q => q2 ⟨q.1, q.2.1⟩)]
              by_cases q3 : i = to.length + mid.length
              · rw [if_neg (by simp; omega)]
              · rw [if_neg (by omega)]
/-- the lists that are made of a function's last one are named, each once -/
theorem made_lists {frm fin : To} {k : Nat} {a n : Int} (h : plist frm k a [] = some (n, fin)) : listsE fin = .ok () := by
  obtain ⟨new, e, hn, hne, hok⟩ := plist_names frm k a [] n fin h
  rw [List.nil_append] at e hn hok
  subst e
  obtain ⟨named', e1, l1, g1⟩ := hok (List.replicate fin.length false) ⟨by simp, fun i _ hi => by
    rw [List.getD_eq_getElem?_getD, List.getElem?_replicate, if_pos hi]; rfl⟩
  have hpos : 0 < fin.length := List.length_pos_iff.2 hne
  unfold listsE
  rw [if_neg (by omega)]
  rw [show rowsE 0 fin (List.replicate fin.length false) = .ok named' from e1]
  simp only
  have hall : ((named'.take (fin.length - 1)).all fun x => x == true) = true := by
    rw [List.all_eq_true]
    intro b hb
    obtain ⟨i, hi, rfl⟩ := List.mem_iff_getElem.1 hb
    have hi' : i < fin.length - 1 := by simp at hi; omega
    have hlt : i < named'.length := by rw [l1]; simp; omega
    have g := g1 i
    rw [if_pos ⟨by simp, by omega, by simp; omega⟩, List.getD_eq_getElem?_getD, List.getElem?_eq_getElem hlt] at g
    rw [List.getElem_take]
    simpa using g
  rw [if_pos hall]
end Go.Proofs.YthifgodgfhbnfaaDoor
set_option linter.unusedSimpArgs false
set_option linter.unusedVariables false
namespace Go.Proofs.YthifgodgfhbnfaaDoor
open Go Go.Abs
theorem laid_self {w : W} {R : Int → Int → Prop} (h : ∀ m ∈ namesL w, R m m) : LaidP R w w := by
  by_cases h13 : w.op = 13
  · by_cases ho : 0 ≤ w.other
    · have hn : namesL w = [w.body, w.other] := by unfold namesL; rw [if_neg (by omega), if_pos h13]
      rw [hn] at h
      exact .both h13 ho w.body w.other (h _ (by simp)) (h _ (by simp))
    · have hn : namesL w = [w.body] := by unfold namesL; rw [if_pos (by omega)]
      rw [hn] at h
      exact .one h13 (by omega) w.body (h _ (by simp))
  · by_cases h11 : w.op = 11 ∨ w.op = 12
    · have hn : namesL w = [w.body] := by unfold namesL; rw [if_pos (by omega)]
      rw [hn] at h
      exact .body h11 w.body (h _ (by simp))
    · exact .same (by omega)
theorem instrsE_look {fs : List F} {ls : List Int} {ty d : Int} {lk lk' : Look} : ∀ (ws : List W) (s s' : St), (∀ w ∈ ws, ∀ m ∈ namesL w, 0 ≤ m ∧ (lk m (d + 1) = .ok () → lk' m (d + 1) = .ok ())) → instrsE fs ls ty d lk ws s = .ok s' → instrsE fs ls ty d lk' ws s = .ok s'
  | [], s, s', _, h => h
  | w :: ws, s, s', hl, h => by
    rw [instrsE] at h ⊢
    cases e : instrE fs ls ty d lk w s with
    | error q => rw [e] at h; cases h
    | ok s1 =>
      rw [e] at h
      have key := laid_check (fs := fs) (fs' := fs) (lk' := lk') rfl (R := fun a b => a = b ∧ 0 ≤ a ∧ (lk a (d + 1) = .ok () → lk' a (d + 1) = .ok ())) (fun a b hab hk => by rw [← hab.1]; exact hab.2.2 hk) (fun a b hab => ⟨hab.2.1, hab.1 ▸ hab.2.1⟩) (laid_self fun m hm => ⟨rfl, hl w (by simp) m hm⟩) e
      rw [key]
      exact instrsE_look ws s1 s' (fun w hw => hl w (by simp [hw])) h
theorem lookE_fuel {fs : List F} {ls : List Int} {ty : Int} {lists : To} (ha : Ahead lists) : ∀ (K2 K : Nat) (a d : Int), 0 ≤ a → a.toNat < K2 → lookE fs ls ty lists K a d = .ok () → lookE fs ls ty lists K2 a d = .ok ()
  | 0, _, a, d, _, h, _ => by omega
  | K2 + 1, 0, a, d, _, _, h => by simp [lookE] at h
  | K2 + 1, K + 1, a, d, h0, h1, h => by
    rw [lookE] at h ⊢
    cases hi : instrsE fs ls ty d (lookE fs ls ty lists K) (lists.getD a.toNat []) ⟨[], false⟩ with
    | error e => rw [hi] at h; cases h
    | ok s =>
      rw [hi] at h
      have key := instrsE_look (lk' := lookE fs ls ty lists K2) (lists.getD a.toNat []) ⟨[], false⟩ s (fun w hw m hm => by
        cases hr : lists[a.toNat]? with
        | none => rw [List.getD_eq_getElem?_getD, hr] at hw; simp at hw
        | some row =>
          rw [List.getD_eq_getElem?_getD, hr] at hw
          have hq := ha a.toNat row hr m (List.mem_flatMap.2 ⟨w, hw, hm⟩)
          exact ⟨hq.1, fun hk => lookE_fuel ha K2 K m (d + 1) hq.1 (by omega) hk⟩) hi
      rw [key]
      exact h
theorem peepF_ok {fs fs' : List F} (hh : headOf fs' = headOf fs) {k : Nat} {f f' : F} (hv : functionE fs f = .ok ()) (hp : peepF k f = some f') : functionE fs' f' = .ok () ∧ Cor f f' := by
  unfold peepF at hp
  cases e : plist f.lists k ((f.lists.length : Int) - 1) [] with
  | none => rw [e] at hp; cases hp
  | some q =>
    obtain ⟨n, fin⟩ := q
    rw [e] at hp
    simp only [Option.some.injEq] at hp
    subst hp
    obtain ⟨new, e1, hn, hne, hmk⟩ := plist_mkn f.lists k _ [] n fin e
    rw [List.nil_append] at e1 hn
    subst e1
    have hM := hmk fin (List.prefix_refl _)
    have hlen : 0 < fin.length := List.length_pos_iff.2 hne
    refine ⟨?_, ⟨rfl, rfl, rfl, k, by rw [hn] at hM; exact hM⟩⟩
    have hL := made_lists e
    have hah := (listsE_ok hL).2.1
    obtain ⟨K', hK'⟩ := functionE_look hv
    have hhead : (f.params ++ f.locals).all numberB = true ∧ ((f.params ++ f.locals).all numberB && decide (0 ≤ f.type) && decide (f.type ≤ 2)) = true := by
      unfold functionE at hv
      split at hv
      · cases hv
      · rename_i q
        simp only [Bool.not_eq_false] at q
        refine ⟨?_, q⟩
        simp only [Bool.and_eq_true] at q
        exact q.1.1
    have hlook := mkn_look (fs := fs) (fs' := fs') (ls := f.params ++ f.locals) (ty := f.type) hh hhead.1 k K' _ n 0 hM hK'
    unfold functionE
    rw [if_neg (by rw [hhead.2]; simp), hL]
    rw [hn] at hlook
    exact lookE_fuel hah fin.length k ((fin.length : Int) - 1) 0 (by omega) (by omega) hlook
theorem peepFs_get {k : Nat} : ∀ {fs fs' : List F}, peepFs k fs = some fs' → fs'.length = fs.length ∧ ∀ (i : Nat) g, fs[i]? = some g → ∃ g', fs'[i]? = some g' ∧ peepF k g = some g'
  | [], fs', h => by simp [peepFs] at h; subst h; simp
  | f :: fs, fs', h => by
    rw [peepFs] at h
    cases e : peepF k f with
    | none => rw [e] at h; cases h
    | some f1 =>
      rw [e] at h
      simp only at h
      cases e2 : peepFs k fs with
      | none => rw [e2] at h; cases h
      | some fs1 =>
        rw [e2] at h
        simp only [Option.some.injEq] at h
        subst h
        obtain ⟨hl, hg⟩ := peepFs_get e2
        refine ⟨by simp [hl], fun i g hi => ?_⟩
        cases i with
        | zero => simp at hi; subst hi; exact ⟨f1, by simp, e⟩
        | succ i => simpa using hg i g (by simpa using hi)
theorem peepF_heads {k : Nat} {f f' : F} (hp : peepF k f = some f') : f'.params = f.params ∧ f'.type = f.type ∧ f'.locals = f.locals ∧ f'.name = f.name := by
  unfold peepF at hp
  cases e : plist f.lists k ((f.lists.length : Int) - 1) [] with
  | none => rw [e] at hp; cases hp
  | some q =>
    rw [e] at hp
    cases hp
    exact ⟨rfl, rfl, rfl, rfl⟩
theorem functionsE_of {fs : List F} : ∀ {r : List F}, (∀ f ∈ r, functionE fs f = .ok ()) → functionsE fs r = .ok ()
  | [], _ => rfl
  | f :: r, h => by
    rw [functionsE, h f (by simp)]
    exact functionsE_of fun g hg => h g (by simp [hg])
/-- WHAT PEEP MAKES OF A VALID MODULE IS VALID. -/
theorem peep_valid {m : M} {k : Nat} {fs' : List F} (hc : checkE m = .ok ()) (hp : peepFs k m.funcs = some fs') : checkE ⟨fs', m.memory, m.main⟩ = .ok () ∧ CorFs m.funcs fs' := by
  obtain ⟨hl, hg⟩ := peepFs_get hp
  have hv := checkE_functions hc
  have hh : headOf fs' = headOf m.funcs := by
    funext n
    unfold headOf
    split
    · rfl
    split
    · rfl
    split
    · rfl
    split
    · rfl
    cases hi : m.funcs[(n - 3).toNat]? with
    | none =>
      rw [List.getElem?_eq_none_iff] at hi
      rw [List.getElem?_eq_none (by omega)]
    | some g =>
      obtain ⟨g', h1, h2⟩ := hg _ _ hi
      obtain ⟨h3, h4, _, _⟩ := peepF_heads h2
      rw [h1]
      simp [h3, h4]
  have hfn : ∀ f ∈ fs', functionE fs' f = .ok () := fun f hf => by
    obtain ⟨i, hi, rfl⟩ := List.mem_iff_getElem.1 hf
    have hi' : i < m.funcs.length := by omega
    obtain ⟨g', h1, h2⟩ := hg i _ (List.getElem?_eq_getElem hi')
    rw [List.getElem?_eq_getElem hi] at h1
    cases h1
    exact (peepF_ok hh (hv _ (List.getElem_mem hi')) h2).1
  refine ⟨?_, fun i g hi => ?_⟩
  · obtain ⟨m0, m1⟩ := check_memory hc
    obtain ⟨q0, g, q1, q2, q3⟩ := check_main hc
    obtain ⟨g', h1, h2⟩ := hg _ _ q1
    obtain ⟨h3, h4, _, _⟩ := peepF_heads h2
    unfold checkE
    simp only
    rw [if_neg (by simp [m0, m1]), functionsE_of hfn]
    simp only
    have hmain : mainB ⟨fs', m.memory, m.main⟩ = true := by
      unfold mainB
      simp only
      rw [h1]
      simp [q0, h3, h4, q2, q3]
    rw [if_pos hmain]
  · obtain ⟨g', h1, h2⟩ := hg i g hi
    have hgv := hv g (List.mem_of_getElem? hi)
    exact ⟨hgv, g', h1, (peepF_ok hh hgv h2).2⟩
/-- one module does what another does, in no more steps -/
def Better (m m' : M) : Prop := ∀ (input : List Int) (steps : Int) o s c o' s' c', runM m input steps (steps.toNat + 1) = some (o, s, c) → runM m' input steps (steps.toNat + 1) = some (o', s', c') → o <+: o' ∧ (s ≠ 3 → o' = o ∧ s' = s ∧ c' = c)
theorem Better.refl (m : M) : Better m m := fun input steps o s c o' s' c' h h' => by
  rw [h] at h'
  cases h'
  exact ⟨List.prefix_refl _, fun _ => ⟨rfl, rfl, rfl⟩⟩
theorem Better.trans {a b c : M} (h : Better a b) (hb : checkE b = .ok ()) (k : Better b c) : Better a c := fun input steps o s q o' s' q' h1 h2 => by
  obtain ⟨o1, s1, c1, hr, _⟩ := runM_sound hb input steps (steps.toNat + 1) (by omega)
  obtain ⟨p1, e1⟩ := h input steps _ _ _ _ _ _ h1 hr
  obtain ⟨p2, e2⟩ := k input steps _ _ _ _ _ _ hr h2
  refine ⟨p1.trans p2, fun hs => ?_⟩
  obtain ⟨rfl, rfl, rfl⟩ := e1 hs
  exact e2 hs
theorem peep_better {m : M} {k : Nat} {fs' : List F} (hc : checkE m = .ok ()) (hp : peepFs k m.funcs = some fs') : Better m ⟨fs', m.memory, m.main⟩ := fun input steps o s c o' s' c' h h' =>
  runM_sim (m' := ⟨fs', m.memory, m.main⟩) (peep_valid hc hp).2 rfl rfl hc h h'
end Go.Proofs.YthifgodgfhbnfaaDoor
set_option linter.unusedSimpArgs false
set_option linter.unusedVariables false
namespace Go.Proofs.YthifgodgfhbnfaaDoor
open Go Go.Abs
def NumL (l : List W) : Prop := ∀ w ∈ l, w.n ≤ 2 ^ 63 - 1
def NumR (rec : Rec) : Prop := ∀ a to n to', rec a to = some (n, to') → (∀ r ∈ to, NumL r) → ∀ r ∈ to', NumL r
theorem plists_num {rec : Rec} (hr : NumR rec) {w w' : W} {to to' : To} (h : plists rec w to = some (w', to')) (ht : ∀ r ∈ to, NumL r) : w'.n = w.n ∧ ∀ r ∈ to', NumL r := by
  unfold plists at h
  split at h
  · cases e1 : rec w.body to with
    | none => rw [e1] at h; cases h
    | some q =>
      obtain ⟨b, to1⟩ := q
      rw [e1] at h
      simp only at h
      have h1 := hr _ _ _ _ e1 ht
      split at h
      · cases e2 : rec w.other to1 with
        | none => rw [e2] at h; cases h
        | some q =>
          obtain ⟨o, to2⟩ := q
          rw [e2] at h
          simp only [Option.some.injEq, Prod.mk.injEq] at h
          obtain ⟨rfl, rfl⟩ := h
          exact ⟨rfl, hr _ _ _ _ e2 h1⟩
      · simp only [Option.some.injEq, Prod.mk.injEq] at h
        obtain ⟨rfl, rfl⟩ := h
        exact ⟨rfl, h1⟩
  · split at h
    · cases e1 : rec w.body to with
      | none => rw [e1] at h; cases h
      | some q =>
        obtain ⟨b, to1⟩ := q
        rw [e1] at h
        simp only [Option.some.injEq, Prod.mk.injEq] at h
        obtain ⟨rfl, rfl⟩ := h
        exact ⟨rfl, hr _ _ _ _ e1 ht⟩
    · simp only [Option.some.injEq, Prod.mk.injEq] at h
      obtain ⟨rfl, rfl⟩ := h
      exact ⟨rfl, ht⟩
theorem ptogether_num {rec : Rec} (hr : NumR rec) {p w : W} {to to' : To} {two : List W} {is : Bool} (h : ptogether rec p w to = some (two, is, to')) (hw : w.n ≤ 2 ^ 63 - 1) (ht : ∀ r ∈ to, NumL r) : NumL two ∧ ∀ r ∈ to', NumL r := by
  unfold ptogether at h
  simp only at h
  split at h
  · simp only [Option.some.injEq, Prod.mk.injEq] at h
    obtain ⟨rfl, rfl, rfl⟩ := h
    exact ⟨by intro w hw; simp at hw, ht⟩
  split at h
  · simp only [Option.some.injEq, Prod.mk.injEq] at h
    obtain ⟨rfl, rfl, rfl⟩ := h
    refine ⟨?_, ht⟩
    intro w hw
    simp at hw
    subst hw
    simp only
    split <;> omega
  split at h
  · split at h
    · simp only [Option.some.injEq, Prod.mk.injEq] at h
      obtain ⟨rfl, rfl, rfl⟩ := h
      exact ⟨by intro w hw; simp at hw, ht⟩
    · simp only [Option.some.injEq, Prod.mk.injEq] at h
      obtain ⟨rfl, rfl, rfl⟩ := h
      refine ⟨?_, ht⟩
      intro q hq
      simp at hq
      subst hq
      exact hw
  split at h
  · split at h
    · unfold pchosen at h
      simp only at h
      split at h
      · cases h
      · rename_i l to1 e
        simp only [Option.some.injEq, Prod.mk.injEq] at h
        obtain ⟨rfl, rfl, rfl⟩ := h
        by_cases q : (if p.n = 0 then w.other else w.body) < 0
        · rw [if_pos q] at e
          simp only [Option.some.injEq, Prod.mk.injEq] at e
          obtain ⟨rfl, rfl⟩ := e
          exact ⟨by intro w hw; simp at hw, ht⟩
        · rw [if_neg q] at e
          cases e2 : rec (if p.n = 0 then w.other else w.body) to with
          | none => rw [e2] at e; cases e
          | some q =>
            obtain ⟨b, to2⟩ := q
            rw [e2] at e
            simp only [Option.some.injEq, Prod.mk.injEq] at e
            obtain ⟨rfl, rfl⟩ := e
            refine ⟨?_, hr _ _ _ _ e2 ht⟩
            intro w hw
            simp at hw
            subst hw
            simp
    · simp only [Option.some.injEq, Prod.mk.injEq] at h
      obtain ⟨rfl, rfl, rfl⟩ := h
      exact ⟨by intro w hw; simp at hw, ht⟩
  · simp only [Option.some.injEq, Prod.mk.injEq] at h
    obtain ⟨rfl, rfl, rfl⟩ := h
    exact ⟨by intro w hw; simp at hw, ht⟩
theorem ploop_num {rec : Rec} (hr : NumR rec) : ∀ (vs l : List W) (to : To) (l' : List W) (to' : To), ploop rec vs l to = some (l', to') → NumL vs → NumL l → (∀ r ∈ to, NumL r) → NumL l' ∧ ∀ r ∈ to', NumL r
  | [], l, to, l', to', h, _, hl, ht => by
    simp only [ploop, Option.some.injEq, Prod.mk.injEq] at h
    obtain ⟨rfl, rfl⟩ := h
    exact ⟨hl, ht⟩
  | v :: vs, l, to, l', to', h, hv, hl, ht => by
    have hvs : NumL vs := fun w hw => hv w (by simp [hw])
    have hv1 := hv v (by simp)
    have add : ∀ to1, (∀ r ∈ to1, NumL r) → (match plists rec v to1 with | none => none | some (w', to2) => ploop rec vs (l ++ [w']) to2) = some (l', to') → NumL l' ∧ ∀ r ∈ to', NumL r := by
      intro to1 ht1 e
      cases e1 : plists rec v to1 with
      | none => rw [e1] at e; cases e
      | some q =>
        obtain ⟨w', to2⟩ := q
        rw [e1] at e
        simp only at e
        obtain ⟨h1, h2⟩ := plists_num hr e1 ht1
        refine ploop_num hr vs (l ++ [w']) to2 l' to' e hvs ?_ h2
        intro w hw
        rcases List.mem_append.1 hw with hw | hw
        · exact hl w hw
        · simp at hw; subst hw; rw [h1]; exact hv1
    rw [ploop] at h
    split at h
    · exact add to ht h
    · split at h
      · simp only [Option.some.injEq, Prod.mk.injEq] at h
        obtain ⟨rfl, rfl⟩ := h
        exact ⟨hl, ht⟩
      · split at h
        · cases h
        · rename_i two is to1 e1
          obtain ⟨h1, h2⟩ := ptogether_num hr e1 hv1 ht
          split at h
          · refine ploop_num hr vs (l.dropLast ++ two) to1 l' to' h hvs ?_ h2
            intro w hw
            rcases List.mem_append.1 hw with hw | hw
            · exact hl w (List.dropLast_subset _ hw)
            · exact h1 w hw
          · exact add to1 h2 h
theorem plist_num {frm : To} (hf : ∀ r ∈ frm, NumL r) : ∀ k, NumR (plist frm k)
  | 0 => fun a to n to' h => by simp [plist] at h
  | k + 1 => fun a to n to' h ht => by
    rw [plist] at h
    split at h
    · cases h
    · split at h
      · cases h
      · rename_i ws hw
        split at h
        · cases h
        · rename_i l to1 e
          simp only [Option.some.injEq, Prod.mk.injEq] at h
          obtain ⟨rfl, rfl⟩ := h
          obtain ⟨h1, h2⟩ := ploop_num (plist_num hf k) ws [] to l to1 e (hf ws (List.mem_of_getElem? hw)) (by intro w hw; simp at hw) ht
          intro r hr
          rcases List.mem_append.1 hr with hr | hr
          · exact h2 r hr
          · simp at hr; subst hr; exact h1
/-- sizes that stay -/
structure SzF (f : F) : Prop where
  params : f.params.length ≤ 3000
  locals : f.locals.length ≤ 3000
  lists : f.lists.length ≤ 300
  size : sumC id f.lists ≤ 900000
  nums : ∀ r ∈ f.lists, NumL r
structure SzM (m : M) : Prop where
  funcs : m.funcs.length ≤ 12
  each : ∀ f ∈ m.funcs, SzF f
theorem SzM.small {m : M} (h : SzM m) : Small m ∧ OkFs m.funcs := by
  have row : ∀ f ∈ m.funcs, ∀ l ∈ f.lists, l.length ≤ 900000 := fun f hf l hl => Nat.le_trans (sumC_mem hl) (h.each f hf).size
  refine ⟨⟨by have := h.funcs; omega, fun f hf => by have := (h.each f hf).params; omega, fun f hf => by have := (h.each f hf).locals; omega, fun f hf => by have := (h.each f hf).lists; omega, fun f hf l hl => by have := row f hf l hl; omega, fun f hf l hl w hw => (h.each f hf).nums l hl w hw⟩, fun f hf => ⟨by have := (h.each f hf).params; omega, by have := (h.each f hf).locals; omega, by have := (h.each f hf).lists; omega, fun l hl => by have := row f hf l hl; omega, fun l hl w hw => (h.each f hf).nums l hl w hw⟩⟩
theorem all2_right {α β : Type} {R : α → β → Prop} {xs : List α} {ys : List β} (h : All2 R xs ys) : ∀ y ∈ ys, ∃ x ∈ xs, R x y := by
  induction h with
  | nil => simp
  | cons h r ih =>
    intro y hy
    rcases List.mem_cons.1 hy with rfl | hy
    · exact ⟨_, by simp, h⟩
    · obtain ⟨x, hx, hr⟩ := ih y hy
      exact ⟨x, by simp [hx], hr⟩
theorem peepFs_num {k : Nat} : ∀ {fs fs' : List F}, peepFs k fs = some fs' → (∀ f ∈ fs, ∀ r ∈ f.lists, NumL r) → ∀ f ∈ fs', ∀ r ∈ f.lists, NumL r
  | [], fs', h, _ => by simp [peepFs] at h; subst h; simp
  | f :: fs, fs', h, hn => by
    rw [peepFs] at h
    cases e : peepF k f with
    | none => rw [e] at h; cases h
    | some f1 =>
      rw [e] at h
      simp only at h
      cases e2 : peepFs k fs with
      | none => rw [e2] at h; cases h
      | some fs1 =>
        rw [e2] at h
        simp only [Option.some.injEq] at h
        subst h
        intro g hg
        rcases List.mem_cons.1 hg with rfl | hg
        · unfold peepF at e
          cases e3 : plist f.lists k ((f.lists.length : Int) - 1) [] with
          | none => rw [e3] at e; cases e
          | some q =>
            obtain ⟨n, to⟩ := q
            rw [e3] at e
            cases e
            exact plist_num (hn f (by simp)) k _ _ _ _ e3 (by simp)
        · exact peepFs_num e2 (fun f hf => hn f (by simp [hf])) g hg
/-- ONE ROUND OF PEEP. -/
theorem peep_round {m : M} (hc : checkE m = .ok ()) (hs : SzM m) : (∀ f ∈ m.funcs, FOk 300 f) ∧ ∃ fs', peepFs 300 m.funcs = some fs' ∧ checkE ⟨fs', m.memory, m.main⟩ = .ok () ∧ SzM ⟨fs', m.memory, m.main⟩ ∧ Better m ⟨fs', m.memory, m.main⟩ := by
  have hv := checkE_functions hc
  have hl : ∀ f ∈ m.funcs, listsE f.lists = .ok () ∧ f.lists.length ≤ 300 := fun f hf => ⟨functionE_lists (hv f hf), (hs.each f hf).lists⟩
  obtain ⟨fs', hp, hless⟩ := peepFs_less 300 m.funcs hl
  refine ⟨fun f hf => ?_, fs', hp, (peep_valid hc hp).1, ⟨?_, fun f hf => ?_⟩, peep_better hc hp⟩
  · obtain ⟨n, to, e, e1, _, _⟩ := peep_lists (hl f hf).1 300 (hl f hf).2
    have q := hs.each f hf
    exact ⟨by have := q.params; omega, by have := q.locals; omega, fun ws hw => by have := sumC_mem hw; have := q.size; omega, by have := q.lists; omega, n, to, e, by have := q.lists; omega⟩
  · have := hless.length
    have := hs.funcs
    simp only
    omega
  · obtain ⟨f0, hf0, hle⟩ := all2_right hless f hf
    have q := hs.each f0 hf0
    exact ⟨by rw [hle.params]; exact q.params, by rw [hle.locals]; exact q.locals, Nat.le_trans hle.lists q.lists, Nat.le_trans hle.size q.size, peepFs_num hp (fun f hf => (hs.each f hf).nums) f hf⟩
end Go.Proofs.YthifgodgfhbnfaaDoor
set_option linter.unusedSimpArgs false
set_option linter.unusedVariables false
namespace Go.Proofs.YthifgodgfhbnfaaDoor
open Go Go.Abs
/-- a list that is made -/
def OutG (τ : AS) (base sz : Nat) (v : AV) (ys : List AV) : Prop := (ys = [] ∧ v = .nilsl) ∨ ∃ g, v = .sl (.fam g false) sz ys ∧ base ≤ g ∧ g < τ.nf ∧ τ.F g = .alive
theorem OutG.keep {τ τ' : AS} {base sz : Nat} {v : AV} {ys : List AV} (h : OutG τ base sz v ys) (A : Adds τ τ') : OutG τ' base sz v ys := by
  rcases h with h | ⟨g, rfl, h1, h2, h3⟩
  · exact .inl h
  · have := A.nf
    exact .inr ⟨g, rfl, h1, by omega, (A.fam g h2).trans h3⟩
def CpI (sz : Nat) (v : AV) (xs : List AV) (σ : AS) (a : Nat → AV) (τ : AS) : Prop := ∃ i : Nat, i ≤ xs.length ∧ a 0 = v ∧ a 4 = .int .i64 (i : Int) ∧ OutG τ σ.nf sz (a 3) (xs.take i) ∧ Adds σ τ
theorem take_snoc {α : Type} {l : List α} {i : Nat} {x : α} (h : l[i]? = some x) : l.take (i + 1) = l.take i ++ [x] := by
  obtain ⟨hi, rfl⟩ := List.getElem?_eq_some_iff.1 h
  exact List.take_succ_eq_append_getElem hi
theorem copyInts_calls {G : Env} {v : AV} {l : List Int} {σ : AS} {R : Out → AS → Prop} (hv : IntsV v l) (hl : l.length ≤ 2 ^ 40) (h : ∀ v' σ', IntsV v' l → Adds σ σ' → R (.ret v') σ') : ACalls Tryd.prog G 75 [v] σ R := by
  refine freezing (calls75 rfl ?_)
  have v1 := hv.one
  have v2 := hv.len
  simp [pc75]
  refine aloop (CpI 1 v (l.map (.int .i64)) σ) (MU 4 (l.length + 1)) ⟨0, by omega, by simp, by simp, .inl ⟨by simp, by simp⟩, .refl _⟩ fun a τ hI => ?_
  obtain ⟨i, hi, a0, a4, hO, hA⟩ := hI
  have hi : i ≤ l.length := by simpa using hi
  by_cases hlt : i < l.length
  · obtain ⟨b, hix⟩ := hv.at hlt
    have hget : (l.map (AV.int .i64))[i]? = some (.int .i64 l[i]) := by simp [hlt]
    have w1 : IntKind.wrap .i64 ((i : Int) + 1) = ((i + 1 : Nat) : Int) := by rw [wrap_i64] <;> omega
    have htl : (l.take i).length = i := by simp; omega
    have ts := take_snoc hget
    generalize l[i] = x at *
    rcases hO with ⟨he, h3⟩ | ⟨g, h3, h4, h5, h6⟩
    · simp [pc75_l1, a0, a4, v1, v2, hlt, hix, h3, w1]
      refine ⟨⟨i + 1, by simp; omega, by simp [a0], by simp, .inr ⟨τ.nf, ?_, hA.nf, by simp, by simp⟩, hA.newF⟩, ?_⟩
      · rw [ts, he]; simp
      · simp only [MU, a4]; simp; omega
    · simp [pc75_l1, a0, a4, v1, v2, hlt, hix, h3, w1, h6]
      have hgn := hA.nf
      refine ⟨by omega, ⟨i + 1, by simp; omega, by simp [a0], by simp, .inr ⟨τ.nf, ?_, hgn, by simp, by simp⟩, ?_⟩, ?_⟩
      · rw [ts]; simp
      · exact ⟨by simpa using hA.no, by simp; omega, fun o ho => by simpa using hA.obj o ho, fun f hf => by
          have : f ≠ g := by omega
          simp [this]
          rw [if_neg (by omega)]
          exact hA.fam f hf⟩
      · simp only [MU, a4]; simp; omega
  · have he : i = l.length := by omega
    have hlt' : ¬ (i : Int) < (l.length : Int) := by omega
    have htk : (l.map (AV.int .i64)).take i = l.map (AV.int .i64) := List.take_of_length_le (by simp; omega)
    rw [htk] at hO
    rcases hO with ⟨hn, h3⟩ | ⟨g, h3, h4, h5, h6⟩
    · simp [pc75_l1, pc75_r1, a0, a4, v1, v2, hlt, h3]
      exact .inl (h _ _ (.inl ⟨by simpa using hn, rfl⟩) hA)
    · simp [pc75_l1, pc75_r1, a0, a4, v1, v2, hlt, h3]
      refine .froze g (fun _ => false) h6 ?_
      have := h (.sl (.stat false) 1 (l.map (.int .i64))) (τ.frz g fun _ => false) (.inr ⟨_, rfl⟩) (hA.frz h4 fun _ _ => rfl)
      simpa [Function.comp_def] using this
theorem copyWs_calls {G : Env} {v : AV} {l : List W} {σ : AS} {R : Out → AS → Prop} (hv : RepL v l) (hl : l.length ≤ 2 ^ 40) (h : ∀ v' σ', RepL v' l → Adds σ σ' → R (.ret v') σ') : ACalls Tryd.prog G 80 [v] σ R := by
  refine freezing (calls80 rfl ?_)
  have v1 := hv.one
  have v2 := hv.len
  simp [pc80]
  refine aloop (CpI 6 v (l.map W.av) σ) (MU 4 (l.length + 1)) ⟨0, by omega, by simp, by simp, .inl ⟨by simp, by simp⟩, .refl _⟩ fun a τ hI => ?_
  obtain ⟨i, hi, a0, a4, hO, hA⟩ := hI
  have hi : i ≤ l.length := by simpa using hi
  by_cases hlt : i < l.length
  · obtain ⟨b, hix⟩ := hv.at hlt
    have hget : (l.map W.av)[i]? = some l[i].av := by simp [hlt]
    have w1 : IntKind.wrap .i64 ((i : Int) + 1) = ((i + 1 : Nat) : Int) := by rw [wrap_i64] <;> omega
    have ts := take_snoc hget
    generalize l[i] = x at *
    rcases hO with ⟨he, h3⟩ | ⟨g, h3, h4, h5, h6⟩
    · simp [pc80_l1, a0, a4, v1, v2, hlt, hix, h3, w1, W.av, W.cs]
      refine ⟨⟨i + 1, by simp; omega, by simp [a0], by simp, .inr ⟨τ.nf, ?_, hA.nf, by simp, by simp⟩, hA.newF⟩, ?_⟩
      · rw [ts, he]; simp [W.av, W.cs]
      · simp only [MU, a4]; simp; omega
    · have htl : ((l.map W.av).take i).length = i := by simp; omega
      generalize (l.map W.av).take i = done at *
      simp [pc80_l1, a0, a4, v1, v2, hlt, hix, h3, w1, h6, W.av, W.cs]
      have hgn := hA.nf
      refine ⟨by omega, ⟨i + 1, by simp; omega, by simp [a0], by simp, .inr ⟨τ.nf, ?_, hgn, by simp, by simp⟩, ?_⟩, ?_⟩
      · rw [ts]; simp [W.av, W.cs]
      · exact ⟨by simpa using hA.no, by simp; omega, fun o ho => by simpa using hA.obj o ho, fun f hf => by
          have : f ≠ g := by omega
          simp [this]
          rw [if_neg (by omega)]
          exact hA.fam f hf⟩
      · simp only [MU, a4]; simp; omega
  · have he : i = l.length := by omega
    have hlt' : ¬ (i : Int) < (l.length : Int) := by omega
    have htk : (l.map W.av).take i = l.map W.av := List.take_of_length_le (by simp; omega)
    rw [htk] at hO
    rcases hO with ⟨hn, h3⟩ | ⟨g, h3, h4, h5, h6⟩
    · simp [pc80_l1, pc80_r1, a0, a4, v1, v2, hlt, h3]
      exact .inl (h _ _ (.inl ⟨by simpa using hn, rfl⟩) hA)
    · simp [pc80_l1, pc80_r1, a0, a4, v1, v2, hlt, h3]
      refine .froze g (fun _ => false) h6 ?_
      have := h (.sl (.stat false) 6 (l.map W.av)) (τ.frz g fun _ => false) (.inr ⟨_, rfl⟩) (hA.frz h4 fun _ _ => rfl)
      rw [frz_sl_fam, if_pos rfl, frz_Ws]
      exact this
def CpL (v : AV) (l : To) (σ : AS) (a : Nat → AV) (τ : AS) : Prop := ∃ (i : Nat) (rows : List AV), i ≤ l.length ∧ a 0 = v ∧ a 4 = .int .i64 (i : Int) ∧ All2 RepL rows (l.take i) ∧ OutG τ σ.nf 1 (a 3) rows ∧ Adds σ τ
theorem copyLists_calls {G : Env} {v : AV} {l : To} {σ : AS} {R : Out → AS → Prop} (hv : ListsV v l) (hl : l.length ≤ 2 ^ 40) (hr : ∀ r ∈ l, r.length ≤ 2 ^ 40) (h : ∀ v' σ', ListsV v' l → Adds σ σ' → R (.ret v') σ') : ACalls Tryd.prog G 76 [v] σ R := by
  refine freezing (calls76 rfl ?_)
  have v1 := hv.one
  have v2 := hv.len
  simp [pc76]
  refine aloop (CpL v l σ) (MU 4 (l.length + 1)) ⟨0, [], by omega, by simp, by simp, by simpa using All2.nil, .inl ⟨rfl, by simp⟩, .refl _⟩ fun a τ hI => ?_
  obtain ⟨i, rows, hi, a0, a4, hR, hO, hA⟩ := hI
  by_cases hlt : i < l.length
  · obtain ⟨b, rv, hrv, hix⟩ := hv.at hlt
    have hget : l[i]? = some l[i] := List.getElem?_eq_getElem hlt
    have w1 : IntKind.wrap .i64 ((i : Int) + 1) = ((i + 1 : Nat) : Int) := by rw [wrap_i64] <;> omega
    have ts := take_snoc hget
    have hrl := hr _ (List.getElem_mem hlt)
    generalize l[i] = row at *
    have r1 := hrv.one
    have hlen : rows.length = i := by rw [hR.length]; simp; omega
    simp [pc76_l1, a0, a4, v1, v2, hlt, hix, r1]
    refine copyWs_calls hrv hrl fun rv' σ1 hrv' A1 => ?_
    have q1 := hrv'.one
    have hO1 := hO.keep A1
    have hA1 := hA.trans A1
    have hR1 : All2 RepL (rows ++ [rv']) (l.take (i + 1)) := by rw [ts]; exact hR.append (.cons hrv' .nil)
    have hgn := hA1.nf
    rcases hO1 with ⟨rfl, h3⟩ | ⟨g, h3, h4, h5, h6⟩
    · simp [q1, h3, w1, a4]
      refine ⟨⟨i + 1, [rv'], by omega, by simp [a0], by simp, by simpa using hR1, .inr ⟨σ1.nf, by simp, hgn, by simp, by simp⟩, hA1.newF⟩, ?_⟩
      simp only [MU, a4]; simp; omega
    · simp [q1, h3, w1, h6, a4]
      refine ⟨by omega, ⟨i + 1, rows ++ [rv'], by omega, by simp [a0], by simp, hR1, .inr ⟨σ1.nf, by simp, hgn, by simp, by simp⟩, ?_⟩, ?_⟩
      · exact ⟨by simpa using hA1.no, by simp; omega, fun o ho => by simpa using hA1.obj o ho, fun f hf => by
          have : f ≠ g := by omega
          simp [this]
          rw [if_neg (by omega)]
          exact hA1.fam f hf⟩
      · simp only [MU, a4]; simp; omega
  · have hlt' : ¬ (i : Int) < (l.length : Int) := by omega
    have htk : l.take i = l := List.take_of_length_le (by omega)
    rw [htk] at hR
    rcases hO with ⟨rfl, h3⟩ | ⟨g, h3, h4, h5, h6⟩
    · simp [pc76_l1, pc76_r1, a0, a4, v1, v2, hlt, h3]
      have hn : l = [] := by have := hR.length; exact List.length_eq_zero_iff.1 (by simpa using this.symm)
      exact .inl (h _ _ (.inl ⟨hn, rfl⟩) hA)
    · simp [pc76_l1, pc76_r1, a0, a4, v1, v2, hlt, h3]
      refine .froze g (fun _ => false) h6 ?_
      have := h (.sl (.stat false) 1 rows) (τ.frz g fun _ => false) (.inr ⟨_, _, rfl, hR⟩) (hA.frz h4 fun _ _ => rfl)
      rw [frz_sl_fam, if_pos rfl, frz_rows hR]
      exact this
theorem copyF_calls {G : Env} {v : AV} {f : F} {σ : AS} {R : Out → AS → Prop} (hv : FV v f) (h1 : f.params.length ≤ 2 ^ 40) (h2 : f.locals.length ≤ 2 ^ 40) (h3 : f.lists.length ≤ 2 ^ 40) (h4 : ∀ r ∈ f.lists, r.length ≤ 2 ^ 40) (h : ∀ v' σ', FV v' f → Adds σ σ' → R (.ret v') σ') : ACalls Tryd.prog G 55 [v] σ R := by
  refine calls55 rfl ?_
  obtain ⟨pv, lv, tv, rfl, hp, hl, ht⟩ := hv
  have p1 := hp.one
  have l1 := hl.one
  have t1 := ht.one
  simp [pc55, p1, l1, t1]
  have o1 : ((σ.newO [AV.str f.name, pv, lv, AV.int IntKind.i64 f.type, tv]).newO [AV.str [], AV.nilsl, AV.nilsl, AV.int IntKind.i64 0, AV.nilsl]).objs σ.no = some [AV.str f.name, pv, lv, AV.int IntKind.i64 f.type, tv] := by simp
  have o2 : ((σ.newO [AV.str f.name, pv, lv, AV.int IntKind.i64 f.type, tv]).newO [AV.str [], AV.nilsl, AV.nilsl, AV.int IntKind.i64 0, AV.nilsl]).objs (σ.no + 1) = some [AV.str [], AV.nilsl, AV.nilsl, AV.int IntKind.i64 0, AV.nilsl] := by simp
  have n1 : ((σ.newO [AV.str f.name, pv, lv, AV.int IntKind.i64 f.type, tv]).newO [AV.str [], AV.nilsl, AV.nilsl, AV.int IntKind.i64 0, AV.nilsl]).no = σ.no + 2 := by simp
  have A1 : Adds σ ((σ.newO [AV.str f.name, pv, lv, AV.int IntKind.i64 f.type, tv]).newO [AV.str [], AV.nilsl, AV.nilsl, AV.int IntKind.i64 0, AV.nilsl]) := (Adds.refl σ).newO.newO
  generalize (σ.newO [AV.str f.name, pv, lv, AV.int IntKind.i64 f.type, tv]).newO [AV.str [], AV.nilsl, AV.nilsl, AV.int IntKind.i64 0, AV.nilsl] = σ1 at *
  refine copyInts_calls hp h1 fun pv' σ2 hp' A2 => ?_
  have p2 := hp'.one
  have o1 := (A2.obj _ (by omega)).trans o1
  have o2 := (A2.obj _ (by omega)).trans o2
  have n2 := A2.no
  have A2 := A1.trans A2
  simp [p2, o1, l1, splice]
  have o1 : (σ2.setO σ.no [AV.str f.name, pv', lv, AV.int IntKind.i64 f.type, tv]).objs σ.no = some [AV.str f.name, pv', lv, AV.int IntKind.i64 f.type, tv] := by simp
  have o2 : (σ2.setO σ.no [AV.str f.name, pv', lv, AV.int IntKind.i64 f.type, tv]).objs (σ.no + 1) = some [AV.str [], AV.nilsl, AV.nilsl, AV.int IntKind.i64 0, AV.nilsl] := by simp [o2]
  have n3 : (σ2.setO σ.no [AV.str f.name, pv', lv, AV.int IntKind.i64 f.type, tv]).no = σ2.no := by simp
  have A3 : Adds σ (σ2.setO σ.no [AV.str f.name, pv', lv, AV.int IntKind.i64 f.type, tv]) := A2.setO (Nat.le_refl _)
  generalize σ2.setO σ.no [AV.str f.name, pv', lv, AV.int IntKind.i64 f.type, tv] = σ3 at *
  refine copyInts_calls hl h2 fun lv' σ4 hl' A4 => ?_
  have l2 := hl'.one
  have o1 := (A4.obj _ (by omega)).trans o1
  have o2 := (A4.obj _ (by omega)).trans o2
  have n4 := A4.no
  have A4 := A3.trans A4
  simp [p2, l2, o1, t1, splice]
  have o1 : (σ4.setO σ.no [AV.str f.name, pv', lv', AV.int IntKind.i64 f.type, tv]).objs σ.no = some [AV.str f.name, pv', lv', AV.int IntKind.i64 f.type, tv] := by simp
  have o2 : (σ4.setO σ.no [AV.str f.name, pv', lv', AV.int IntKind.i64 f.type, tv]).objs (σ.no + 1) = some [AV.str [], AV.nilsl, AV.nilsl, AV.int IntKind.i64 0, AV.nilsl] := by simp [o2]
  have n5 : (σ4.setO σ.no [AV.str f.name, pv', lv', AV.int IntKind.i64 f.type, tv]).no = σ4.no := by simp
  have A5 : Adds σ (σ4.setO σ.no [AV.str f.name, pv', lv', AV.int IntKind.i64 f.type, tv]) := A4.setO (Nat.le_refl _)
  generalize σ4.setO σ.no [AV.str f.name, pv', lv', AV.int IntKind.i64 f.type, tv] = σ5 at *
  refine copyLists_calls ht h3 h4 fun tv' σ6 ht' A6 => ?_
  have t2 := ht'.one
  have o1 := (A6.obj _ (by omega)).trans o1
  have o2 := (A6.obj _ (by omega)).trans o2
  have n6 := A6.no
  have A6 := A5.trans A6
  simp [p2, l2, t2, o1, o2, splice]
  exact h _ _ ⟨pv', lv', tv', rfl, hp', hl', ht'⟩ ((A6.setO (Nat.le_refl _)).setO (by omega))
def CpF (v : AV) (l : List F) (σ : AS) (a : Nat → AV) (τ : AS) : Prop := ∃ (i : Nat) (rows : List AV), i ≤ l.length ∧ a 0 = v ∧ a 4 = .int .i64 (i : Int) ∧ All2 FV rows (l.take i) ∧ OutG τ σ.nf 5 (a 3) rows ∧ Adds σ τ
theorem frz_fs {rows : List AV} {l : List F} (h : All2 FV rows l) (g : Nat) : rows.map (frz g) = rows := by
  induction h with
  | nil => rfl
  | cons h r ih => simp [h.frz g, ih]
theorem copyFs_calls {G : Env} {v : AV} {l : List F} {σ : AS} {R : Out → AS → Prop} (hv : FsV v l) (hl : l.length ≤ 2 ^ 40) (h1 : ∀ f ∈ l, f.params.length ≤ 2 ^ 40) (h2 : ∀ f ∈ l, f.locals.length ≤ 2 ^ 40) (h3 : ∀ f ∈ l, f.lists.length ≤ 2 ^ 40) (h4 : ∀ f ∈ l, ∀ r ∈ f.lists, r.length ≤ 2 ^ 40)
    (h : ∀ v' σ', FsV v' l → Adds σ σ' → R (.ret v') σ') : ACalls Tryd.prog G 36 [v] σ R := by
  refine freezing (calls36 rfl ?_)
  have v1 := hv.one
  have v2 := hv.len
  simp [pc36]
  refine aloop (CpF v l σ) (MU 4 (l.length + 1)) ⟨0, [], by omega, by simp, by simp, by simpa using All2.nil, .inl ⟨rfl, by simp⟩, .refl _⟩ fun a τ hI => ?_
  obtain ⟨i, rows, hi, a0, a4, hR, hO, hA⟩ := hI
  by_cases hlt : i < l.length
  · obtain ⟨b, rv, hrv, hix⟩ := hv.at hlt
    have hget : l[i]? = some l[i] := List.getElem?_eq_getElem hlt
    have w1 : IntKind.wrap .i64 ((i : Int) + 1) = ((i + 1 : Nat) : Int) := by rw [wrap_i64] <;> omega
    have ts := take_snoc hget
    have hm := List.getElem_mem hlt
    have b1 := h1 _ hm
    have b2 := h2 _ hm
    have b3 := h3 _ hm
    have b4 := h4 _ hm
    generalize l[i] = f at *
    have hlen : rows.length = i := by rw [hR.length]; simp; omega
    have hrv0 := hrv
    obtain ⟨pv, lv, tv, rfl, hp, hll, ht⟩ := hrv
    have p1 := hp.one
    have l1 := hll.one
    have t1 := ht.one
    simp [pc36_l1, a0, a4, v1, v2, hlt, hix, p1, l1, t1]
    refine copyF_calls hrv0 b1 b2 b3 b4 fun rv' σ1 hrv' A1 => ?_
    have hO1 := hO.keep A1
    have hA1 := hA.trans A1
    have hR1 : All2 FV (rows ++ [rv']) (l.take (i + 1)) := by rw [ts]; exact hR.append (.cons hrv' .nil)
    have hgn := hA1.nf
    obtain ⟨pv', lv', tv', rfl, hp', hl', ht'⟩ := hrv'
    have p2 := hp'.one
    have l2 := hl'.one
    have t2 := ht'.one
    rcases hO1 with ⟨rfl, h3⟩ | ⟨g, h3, h4, h5, h6⟩
    · simp [p2, l2, t2, h3, w1, a4]
      refine ⟨⟨i + 1, _, by omega, by simp [a0], by simp, by simpa using hR1, .inr ⟨σ1.nf, by simp, hgn, by simp, by simp⟩, hA1.newF⟩, ?_⟩
      simp only [MU, a4]; simp; omega
    · simp [p2, l2, t2, h3, w1, h6, a4]
      refine ⟨by omega, ⟨i + 1, _, by omega, by simp [a0], by simp, hR1, .inr ⟨σ1.nf, by simp, hgn, by simp, by simp⟩, ?_⟩, ?_⟩
      · exact ⟨by simpa using hA1.no, by simp; omega, fun o ho => by simpa using hA1.obj o ho, fun f hf => by
          have : f ≠ g := by omega
          simp [this]
          rw [if_neg (by omega)]
          exact hA1.fam f hf⟩
      · simp only [MU, a4]; simp; omega
  · have hlt' : ¬ (i : Int) < (l.length : Int) := by omega
    have htk : l.take i = l := List.take_of_length_le (by omega)
    rw [htk] at hR
    rcases hO with ⟨rfl, h3⟩ | ⟨g, h3, h4, h5, h6⟩
    · simp [pc36_l1, pc36_r1, a0, a4, v1, v2, hlt, h3]
      have hn : l = [] := by have := hR.length; exact List.length_eq_zero_iff.1 (by simpa using this.symm)
      exact .inl (h _ _ (.inl ⟨hn, rfl⟩) hA)
    · simp [pc36_l1, pc36_r1, a0, a4, v1, v2, hlt, h3]
      refine .froze g (fun _ => false) h6 ?_
      have := h (.sl (.stat false) 5 rows) (τ.frz g fun _ => false) (.inr ⟨_, _, rfl, hR⟩) (hA.frz h4 fun _ _ => rfl)
      rw [frz_sl_fam, if_pos rfl, frz_fs hR]
      exact this
/-- A COPY OF A MODULE. -/
theorem copyM_calls {G : Env} {mv : AV} {m : M} {σ : AS} {R : Out → AS → Prop} (hm : MV mv m) (hl : m.funcs.length ≤ 2 ^ 40) (h1 : ∀ f ∈ m.funcs, f.params.length ≤ 2 ^ 40) (h2 : ∀ f ∈ m.funcs, f.locals.length ≤ 2 ^ 40) (h3 : ∀ f ∈ m.funcs, f.lists.length ≤ 2 ^ 40) (h4 : ∀ f ∈ m.funcs, ∀ r ∈ f.lists, r.length ≤ 2 ^ 40)
    (h : ∀ v' σ', MV v' m → Adds σ σ' → R (.ret v') σ') : ACalls Tryd.prog G 12 [mv] σ R := by
  refine calls12 rfl ?_
  obtain ⟨fv, rfl, hfs⟩ := hm
  have f1 := hfs.one
  simp [pc12, f1]
  refine copyFs_calls hfs hl h1 h2 h3 h4 fun fv' σ2 hfs' A2 => ?_
  have f2 := hfs'.one
  have o1 := A2.obj σ.no (by simp; omega)
  have o2 := A2.obj (σ.no + 1) (by simp)
  have hn := A2.no
  simp at o1 o2
  simp at hn
  simp [f2, o1, o2, splice]
  have A : Adds σ σ2 := (Adds.refl σ).newO.newO.trans A2
  exact h _ _ ⟨fv', rfl, hfs'⟩ ((A.setO (Nat.le_refl _)).setO (by omega))
end Go.Proofs.YthifgodgfhbnfaaDoor
set_option linter.unusedSimpArgs false
set_option linter.unusedVariables false
namespace Go.Proofs.YthifgodgfhbnfaaDoor
open Go Go.Abs
theorem pick4_calls {G : Env} {v : Int} {σ : AS} {R : Out → AS → Prop} (h : ∀ w, 0 ≤ w → w < 4 → R (.ret (.int .i64 w)) σ) : ACalls Tryd.prog G 23 [.int .i64 v, .int .i64 4] σ R := by
  refine calls23 rfl ?_
  have h1 := Int.tmod_lt_of_pos v (show (0 : Int) < 4 by omega)
  have h2 : -4 < v.tmod 4 := by
    have := Int.lt_tmod_of_pos v (show (0 : Int) < 4 by omega)
    omega
  by_cases hn : v.tmod 4 < 0
  · have w1 : IntKind.wrap .i64 (v.tmod 4 + 4) = v.tmod 4 + 4 := by rw [wrap_i64] <;> omega
    simp [pc23, hn, w1]
    exact h _ (by omega) (by omega)
  · simp [pc23, hn]
    exact h _ (by omega) (by omega)
def PSI (m : M) (mb pb : Nat) (ob : List AV) (T : Nat) (a : Nat → AV) (τ : AS) : Prop := ∃ (i : Nat) (m' : M) (pv : AV), i ≤ T ∧ a 1 = .int .i64 (T : Int) ∧ a 2 = .ptr mb 0 ∧ a 5 = .ptr pb 0 ∧ a 6 = .int .i64 (i : Int) ∧ τ.objs mb = some ob ∧ τ.objs pb = some [pv, .int .i64 m'.memory, .int .i64 m'.main] ∧ mb < τ.no ∧ pb < τ.no ∧
  FsV pv m'.funcs ∧ checkE m' = .ok () ∧ SzM m' ∧ Better m m'
set_option maxHeartbeats 4000000 in
set_option maxRecDepth 20000 in
theorem peepSame_calls {G : Env} (V : Vars G) {m : M} {fv iv : AV} {input : List Int} {steps more times : Int} {σ : AS} {R : Out → AS → Prop} (hfs : FsV fv m.funcs) (hf : Fits m) (hn : Nums m) (hi : IntsV iv input) (h : ∀ σ', R (.ret (.bool true)) σ') :
    ACalls Tryd.prog G 8 [.agg [fv, .int .i64 m.memory, .int .i64 m.main, iv, .int .i64 steps, .int .i64 more], .int .i64 times] σ R := by
  refine calls8 rfl ?_
  have f1 := hfs.one
  have i1 := hi.one
  have i2 := hi.len
  have hm : MV (.agg [fv, .int .i64 m.memory, .int .i64 m.main]) m := ⟨fv, rfl, hfs⟩
  simp [pc8, f1, i1]
  have hm1 : (σ.newO [fv, AV.int IntKind.i64 m.memory, AV.int IntKind.i64 m.main, iv, AV.int IntKind.i64 steps, AV.int IntKind.i64 more]).objs σ.no = some [fv, .int .i64 m.memory, .int .i64 m.main, iv, .int .i64 steps, .int .i64 more] := by simp
  have hno1 : (σ.newO [fv, AV.int IntKind.i64 m.memory, AV.int IntKind.i64 m.main, iv, AV.int IntKind.i64 steps, AV.int IntKind.i64 more]).no = σ.no + 1 := by simp
  generalize σ.newO [fv, AV.int IntKind.i64 m.memory, AV.int IntKind.i64 m.main, iv, AV.int IntKind.i64 steps, AV.int IntKind.i64 more] = σ1 at *
  have hml : σ.no < σ1.no := by omega
  refine big_calls hm hf fun b σ2 hb A2 => ?_
  have hm2 := (A2.obj σ.no hml).trans hm1
  cases b with
  | true =>
    simp
    refine known_calls fun σ3 A3 => ?_
    simp
    exact h _
  | false =>
  obtain ⟨b1, b2⟩ := hb rfl
  have sz : SzM m := ⟨b1, fun f hf => by
    have q := b2 f hf
    refine ⟨q.params, q.locals, q.lists, ?_, hn f hf⟩
    have h1 := sumC_bound q.rows
    have h2 := q.lists
    have : f.lists.length * 3000 ≤ 900000 := by omega
    omega⟩
  obtain ⟨sm, of⟩ := sz.small
  by_cases hil : (1000 : Int) < (input.length : Int)
  · simp [hm2, f1, i1, i2, hil]
    refine known_calls fun σ3 A3 => ?_
    simp
    exact h _
  simp [hm2, f1, i1, i2, hil]
  refine check_calls V sm hm fun σ3 A3 => ?_
  have hl3 : σ.no < σ3.no := Nat.lt_of_lt_of_le hml (A2.trans A3).no
  have hm3 := (A3.obj σ.no (Nat.lt_of_lt_of_le hml A2.no)).trans hm2
  by_cases he : errOf (checkE m) = 0
  · have hck := check_ok he
    simp [he, hm3, f1, i1]
    refine copyM_calls hm (by omega) (fun f hf => by have := (b2 f hf).params; omega) (fun f hf => by have := (b2 f hf).locals; omega) (fun f hf => by have := (b2 f hf).lists; omega) (fun f hf r hr => by have := (b2 f hf).rows r hr; omega) fun cv σ4 hcv A4 => ?_
    obtain ⟨pv, rfl, hps⟩ := hcv
    have p1 := hps.one
    have hm4 := (A4.obj σ.no hl3).trans hm3
    have hn4 := A4.no
    have hne : σ.no ≠ σ4.no := by omega
    simp [splice, p1]
    refine pick4_calls fun w w0 w4 => ?_
    obtain ⟨T, rfl⟩ : ∃ T : Nat, w = (T : Int) := ⟨w.toNat, by omega⟩
    have w1 : IntKind.wrap .i64 (1 + (T : Int)) = ((T + 1 : Nat) : Int) := by rw [wrap_i64] <;> omega
    simp [w1]
    have hm5 : ((σ4.newO [AV.nilsl, AV.int IntKind.i64 0, AV.int IntKind.i64 0]).setO σ4.no [pv, AV.int IntKind.i64 m.memory, AV.int IntKind.i64 m.main]).objs σ.no = some [fv, .int .i64 m.memory, .int .i64 m.main, iv, .int .i64 steps, .int .i64 more] := by simp [hne, hm4]
    have hp5 : ((σ4.newO [AV.nilsl, AV.int IntKind.i64 0, AV.int IntKind.i64 0]).setO σ4.no [pv, AV.int IntKind.i64 m.memory, AV.int IntKind.i64 m.main]).objs σ4.no = some [pv, .int .i64 m.memory, .int .i64 m.main] := by simp
    have hn5 : ((σ4.newO [AV.nilsl, AV.int IntKind.i64 0, AV.int IntKind.i64 0]).setO σ4.no [pv, AV.int IntKind.i64 m.memory, AV.int IntKind.i64 m.main]).no = σ4.no + 1 := by simp
    generalize (σ4.newO [AV.nilsl, AV.int IntKind.i64 0, AV.int IntKind.i64 0]).setO σ4.no [pv, AV.int IntKind.i64 m.memory, AV.int IntKind.i64 m.main] = σ5 at *
    generalize hmb : σ.no = mb at *
    generalize hpb : σ4.no = pb at *
    clear hmb hpb
    refine aloop (PSI m mb pb [fv, .int .i64 m.memory, .int .i64 m.main, iv, .int .i64 steps, .int .i64 more] (T + 1)) (MU 6 (T + 2)) ⟨0, m, pv, by omega, by simp, by simp, by simp, by simp, hm5, hp5, by omega, by omega, hps, hck, sz, Better.refl m⟩ fun a τ hI => ?_
    obtain ⟨i, m', qv, hiT, a1, a2, a5, a6, om, op, lm, lp, hqs, hck', sz', hbet⟩ := hI
    have q1 := hqs.one
    have hmv' : MV (.agg [qv, .int .i64 m'.memory, .int .i64 m'.main]) m' := ⟨qv, rfl, hqs⟩
    by_cases hlt : i < T + 1
    · have hlt' : (i : Int) < (T : Int) + 1 := by omega
      have w2 : IntKind.wrap .i64 ((i : Int) + 1) = ((i + 1 : Nat) : Int) := by rw [wrap_i64] <;> omega
      obtain ⟨fok, fs', hpf, hck2, sz2, bet2⟩ := peep_round hck' sz'
      simp [pc8_l1, a1, a2, a5, a6, hlt', op, q1]
      refine peep_calls hmv' (by have := sz'.funcs; omega) fok hpf fun v' σ6 hv' A6 => ?_
      obtain ⟨rv, rfl, hrs⟩ := hv'
      have r1 := hrs.one
      have om6 := (A6.obj mb lm).trans om
      have op6 := (A6.obj pb lp).trans op
      have hn6 := A6.no
      have hpm : pb ≠ mb := by
        intro e
        rw [e, om] at op
        simp at op
      simp [op6, r1, splice, w2, a1, a2, a5, a6]
      refine ⟨⟨i + 1, ⟨fs', m'.memory, m'.main⟩, rv, by omega, by simp [a1], by simp [a2], by simp [a5], by simp, by simp [Ne.symm hpm, om6], by simp, by simp; omega, by simp; omega, hrs, hck2, sz2, hbet.trans hck' bet2⟩, ?_⟩
      simp only [MU, a6]; simp; omega
    · have hlt' : ¬ (i : Int) < (T : Int) + 1 := by omega
      simp [pc8_l1, pc8_r1, a1, a2, a5, a6, hlt', om, op]
      obtain ⟨sm', of'⟩ := sz'.small
      refine cut_calls ?_
      simp [a2, a5, om, f1, i1]
      generalize hs : max 0 (min steps 5000) = s
      have hs0 : 0 ≤ s ∧ s ≤ 5000 := by omega
      refine run_calls V hm hck of hi (by omega) (by omega) fun ov out st code σ6 hr ho A6 => ?_
      obtain ⟨out0, st0, code0, hr0, hst, hlen⟩ := runM_sound hck input s (s.toNat + 1) (by omega)
      rw [hr] at hr0
      obtain ⟨rfl, rfl, rfl⟩ : out = out0 ∧ st = st0 ∧ code = code0 := by simpa using hr0
      have o1 := ho.one
      have om6 := (A6.obj mb lm).trans om
      have op6 := (A6.obj pb lp).trans op
      have hn6 := A6.no
      have e1 : mb ≠ σ6.no := by omega
      have e2 : pb ≠ σ6.no := by omega
      simp [splice, o1, a2, a5, e2, op6, q1]
      have om7 : ((σ6.newO [AV.nilsl, AV.int IntKind.i64 0, AV.int IntKind.i64 0]).setO σ6.no [ov, AV.int IntKind.i64 st, AV.int IntKind.i64 code]).objs mb = some [fv, .int .i64 m.memory, .int .i64 m.main, iv, .int .i64 steps, .int .i64 more] := by simp [e1, om6]
      have op7 : ((σ6.newO [AV.nilsl, AV.int IntKind.i64 0, AV.int IntKind.i64 0]).setO σ6.no [ov, AV.int IntKind.i64 st, AV.int IntKind.i64 code]).objs pb = some [qv, .int .i64 m'.memory, .int .i64 m'.main] := by simp [e2, op6]
      have oa7 : ((σ6.newO [AV.nilsl, AV.int IntKind.i64 0, AV.int IntKind.i64 0]).setO σ6.no [ov, AV.int IntKind.i64 st, AV.int IntKind.i64 code]).objs σ6.no = some [ov, .int .i64 st, .int .i64 code] := by simp
      have hn7 : ((σ6.newO [AV.nilsl, AV.int IntKind.i64 0, AV.int IntKind.i64 0]).setO σ6.no [ov, AV.int IntKind.i64 st, AV.int IntKind.i64 code]).no = σ6.no + 1 := by simp
      generalize (σ6.newO [AV.nilsl, AV.int IntKind.i64 0, AV.int IntKind.i64 0]).setO σ6.no [ov, AV.int IntKind.i64 st, AV.int IntKind.i64 code] = σ7 at *
      refine check_calls V sm' hmv' fun σ8 A8 => ?_
      have om8 := (A8.obj mb (by omega)).trans om7
      have op8 := (A8.obj pb (by omega)).trans op7
      have oa8 := (A8.obj σ6.no (by omega)).trans oa7
      have hn8 := A8.no
      rw [hck']
      simp [errOf, a2, a5, om8, op8, q1, i1]
      refine run_calls V hmv' hck' of' hi (by omega) (by omega) fun ov' out' st' code' σ9 hr' ho' A9 => ?_
      obtain ⟨hpre, hsame⟩ := hbet input s _ _ _ _ _ _ hr hr'
      obtain ⟨rest, rfl⟩ := hpre
      have o2 := ho'.one
      have l1 := ho.len
      have l2 := ho'.len
      have oa9 := (A9.obj σ6.no (by omega)).trans oa8
      have hn9 := A9.no
      have e3 : σ6.no ≠ σ9.no := by omega
      simp [splice, o2, e3, oa9]
      have oa10 : ((σ9.newO [AV.nilsl, AV.int IntKind.i64 0, AV.int IntKind.i64 0]).setO σ9.no [ov', AV.int IntKind.i64 st', AV.int IntKind.i64 code']).objs σ6.no = some [ov, .int .i64 st, .int .i64 code] := by simp [e3, oa9]
      have ob10 : ((σ9.newO [AV.nilsl, AV.int IntKind.i64 0, AV.int IntKind.i64 0]).setO σ9.no [ov', AV.int IntKind.i64 st', AV.int IntKind.i64 code']).objs σ9.no = some [ov', .int .i64 st', .int .i64 code'] := by simp
      have hn10 : ((σ9.newO [AV.nilsl, AV.int IntKind.i64 0, AV.int IntKind.i64 0]).setO σ9.no [ov', AV.int IntKind.i64 st', AV.int IntKind.i64 code']).no = σ9.no + 1 := by simp
      generalize (σ9.newO [AV.nilsl, AV.int IntKind.i64 0, AV.int IntKind.i64 0]).setO σ9.no [ov', AV.int IntKind.i64 st', AV.int IntKind.i64 code'] = σ10 at *
      have hlo : out.length ≤ 2 ^ 40 := by omega
      by_cases h3 : st = 3
      · have c5 : ((out.length : Int) ≤ (out.length : Int) + (rest.length : Int)) := by omega
        rcases ho' with ⟨he', rfl⟩ | ⟨b', rfl⟩
        · obtain ⟨rfl, rfl⟩ : out = [] ∧ rest = [] := by simpa using he'
          simp [oa10, ob10, h3, l1, l2, o1]
          refine sameInts_calls (p := []) (q := []) (.inl ⟨rfl, rfl⟩) ho (by simp) ?_
          simp
          refine known_calls fun σ11 A11 => ?_
          simp
          exact h _
        · have htk' : List.take out.length (out.map (AV.int .i64) ++ rest.map (AV.int .i64)) = out.map (AV.int .i64) := by simp
          simp [oa10, ob10, h3, l1, l2, o1, c5, htk']
          refine sameInts_calls (p := out) (q := out) (.inr ⟨_, rfl⟩) ho hlo ?_
          simp
          refine known_calls fun σ11 A11 => ?_
          simp
          exact h _
      · obtain ⟨e4, e5, e6⟩ := hsame h3
        simp [oa10, ob10, h3, o1, o2]
        refine sameRun_calls ho ho' (by omega) fun σ11 A11 => ?_
        simp [e4, e5, e6]
        refine known_calls fun σ12 A12 => ?_
        simp
        exact h _
  · simp [he]
    refine known_calls fun σ4 A4 => ?_
    simp
    exact h _
end Go.Proofs.YthifgodgfhbnfaaDoor
