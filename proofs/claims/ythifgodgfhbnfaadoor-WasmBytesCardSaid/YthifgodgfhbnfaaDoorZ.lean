/- What is stored is loaded: the module of WasmBytes, looked at and run, in plain words; no condition but those that each theorem names. -/
import Derived.Test.YthifgodgfhbnfaaDoorY
set_option linter.unusedSimpArgs false
set_option linter.unusedVariables false
namespace Go.Proofs.YthifgodgfhbnfaaDoor
open Go Go.Abs
theorem byteW_zero (v : Int) : ((byteW v 0).toNat : Int) = v % 256 := by
  unfold byteW
  simp [IntKind.wrap, IntKind.signed, IntKind.bits]
  omega
theorem byteW_succ (v : Int) (j : Nat) : byteW v (j + 1) = byteW (v / 256) j := by
  unfold byteW
  congr 3
  rw [Int.fdiv_eq_ediv_of_nonneg _ (by exact Int.pow_nonneg (by omega)), Int.fdiv_eq_ediv_of_nonneg _ (by exact Int.pow_nonneg (by omega)), show 8 * (j + 1) = 8 + 8 * j by omega, Int.pow_add, ← Int.ediv_ediv_of_nonneg (by omega)]
  rfl
theorem num_bytes (v : Int) : ∀ n : Nat, numOf ((List.range (n + 1)).map (byteW v)) = v % 256 + 256 * numOf ((List.range n).map (byteW (v / 256))) := fun n => by
  rw [List.range_succ_eq_map, List.map_cons, numOf, byteW_zero, List.map_map]
  congr 2
  congr 1
  exact List.map_congr_left fun j _ => byteW_succ v j
theorem load1 (v : Int) : loadW ((List.range 1).map (byteW v)) = IntKind.i8.wrap v := by
  unfold loadW
  rw [num_bytes]
  simp [numOf, IntKind.wrap, IntKind.signed, IntKind.bits]
  split <;> split <;> omega
theorem num4 (v : Int) : numOf ((List.range 4).map (byteW v)) = v % 2 ^ 32 := by
  rw [num_bytes, num_bytes, num_bytes, num_bytes]
  simp [numOf]
  omega
theorem num8 (v : Int) : numOf ((List.range 8).map (byteW v)) = v % 2 ^ 64 := by
  rw [num_bytes, num_bytes, num_bytes, num_bytes, num4]
  omega
theorem load4 (v : Int) : loadW ((List.range 4).map (byteW v)) = IntKind.i32.wrap v := by
  unfold loadW
  rw [num4]
  simp [IntKind.wrap, IntKind.signed, IntKind.bits]
  split <;> split <;> omega
theorem load8 (v : Int) (h : -(2 ^ 63) ≤ v ∧ v ≤ 2 ^ 63 - 1) : loadW ((List.range 8).map (byteW v)) = v := by
  unfold loadW
  rw [num8]
  simp only [List.length_map, List.length_range]
  split <;> omega
theorem loadByte (v : Int) (j : Nat) : loadW [byteW v j] = IntKind.i8.wrap (v.fdiv (2 ^ (8 * j))) := by
  have h := load1 (v.fdiv (2 ^ (8 * j)))
  have e : byteW (v.fdiv (2 ^ (8 * j))) 0 = byteW v j := by
    unfold byteW
    rw [Nat.mul_zero, Int.pow_zero, Int.fdiv_one]
  have e2 : (List.range 1).map (byteW (v.fdiv (2 ^ (8 * j)))) = [byteW v j] := by rw [← e]; rfl
  rw [e2] at h
  exact h
def ldW (t n : Int) : W := ⟨8, t, n, 0, 0, []⟩
def stW (t n : Int) : W := ⟨9, t, n, 0, 0, []⟩
def extW : W := ⟨7, 0, 0, 0, 0, []⟩
def tellW : W := ⟨10, 0, 1, 0, 0, []⟩
def rowW (i : Nat) : List W := [numW 1 (i : Int), ldW 1 1, extW, tellW]
def headW (t n at_ v : Int) : List W := [numW 1 at_, numW t v, stW t n, numW 1 at_, ldW t n] ++ (if t = 1 then [extW] else []) ++ [tellW]
def rowsW (k : Nat) : List W := (List.range k).flatMap rowW
def bytesL (t n at_ v : Int) : List W := headW t n at_ v ++ rowsW 16 ++ [numW 1 0]
/-! looked at -/
def zeroW (w : W) : W := if w.op = 1 then { w with n := 0 } else w
theorem zeroW_names (w : W) : namesL (zeroW w) = namesL w := by
  unfold zeroW namesL
  split
  · rename_i h; simp [h]
  · rfl
theorem zeroW_instr (fs : List F) (ls : List Int) (ty deep : Int) (lk : Look) (w : W) (s : St) (h : w.op = 1 → wrapT w.ty w.n = w.n) : instrE fs ls ty deep lk (zeroW w) s = instrE fs ls ty deep lk w s := by
  unfold zeroW
  by_cases h1 : w.op = 1
  · rw [if_pos h1]
    have hz : wrapT w.ty 0 = 0 := by
      unfold wrapT
      split
      · rfl
      split
      · rfl
      split <;> rfl
    have e1 : formB { w with n := 0 } = formB w := by simp [formB, h1]
    have e2 : rangedB fs ls deep { w with n := 0 } = rangedB fs ls deep w := by simp [rangedB, h1, h h1, hz]
    unfold instrE
    rw [e1, e2]
    simp [h1, plainE]
  · rw [if_neg h1]
theorem zeroW_instrs (fs : List F) (ls : List Int) (ty deep : Int) (lk : Look) : ∀ (ws : List W) (s : St), (∀ w ∈ ws, w.op = 1 → wrapT w.ty w.n = w.n) → instrsE fs ls ty deep lk (ws.map zeroW) s = instrsE fs ls ty deep lk ws s
  | [], s, _ => rfl
  | w :: ws, s, h => by
    rw [List.map_cons, instrsE, instrsE, zeroW_instr _ _ _ _ _ _ _ (h w (by simp))]
    cases instrE fs ls ty deep lk w s with
    | error e => rfl
    | ok s' => exact zeroW_instrs fs ls ty deep lk ws s' fun w hw => h w (by simp [hw])
theorem zeroW_row (k : Int) : ∀ (ws : List W) (n : List Bool), rowE k (ws.map zeroW) n = rowE k ws n
  | [], _ => rfl
  | w :: ws, n => by
    rw [List.map_cons, rowE, rowE, zeroW_names]
    cases namesE k (namesL w) n with
    | error e => rfl
    | ok n' => exact zeroW_row k ws n'
theorem zeroW_check (l : List W) (h : ∀ w ∈ l, w.op = 1 → wrapT w.ty w.n = w.n) (hz : checkE (M12 [l.map zeroW]) = .ok ()) : checkE (M12 [l]) = .ok () := by
  have hh : ∀ l', headOf [F12 [l']] = headOf [F12 [l]] := fun l' => by
    funext n
    unfold headOf
    by_cases h3 : (n - 3).toNat = 0
    · simp [h3, F12]
    · have : ∀ (g : F), [g][(n - 3).toNat]? = none := fun g => by rw [List.getElem?_eq_none]; simp; omega
      simp [this]
  have key : instrsE [F12 [l]] [1, 1, 2, 2] 1 0 (lookE [F12 [l]] [1, 1, 2, 2] 1 [l] 0) (l.map zeroW) ⟨[], false⟩ = instrsE [F12 [l]] [1, 1, 2, 2] 1 0 (lookE [F12 [l]] [1, 1, 2, 2] 1 [l] 0) l ⟨[], false⟩ := zeroW_instrs _ _ _ _ _ l _ h
  have inst : ∀ (lk lk' : Look), (∀ a d, lk a d = lk' a d) → ∀ (ws : List W) s, instrsE [F12 [l.map zeroW]] [1, 1, 2, 2] 1 0 lk ws s = instrsE [F12 [l]] [1, 1, 2, 2] 1 0 lk' ws s := fun lk lk' hl ws => by
    have e : lk = lk' := by funext a d; exact hl a d
    subst e
    induction ws with
    | nil => intro s; rfl
    | cons w ws ih =>
      intro s
      rw [instrsE, instrsE]
      have e2 : instrE [F12 [l.map zeroW]] [1, 1, 2, 2] 1 0 lk w s = instrE [F12 [l]] [1, 1, 2, 2] 1 0 lk w s := by
        unfold instrE rangedB plainE
        rw [hh]
      rw [e2]
      cases instrE [F12 [l]] [1, 1, 2, 2] 1 0 lk w s with
      | error e => rfl
      | ok s' => exact ih s'
  have look : lookE [F12 [l.map zeroW]] [1, 1, 2, 2] 1 [l.map zeroW] 1 0 0 = lookE [F12 [l]] [1, 1, 2, 2] 1 [l] 1 0 0 := by
    rw [lookE, lookE]
    show (match instrsE [F12 [l.map zeroW]] [1, 1, 2, 2] 1 0 (lookE [F12 [l.map zeroW]] [1, 1, 2, 2] 1 [l.map zeroW] 0) (l.map zeroW) ⟨[], false⟩ with | .error e => Except.error e | .ok s => endE 1 0 s) = (match instrsE [F12 [l]] [1, 1, 2, 2] 1 0 (lookE [F12 [l]] [1, 1, 2, 2] 1 [l] 0) l ⟨[], false⟩ with | .error e => Except.error e | .ok s => endE 1 0 s)
    rw [← key, inst (lookE [F12 [l.map zeroW]] [1, 1, 2, 2] 1 [l.map zeroW] 0) (lookE [F12 [l]] [1, 1, 2, 2] 1 [l] 0) (fun a d => rfl)]
  have lists : listsE [l.map zeroW] = listsE [l] := by
    unfold listsE
    simp only [rowsE, zeroW_row, List.length_cons, List.length_nil]
  have fn : functionE [F12 [l.map zeroW]] (F12 [l.map zeroW]) = functionE [F12 [l]] (F12 [l]) := by
    unfold functionE
    show (if _ then _ else match listsE [l.map zeroW] with | .error e => Except.error e | .ok _ => lookE [F12 [l.map zeroW]] [1, 1, 2, 2] 1 [l.map zeroW] 1 0 0) = (if _ then _ else match listsE [l] with | .error e => Except.error e | .ok _ => lookE [F12 [l]] [1, 1, 2, 2] 1 [l] 1 0 0)
    rw [lists, look]
    rfl
  unfold checkE at hz ⊢
  simp only [M12, functionsE] at hz ⊢
  rw [fn] at hz
  exact hz
theorem bytes_ops (t n at_ v : Int) (ht : t = 1 ∨ t = 2) (hv : wrapT t v = v) (ha : -3 ≤ at_ ∧ at_ ≤ 20) : ∀ w ∈ bytesL t n at_ v, w.op = 1 → wrapT w.ty w.n = w.n := by
  have small : ∀ k : Int, -3 ≤ k → k ≤ 20 → wrapT 1 k = k := fun k h1 h2 => by
    simp [wrapT, IntKind.wrap, IntKind.signed, IntKind.bits]
    split <;> omega
  intro w hw h1
  simp only [bytesL, headW, List.mem_append, List.mem_cons, List.not_mem_nil, or_false] at hw
  rcases hw with ((hw | hw) | hw) | hw
  · rcases hw with (rfl | rfl | rfl | rfl | rfl) | hw
    · exact small _ ha.1 ha.2
    · exact hv
    · simp [stW] at h1
    · exact small _ ha.1 ha.2
    · simp [ldW] at h1
    · split at hw
      · simp at hw; subst hw; simp [extW] at h1
      · simp at hw
  · subst hw; simp [tellW] at h1
  · simp only [rowsW, List.mem_flatMap, List.mem_range, rowW, List.mem_cons, List.not_mem_nil, or_false] at hw
    obtain ⟨i, hi, hw⟩ := hw
    rcases hw with rfl | rfl | rfl | rfl
    · exact small (i : Int) (by omega) (by omega)
    · simp [ldW] at h1
    · simp [extW] at h1
    · simp [tellW] at h1
  · subst hw; rfl
theorem bytes_zero (t n at_ v : Int) : (bytesL t n at_ v).map zeroW = (bytesL t n 0 0).map zeroW := by
  simp [bytesL, headW, zeroW, numW]
theorem bytes_check {t n at_ v : Int} (ht : (t = 1 ∧ n = 1) ∨ (t = 1 ∧ n = 4) ∨ (t = 2 ∧ n = 8)) (hv : wrapT t v = v) (ha : -3 ≤ at_ ∧ at_ ≤ 20) : checkE (M12 [bytesL t n at_ v]) = .ok () := by
  refine zeroW_check _ (bytes_ops t n at_ v (by omega) hv ha) ?_
  rw [bytes_zero]
  rcases ht with ⟨rfl, rfl⟩ | ⟨rfl, rfl⟩ | ⟨rfl, rfl⟩ <;> kernel_rfl
end Go.Proofs.YthifgodgfhbnfaaDoor
set_option linter.unusedSimpArgs false
set_option linter.unusedVariables false
namespace Go.Proofs.YthifgodgfhbnfaaDoor
open Go Go.Abs
section
variable {fs : List F} {rec : RunR} {k : Nat} {i : List Int} {st : Int} {m : List UInt8} {o : List Int} {c : Int} {g : F} {l s : List Int} {q : Int} {ws : List W}
theorem popK_snoc {α : Type} (v : Int) (f : Int → Fr → Ev α) : popK ⟨g, l, s ++ [v], q⟩ f = f v ⟨g, l, s, q⟩ := by simp [popK]
theorem ins_num (t v : Int) (h : 1 ≤ st) : instrsW fs rec k 0 0 (numW t v :: ws) ⟨i, st, m, o, c⟩ ⟨g, l, s, q⟩ = instrsW fs rec k 0 0 ws ⟨i, st - 1, m, o, c⟩ ⟨g, l, s ++ [v], q⟩ := by
  rw [instrsW, if_neg (show ¬ st < 1 by omega)]
  simp [execW, plainW, numW, Fr.push]
theorem ins_ext (h : 1 ≤ st) : instrsW fs rec k 0 0 (extW :: ws) ⟨i, st, m, o, c⟩ ⟨g, l, s, q⟩ = instrsW fs rec k 0 0 ws ⟨i, st - 1, m, o, c⟩ ⟨g, l, s, q⟩ := by
  rw [instrsW, if_neg (show ¬ st < 1 by omega)]
  simp [execW, plainW, extW]
theorem ins_tell (v : Int) (h : 1 ≤ st) : instrsW fs rec k 0 0 (tellW :: ws) ⟨i, st, m, o, c⟩ ⟨g, l, s ++ [v], q⟩ = instrsW fs rec k 0 0 ws ⟨i, st - 1, m, o ++ [v], c⟩ ⟨g, l, s, q⟩ := by
  rw [instrsW, if_neg (show ¬ st < 1 by omega)]
  simp [execW, plainW, tellW, callingW, popK_snoc]
theorem ins_load (t n a : Int) (h : 1 ≤ st) (hn : 1 ≤ n ∧ n ≤ 8) (ha : 0 ≤ a ∧ a ≤ (m.length : Int) - n) : instrsW fs rec k 0 0 (ldW t n :: ws) ⟨i, st, m, o, c⟩ ⟨g, l, s ++ [a], q⟩ = instrsW fs rec k 0 0 ws ⟨i, st - 1, m, o, c⟩ ⟨g, l, s ++ [loadW ((m.drop a.toNat).take n.toNat)], q⟩ := by
  rw [instrsW, if_neg (show ¬ st < 1 by omega)]
  have e1 : ¬ (n < 1 ∨ 8 < n) := by omega
  have e2 : ¬ (a < 0 ∨ (m.length : Int) - n < a) := by omega
  simp [execW, plainW, ldW, popK_snoc, cellK, e1, e2, Fr.push]
theorem ins_store (t n a v : Int) (h : 1 ≤ st) (hn : 1 ≤ n ∧ n ≤ 8) (ha : 0 ≤ a ∧ a ≤ (m.length : Int) - n) : instrsW fs rec k 0 0 (stW t n :: ws) ⟨i, st, m, o, c⟩ ⟨g, l, s ++ [a] ++ [v], q⟩ = instrsW fs rec k 0 0 ws ⟨i, st - 1, writeW m a.toNat v n.toNat, o, c⟩ ⟨g, l, s, q⟩ := by
  rw [instrsW, if_neg (show ¬ st < 1 by omega)]
  have e1 : ¬ (n < 1 ∨ 8 < n) := by omega
  have e2 : ¬ (a < 0 ∨ (m.length : Int) - n < a) := by omega
  have e3 : min n.toNat (m.length - a.toNat) = n.toNat := by omega
  simp only [execW, plainW, stW, popK_snoc, cellK, e1, e2, List.length_take, List.length_drop, e3]
  simp
theorem ins_store_out (t n a v : Int) (h : 1 ≤ st) (hn : 1 ≤ n ∧ n ≤ 8) (ha : a < 0 ∨ (m.length : Int) - n < a) : instrsW fs rec k 0 0 (stW t n :: ws) ⟨i, st, m, o, c⟩ ⟨g, l, s ++ [a] ++ [v], q⟩ = .over 2 3 ⟨i, st - 1, m, o, c⟩ := by
  rw [instrsW, if_neg (show ¬ st < 1 by omega)]
  have e1 : ¬ (n < 1 ∨ 8 < n) := by omega
  simp only [execW, plainW, stW, popK_snoc, cellK, e1]
  simp [ha]
theorem take1 {m : List UInt8} {j : Nat} (h : j < m.length) : (m.drop j).take 1 = [m.getD j 0] := by
  rw [List.drop_eq_getElem_cons h, List.take_succ_cons, List.take_zero, List.getD_eq_getElem?_getD, List.getElem?_eq_getElem h]; rfl
theorem rows_run : ∀ (js : List Nat) (st : Int) (o : List Int), (∀ j ∈ js, j < m.length) → (4 * js.length : Nat) ≤ st → instrsW fs rec k 0 0 (js.flatMap rowW ++ ws) ⟨i, st, m, o, c⟩ ⟨g, l, [], q⟩ = instrsW fs rec k 0 0 ws ⟨i, st - (4 * js.length : Nat), m, o ++ js.map (fun j => loadW [m.getD j 0]), c⟩ ⟨g, l, [], q⟩
  | [], st, o, _, _ => by simp
  | j :: js, st, o, h, hs => by
    have hj := h j (by simp)
    simp only [List.length_cons] at hs
    have e : (j :: js).flatMap rowW ++ ws = numW 1 (j : Int) :: ldW 1 1 :: extW :: tellW :: (js.flatMap rowW ++ ws) := by simp [rowW]
    rw [e, ins_num 1 (j : Int) (by omega), ins_load 1 1 (j : Int) (by omega) (by omega) (by omega), ins_ext (by omega), ins_tell _ (by omega), rows_run js _ _ (fun j hj => h j (by simp [hj])) (by omega)]
    rw [show ((j : Int).toNat) = j by omega, show ((1 : Int).toNat) = 1 from rfl, take1 hj]
    congr 1
    congr 1
    · simp only [List.length_cons]; omega
    · simp
end
def mem16 (at_ v n : Int) : List UInt8 := writeW (List.replicate 16 0) at_.toNat v n.toNat
theorem mem16_len {at_ v n : Int} (ha : 0 ≤ at_ ∧ at_ + n ≤ 16) (hn : 1 ≤ n ∧ n ≤ 8) : (mem16 at_ v n).length = 16 := by
  simp [mem16, writeW]; omega
theorem mem16_at {at_ v n : Int} (ha : 0 ≤ at_ ∧ at_ + n ≤ 16) (hn : 1 ≤ n ∧ n ≤ 8) : ((mem16 at_ v n).drop at_.toNat).take n.toNat = (List.range n.toNat).map (byteW v) := by
  unfold mem16 writeW
  rw [List.append_assoc, List.drop_append_of_le_length (by simp; omega)]
  have e : ((List.replicate 16 (0 : UInt8)).take at_.toNat).length = at_.toNat := by simp; omega
  rw [List.drop_of_length_le (by omega), List.nil_append, List.take_append_of_le_length (by simp)]
  exact List.take_of_length_le (by simp)
theorem mem16_get {at_ v n : Int} (ha : 0 ≤ at_ ∧ at_ + n ≤ 16) (hn : 1 ≤ n ∧ n ≤ 8) {j : Nat} (hj : j < 16) : (mem16 at_ v n).getD j 0 = if at_ ≤ (j : Int) ∧ (j : Int) < at_ + n then byteW v (j - at_.toNat) else 0 := by
  have e : ((List.replicate 16 (0 : UInt8)).take at_.toNat).length = at_.toNat := by simp; omega
  have e2 : ((List.range n.toNat).map (byteW v)).length = n.toNat := by simp
  unfold mem16 writeW
  rw [List.getD_eq_getElem?_getD, List.append_assoc]
  by_cases h1 : j < at_.toNat
  · rw [List.getElem?_append_left (by omega), if_neg (by omega), List.getElem?_take, if_pos h1, List.getElem?_replicate, if_pos hj]; rfl
  · rw [List.getElem?_append_right (by omega), e]
    by_cases h2 : j - at_.toNat < n.toNat
    · rw [List.getElem?_append_left (by omega), if_pos (by omega), List.getElem?_map, List.getElem?_range h2]; rfl
    · rw [List.getElem?_append_right (by omega), if_neg (by omega), List.getElem?_drop, List.getElem?_replicate, e2, if_pos (by omega)]; rfl
def outB (t n at_ v : Int) : List Int := loadW ((List.range n.toNat).map (byteW v)) :: (List.range 16).map fun j => loadW [(mem16 at_ v n).getD j 0]
def endOf : Ev Int → Option (List Int × Int × Int)
  | .bad => none
  | .over s c x => some (x.out, s, c)
  | .ok o x f => if o = -1 then f.stack.getLast?.map fun v => (x.out, 1, v) else some (x.out, 1, f.result)
theorem run_eq (L : List W) : runM (M12 [L]) [] 1000 1001 = endOf (instrsW [F12 [L]] (runL [F12 [L]] 1000) 1000 0 0 L ⟨[], 1000, List.replicate 16 0, [], 1⟩ ⟨F12 [L], [0, 0, 0, 0], [], 0⟩) := by
  have h : callW (runL [F12 [L]] 1001) ⟨[], 1000, List.replicate 16 0, [], 0⟩ (F12 [L]) [] ⟨F12 [L], [], [], 0⟩ = (match instrsW [F12 [L]] (runL [F12 [L]] 1000) 1000 0 0 L ⟨[], 1000, List.replicate 16 0, [], 1⟩ ⟨F12 [L], [0, 0, 0, 0], [], 0⟩ with
    | .bad => Ev.bad
    | .over s c x => .over s c x
    | .ok o x f => if o = -1 ∧ (F12 [L]).type ≠ 0 then popK f fun v f' => .ok v { x with calls := x.calls - 1 } ⟨F12 [L], [], [], 0⟩ else .ok f.result { x with calls := x.calls - 1 } ⟨F12 [L], [], [], 0⟩) := rfl
  have h2 : runM (M12 [L]) [] 1000 1001 = (match callW (runL [F12 [L]] 1001) ⟨[], 1000, List.replicate 16 0, [], 0⟩ (F12 [L]) [] ⟨F12 [L], [], [], 0⟩ with
    | .bad => none
    | .over s c x => some (x.out, s, c)
    | .ok v x _ => some (x.out, 1, v)) := rfl
  rw [h2, h]
  cases instrsW [F12 [L]] (runL [F12 [L]] 1000) 1000 0 0 L ⟨[], 1000, List.replicate 16 0, [], 1⟩ ⟨F12 [L], [0, 0, 0, 0], [], 0⟩ with
  | bad => rfl
  | over s c x => rfl
  | ok o x f =>
    have ht : (F12 [L]).type ≠ 0 := by show (1 : Int) ≠ 0; omega
    simp only [endOf]
    by_cases ho : o = -1
    · rw [if_pos ⟨ho, ht⟩, if_pos ho]
      unfold popK
      cases f.stack.getLast? <;> rfl
    · rw [if_neg (fun q => ho q.1), if_neg ho]
theorem bytes_run {t n at_ v : Int} (hn : 1 ≤ n ∧ n ≤ 8) (ha : 0 ≤ at_ ∧ at_ + n ≤ 16) : runM (M12 [bytesL t n at_ v]) [] 1000 1001 = some (outB t n at_ v, 1, 0) := by
  have key : ∀ (fs : List F) (rec : RunR) (k : Nat) (g : F) (l : List Int), instrsW fs rec k 0 0 (bytesL t n at_ v) ⟨[], 1000, List.replicate 16 0, [], 1⟩ ⟨g, l, [], 0⟩ = .ok (-1) ⟨[], 1000 - 5 - (if t = 1 then 1 else 0) - 1 - 64 - 1, mem16 at_ v n, outB t n at_ v, 1⟩ ⟨g, l, [0], 0⟩ := fun fs rec k g l => by
    have hl := mem16_len (v := v) ha hn
    have hm := mem16_at (v := v) ha hn
    have e : bytesL t n at_ v = numW 1 at_ :: numW t v :: stW t n :: numW 1 at_ :: ldW t n :: ((if t = 1 then [extW] else []) ++ tellW :: ((List.range 16).flatMap rowW ++ [numW 1 0])) := by simp [bytesL, headW, rowsW]
    rw [e, ins_num 1 at_ (by omega), ins_num t v (by omega), ins_store t n at_ v (by omega) hn (by simp; omega), ins_num 1 at_ (by omega), show writeW (List.replicate 16 0) at_.toNat v n.toNat = mem16 at_ v n from rfl, ins_load t n at_ (by omega) hn (by rw [hl]; omega), hm]
    by_cases ht : t = 1
    · rw [if_pos ht, if_pos ht, List.singleton_append, ins_ext (by omega), ins_tell _ (by omega), rows_run _ _ _ (by simp [hl]) (by simp), ins_num 1 0 (by simp)]
      rw [instrsW]
      simp [outB]
    · rw [if_neg ht, if_neg ht, List.nil_append, ins_tell _ (by omega), rows_run _ _ _ (by simp [hl]) (by simp), ins_num 1 0 (by simp)]
      rw [instrsW]
      simp [outB]
  rw [run_eq, key]
  simp [endOf]
theorem bytes_trap {t n at_ v : Int} (hn : 1 ≤ n ∧ n ≤ 8) (ha : at_ < 0 ∨ 16 < at_ + n) : runM (M12 [bytesL t n at_ v]) [] 1000 1001 = some ([], 2, 3) := by
  have key : ∀ (fs : List F) (rec : RunR) (k : Nat) (g : F) (l : List Int), instrsW fs rec k 0 0 (bytesL t n at_ v) ⟨[], 1000, List.replicate 16 0, [], 1⟩ ⟨g, l, [], 0⟩ = .over 2 3 ⟨[], 1000 - 1 - 1 - 1, List.replicate 16 0, [], 1⟩ := fun fs rec k g l => by
    have e : bytesL t n at_ v = numW 1 at_ :: numW t v :: stW t n :: numW 1 at_ :: ldW t n :: ((if t = 1 then [extW] else []) ++ tellW :: ((List.range 16).flatMap rowW ++ [numW 1 0])) := by simp [bytesL, headW, rowsW]
    rw [e, ins_num 1 at_ (by omega), ins_num t v (by omega), ins_store_out t n at_ v (by omega) hn (by simp; omega)]
  rw [run_eq, key]
  rfl
end Go.Proofs.YthifgodgfhbnfaaDoor
set_option linter.unusedSimpArgs false
set_option linter.unusedVariables false
namespace Go.Proofs.YthifgodgfhbnfaaDoor
open Go Go.Abs
def pick3 (v : Int) : Int := if v.tmod 3 < 0 then v.tmod 3 + 3 else v.tmod 3
theorem pick3_or (v : Int) : pick3 v = 0 ∨ pick3 v = 1 ∨ pick3 v = 2 := by
  unfold pick3
  have h1 := Int.tmod_lt_of_pos v (show (0 : Int) < 3 by omega)
  have h2 : -3 < v.tmod 3 := by
    have := Int.lt_tmod_of_pos v (show (0 : Int) < 3 by omega)
    omega
  split <;> omega
theorem pick_calls {G : Env} {v : Int} {σ : AS} {R : Out → AS → Prop} (h : R (.ret (.int .i64 (pick3 v))) σ) : ACalls Tryd.prog G 23 [.int .i64 v, .int .i64 3] σ R := by
  refine calls23 rfl ?_
  have h1 := Int.tmod_lt_of_pos v (show (0 : Int) < 3 by omega)
  have h2 : -3 < v.tmod 3 := by
    have := Int.lt_tmod_of_pos v (show (0 : Int) < 3 by omega)
    omega
  by_cases hn : v.tmod 3 < 0
  · have w1 : IntKind.wrap .i64 (v.tmod 3 + 3) = v.tmod 3 + 3 := by rw [wrap_i64] <;> omega
    have e : pick3 v = v.tmod 3 + 3 := by unfold pick3; rw [if_pos hn]
    rw [e] at h
    simp [pc23, hn, w1]
    exact h
  · have e : pick3 v = v.tmod 3 := by unfold pick3; rw [if_neg hn]
    rw [e] at h
    simp [pc23, hn]
    exact h
def rawMain (v : AV) : AV := .agg [.sl (.stat true) 5 [.agg [.str [109, 97, 105, 110], .nilsl, .sl (.stat true) 1 [.int .i64 1, .int .i64 1, .int .i64 2, .int .i64 2], .int .i64 1, v]], .int .i64 16, .int .i64 0]
theorem mainRaw_calls {G : Env} {v : AV} {σ : AS} {R : Out → AS → Prop} (v1 : v.known = true ∧ v.one = true ∧ v.cells = [v]) (h : ∀ σ', Adds σ σ' → R (.ret (rawMain v)) σ') : ACalls Tryd.prog G 26 [v] σ R := by
  refine calls26 rfl ?_
  have := h _ (.mk1 (σ := σ) (c1 := [.nilsl, .int .i64 0, .int .i64 0]) (c2 := (rawMain v).cells))
  simpa [pc26, splice, v1, rawMain] using this
theorem bodyF_calls {G : Env} {g : Nat} {b : Bool} {l : List W} {σ : AS} {R : Out → AS → Prop} (hg : σ.F g = .alive) (hgn : g < σ.nf) (h : ∀ v' σ', MV v' (M12 [l]) → R (.ret v') σ') : ACalls Tryd.prog G 25 [.sl (.fam g b) 6 (l.map W.av)] σ R := by
  refine freezing ?_
  refine calls25 rfl ?_
  simp [pc25, splice]
  refine mainRaw_calls (by simp) fun σ' A => ?_
  have ho := A.obj σ.no (by simp)
  have hf := A.fam g (by simpa using hgn)
  have h1 := A.no
  simp at ho hf
  simp [ho, splice, rawMain]
  refine .inr ⟨_, g, fun _ => false, rfl, by simp [hf, hg], ?_⟩
  have key : ∀ σ', R (.ret (rawMain (.sl (.stat true) 1 [.sl (.stat b) 6 (l.map W.av)]))) σ' := fun σ' => h _ σ' ⟨_, rfl, .inr ⟨_, _, rfl, .cons ⟨_, _, _, rfl, .inl ⟨rfl, rfl⟩, .inr ⟨_, rfl⟩, .inr ⟨_, _, rfl, .cons (.inr ⟨_, rfl⟩) .nil⟩⟩ .nil⟩⟩
  simpa [rawMain, Function.comp_def, frz_W] using key _

def BI1 (t n at_ v : Int) (a : Nat → AV) (τ : AS) : Prop := ∃ i g : Nat, i ≤ 16 ∧ a 0 = .int .i64 v ∧ a 1 = .int .i64 at_ ∧ a 8 = .int .i64 n ∧ a 11 = .int .i64 (i : Int) ∧ a 10 = .sl (.fam g false) 6 ((headW t n at_ v ++ rowsW i).map W.av) ∧ τ.F g = .alive ∧ g < τ.nf
theorem rowsW_succ (i : Nat) : rowsW (i + 1) = rowsW i ++ rowW i := by simp [rowsW, List.range_succ, List.flatMap_append]
theorem headW_len (t n at_ v : Int) : (headW t n at_ v).length ≤ 7 := by
  unfold headW
  split <;> simp
theorem rowsW_len (i : Nat) : (rowsW i).length = 4 * i := by
  induction i with
  | zero => rfl
  | succ i ih => rw [rowsW_succ, List.length_append, ih]; simp [rowW]; omega
theorem outB_zero {t n at_ v : Int} (ht : (t = 1 ∧ n = 1) ∨ (t = 1 ∧ n = 4) ∨ (t = 2 ∧ n = 8)) (hv : wrapT t v = v) (hvr : -(2 ^ 63) ≤ v ∧ v ≤ 2 ^ 63 - 1) : (outB t n at_ v)[0]? = some (if n = 1 then IntKind.i8.wrap v else v) := by
  rcases ht with ⟨rfl, rfl⟩ | ⟨rfl, rfl⟩ | ⟨rfl, rfl⟩
  · rw [if_pos rfl]; simp only [outB, List.getElem?_cons_zero]; rw [show (1 : Int).toNat = 1 from rfl, load1]
  · rw [if_neg (by omega)]; simp only [outB, List.getElem?_cons_zero]; rw [show (4 : Int).toNat = 4 from rfl, load4]
    have : wrapT 1 v = IntKind.i32.wrap v := rfl
    rw [← this, hv]
  · rw [if_neg (by omega)]; simp only [outB, List.getElem?_cons_zero]; rw [show (8 : Int).toNat = 8 from rfl, load8 v hvr]
def byteI (n at_ v : Int) (i : Nat) : Int := if at_ ≤ (i : Int) ∧ (i : Int) < at_ + n then IntKind.i8.wrap (v.fdiv (2 ^ (8 * (i - at_.toNat)))) else 0
theorem outB_succ {t n at_ v : Int} (ha : 0 ≤ at_ ∧ at_ + n ≤ 16) (hn : 1 ≤ n ∧ n ≤ 8) {i : Nat} (hi : i < 16) : (outB t n at_ v)[1 + i]? = some (byteI n at_ v i) := by
  have e : (outB t n at_ v)[1 + i]? = some (loadW [(mem16 at_ v n).getD i 0]) := by
    rw [Nat.add_comm]
    simp only [outB, List.getElem?_cons_succ, List.getElem?_map, List.getElem?_range hi, Option.map_some]
  rw [e, mem16_get ha hn hi]
  unfold byteI
  split
  · rw [loadByte]
  · simp [loadW, numOf]
def BI2 (ro : Nat) (n at_ v : Int) (σ6 : AS) (a : Nat → AV) (τ : AS) : Prop := ∃ i : Nat, i ≤ 16 ∧ a 0 = .int .i64 v ∧ a 1 = .int .i64 at_ ∧ a 8 = .int .i64 n ∧ a 13 = .ptr ro 0 ∧ a 15 = .int .i64 (i : Int) ∧ τ = σ6
set_option maxHeartbeats 4000000 in
set_option maxRecDepth 40000 in
theorem bytes_loop2 {G : Env} (V : Vars G) {t n at_ v : Int} (hn : 1 ≤ n ∧ n ≤ 8) (ha : 0 ≤ at_ ∧ at_ + n ≤ 16) {a : Nat → AV} {σ : AS} {ro : Nat} {ov : AV} {st code : Int} {R : Out → AS → Prop} (ho : IntsV ov (outB t n at_ v)) (hr : σ.objs ro = some [ov, .int .i64 st, .int .i64 code])
    (a0 : a 0 = .int .i64 v) (a1 : a 1 = .int .i64 at_) (a8 : a 8 = .int .i64 n) (a13 : a 13 = .ptr ro 0) (a15 : a 15 = .int .i64 0) (h : ∀ σ', R (.ret (.bool true)) σ') :
    ALoop Tryd.prog G 161 pc6_l2 (ablock 2 (athen (avc Tryd.prog G 161 pc6_r1 (afin Tryd.prog [.tmp 6] R)) (afin Tryd.prog [.tmp 6] R))) a σ := by
  have o1 := ho.one
  have hlen : (outB t n at_ v).length = 17 := by simp [outB]
  refine aloop (BI2 ro n at_ v σ) (MU 15 17) ⟨0, by omega, a0, a1, a8, a13, by simpa using a15, rfl⟩ fun a τ hI => ?_
  clear a0 a1 a8 a13 a15
  obtain ⟨i, hi, a0, a1, a8, a13, a15, rfl⟩ := hI
  by_cases hlt : i < 16
  · have hlt' : (i : Int) < 16 := by omega
    have w1 : IntKind.wrap .i64 ((i : Int) + 1) = ((i + 1 : Nat) : Int) := by rw [wrap_i64] <;> omega
    have w2 : IntKind.wrap .i64 (1 + (i : Int)) = ((1 + i : Nat) : Int) := by rw [wrap_i64] <;> omega
    have w3 : IntKind.wrap .i64 (at_ + n) = at_ + n := by rw [wrap_i64] <;> omega
    obtain ⟨b0, x0⟩ := ho.at (i := 1 + i) (by omega)
    have hb := outB_succ (t := t) (v := v) ha hn hlt
    rw [List.getElem?_eq_getElem (by omega)] at hb
    rw [Option.some.inj hb, show ((1 + i : Nat) : Int) = 1 + (i : Int) by omega] at x0
    have w2' : IntKind.wrap .i64 (1 + (i : Int)) = 1 + (i : Int) := by rw [wrap_i64] <;> omega
    have hpost : ∀ (b : Nat → AV) (τ' : AS), b 0 = .int .i64 v → b 1 = .int .i64 at_ → b 8 = .int .i64 n → b 13 = .ptr ro 0 → b 15 = .int .i64 ((i + 1 : Nat) : Int) → τ' = τ → BI2 ro n at_ v τ b τ' ∧ MU 15 17 b τ' < MU 15 17 a τ := fun b τ' h0 h1 h8 h13 h15 e => by
      refine ⟨⟨i + 1, by omega, h0, h1, h8, h13, h15, e⟩, ?_⟩
      simp only [MU, a15, h15]; omega
    by_cases c1 : at_ ≤ (i : Int)
    · by_cases c2 : (i : Int) < at_ + n
      · have w4 : IntKind.wrap .i64 ((i : Int) - at_) = (i : Int) - at_ := by rw [wrap_i64] <;> omega
        have w5 : IntKind.wrap .i64 (8 * ((i : Int) - at_)) = 8 * ((i : Int) - at_) := by rw [wrap_i64] <;> omega
        have w6 : IntKind.wrap .u64 (8 * ((i : Int) - at_)) = 8 * ((i : Int) - at_) := wrap_u64 (by omega) (by omega)
        have w7 : min (8 * ((i : Int) - at_)).toNat IntKind.i64.bits = 8 * (i - at_.toNat) := by show min _ 64 = _; omega
        have w8 : IntKind.wrap .i64 (IntKind.wrap .i8 (v.fdiv (2 ^ (8 * (i - at_.toNat))))) = IntKind.wrap .i8 (v.fdiv (2 ^ (8 * (i - at_.toNat)))) := by
          generalize v.fdiv (2 ^ (8 * (i - at_.toNat))) = y
          rw [wrap_i64] <;> (simp [IntKind.wrap, IntKind.signed, IntKind.bits]; split <;> omega)
        have e : byteI n at_ v i = IntKind.wrap .i8 (v.fdiv (2 ^ (8 * (i - at_.toNat)))) := by unfold byteI; rw [if_pos ⟨c1, c2⟩]
        rw [e] at x0
        simp [pc6_l2, a0, a1, a8, a13, a15, hlt', c1, c2, w1, w2', w3, w4, w5, w6, w7, w8, hr, x0, o1]
        refine ⟨by omega, ?_⟩
        refine hpost _ _ ?_ ?_ ?_ ?_ ?_ rfl <;> simp [a0, a1, a8, a13]
      · have e : byteI n at_ v i = 0 := by unfold byteI; rw [if_neg (fun q => c2 q.2)]
        rw [e] at x0
        simp [pc6_l2, a0, a1, a8, a13, a15, hlt', c1, c2, w1, w2', w3, hr, x0, o1]
        refine hpost _ _ ?_ ?_ ?_ ?_ ?_ rfl <;> simp [a0, a1, a8, a13]
    · have e : byteI n at_ v i = 0 := by unfold byteI; rw [if_neg (fun q => c1 q.1)]
      rw [e] at x0
      simp [pc6_l2, a0, a1, a8, a13, a15, hlt', c1, w1, w2', w3, hr, x0, o1]
      refine hpost _ _ ?_ ?_ ?_ ?_ ?_ rfl <;> simp [a0, a1, a8, a13]
  · have hlt' : ¬ (i : Int) < 16 := by omega
    simp [pc6_l2, pc6_r1, a15, hlt']
    refine known12_calls V fun σ7 A7 => ?_
    simp
    exact h _
set_option maxHeartbeats 4000000 in
set_option maxRecDepth 40000 in
theorem bytes_loop {G : Env} (V : Vars G) {t n at_ v : Int} (ht : (t = 1 ∧ n = 1) ∨ (t = 1 ∧ n = 4) ∨ (t = 2 ∧ n = 8)) (hv : wrapT t v = v) (hvr : -(2 ^ 63) ≤ v ∧ v ≤ 2 ^ 63 - 1) (ha : -3 ≤ at_ ∧ at_ ≤ 20) {a : Nat → AV} {σ : AS} {g : Nat} {R : Out → AS → Prop}
    (a0 : a 0 = .int .i64 v) (a1 : a 1 = .int .i64 at_) (a8 : a 8 = .int .i64 n) (a10 : a 10 = .sl (.fam g false) 6 ((headW t n at_ v).map W.av)) (hg : σ.F g = .alive) (hgn : g < σ.nf) (a11 : a 11 = .int .i64 0) (h : ∀ σ', R (.ret (.bool true)) σ') :
    ALoop Tryd.prog G 161 pc6_l1 (ablock 0 (athen (avc Tryd.prog G 161 pc6_r2 (afin Tryd.prog [.tmp 6] R)) (afin Tryd.prog [.tmp 6] R))) a σ := by
  refine aloop (BI1 t n at_ v) (MU 11 17) ⟨0, g, by omega, a0, a1, a8, by simpa using a11, by simpa [rowsW] using a10, hg, hgn⟩ fun a τ hI => ?_
  clear a0 a1 a8 a10 a11 hg hgn
  obtain ⟨i, g, hi, a0, a1, a8, a11, a10, hg, hgn⟩ := hI
  have hl1 := headW_len t n at_ v
  have hl2 := rowsW_len i
  by_cases hlt : i < 16
  · have hlt' : (i : Int) < 16 := by omega
    have w1 : IntKind.wrap .i64 ((i : Int) + 1) = ((i + 1 : Nat) : Int) := by rw [wrap_i64] <;> omega
    simp [pc6_l1, a11, hlt', a10]
    refine numberW_calls fun σ1 A1 => ?_
    have hg1 := (A1.fam g hgn).trans hg
    have hgn1 := A1.nf
    simp [W.av, W.cs, numW, splice, hg1, w1, a11]
    refine ⟨by omega, ⟨i + 1, σ1.nf, by omega, by simp [a0], by simp [a1], by simp [a8], by simp, by simp [rowsW_succ, rowW, W.av, W.cs, numW, ldW, extW, tellW], by simp, by simp⟩, ?_⟩
    simp only [MU, a11]; simp; omega
  · have hlt' : ¬ (i : Int) < 16 := by omega
    have hi16 : i = 16 := by omega
    subst hi16
    simp [pc6_l1, pc6_r2, a11, a10]
    refine numberW_calls fun σ1 A1 => ?_
    have hg1 := (A1.fam g hgn).trans hg
    have hgn1 := A1.nf
    simp [W.av, W.cs, numW, splice, hg1]
    have e : List.map W.av (headW t n at_ v) ++ (List.map W.av (rowsW 16) ++ [AV.agg [AV.int IntKind.i64 1, AV.int IntKind.i64 1, AV.int IntKind.i64 0, AV.int IntKind.i64 0, AV.int IntKind.i64 0, AV.str []]]) = (bytesL t n at_ v).map W.av := by simp [bytesL, W.av, W.cs, numW]
    rw [e]
    refine ⟨by omega, bodyF_calls (by simp) (by simp) fun mv σ2 hm => ?_⟩
    have hck := bytes_check (at_ := at_) ht hv ha
    have hnn : ∀ w ∈ bytesL t n at_ v, w.n ≤ 2 ^ 63 - 1 := fun w hw => by
      by_cases h1 : w.op = 1
      · have h2 := bytes_ops t n at_ v (by omega) hv ha w hw h1
        simp only [bytesL, headW, List.mem_append, List.mem_cons, List.not_mem_nil, or_false] at hw
        rcases hw with ((hw | hw) | hw) | hw
        · rcases hw with (rfl | rfl | rfl | rfl | rfl) | hw
          · show at_ ≤ _; omega
          · exact hvr.2
          · simp [stW] at h1
          · show at_ ≤ _; omega
          · simp [ldW] at h1
          · split at hw
            · simp at hw; subst hw; simp [extW] at h1
            · simp at hw
        · subst hw; simp [tellW] at h1
        · simp only [rowsW, List.mem_flatMap, List.mem_range, rowW, List.mem_cons, List.not_mem_nil, or_false] at hw
          obtain ⟨j, hj, hw⟩ := hw
          rcases hw with rfl | rfl | rfl | rfl
          · show (j : Int) ≤ _; omega
          · simp [ldW] at h1
          · simp [extW] at h1
          · simp [tellW] at h1
        · subst hw; show (0 : Int) ≤ _; omega
      · simp only [bytesL, headW, List.mem_append, List.mem_cons, List.not_mem_nil, or_false] at hw
        rcases hw with ((hw | hw) | hw) | hw
        · rcases hw with (rfl | rfl | rfl | rfl | rfl) | hw
          · simp [numW] at h1
          · simp [numW] at h1
          · show n ≤ _; omega
          · simp [numW] at h1
          · show n ≤ _; omega
          · split at hw
            · simp at hw; subst hw; show (0 : Int) ≤ _; omega
            · simp at hw
        · subst hw; show (1 : Int) ≤ _; omega
        · simp only [rowsW, List.mem_flatMap, List.mem_range, rowW, List.mem_cons, List.not_mem_nil, or_false] at hw
          obtain ⟨j, hj, hw⟩ := hw
          rcases hw with rfl | rfl | rfl | rfl
          · simp [numW] at h1
          · show (1 : Int) ≤ _; omega
          · show (0 : Int) ≤ _; omega
          · show (1 : Int) ≤ _; omega
        · subst hw; simp [numW] at h1
    obtain ⟨sm, of⟩ := small12 (to := [bytesL t n at_ v]) (by simp) (by simp [bytesL, rowsW_len]; omega) (by simpa using hnn)
    obtain ⟨fv, rfl, hfs⟩ := hm
    have f1 := hfs.one
    have hm : MV (.agg [fv, .int .i64 (M12 [bytesL t n at_ v]).memory, .int .i64 (M12 [bytesL t n at_ v]).main]) (M12 [bytesL t n at_ v]) := ⟨fv, rfl, hfs⟩
    simp [splice, f1]
    have hm3 : ((σ2.newO [AV.nilsl, AV.int IntKind.i64 0, AV.int IntKind.i64 0]).setO σ2.no [fv, AV.int IntKind.i64 (M12 [bytesL t n at_ v]).memory, AV.int IntKind.i64 (M12 [bytesL t n at_ v]).main]).objs σ2.no = some [fv, .int .i64 (M12 [bytesL t n at_ v]).memory, .int .i64 (M12 [bytesL t n at_ v]).main] := by simp
    have hn3 : ((σ2.newO [AV.nilsl, AV.int IntKind.i64 0, AV.int IntKind.i64 0]).setO σ2.no [fv, AV.int IntKind.i64 (M12 [bytesL t n at_ v]).memory, AV.int IntKind.i64 (M12 [bytesL t n at_ v]).main]).no = σ2.no + 1 := by simp
    generalize (σ2.newO [AV.nilsl, AV.int IntKind.i64 0, AV.int IntKind.i64 0]).setO σ2.no [fv, AV.int IntKind.i64 (M12 [bytesL t n at_ v]).memory, AV.int IntKind.i64 (M12 [bytesL t n at_ v]).main] = σ3 at *
    refine run_calls V hm hck of (input := []) (steps := 1000) (.inl ⟨rfl, rfl⟩) (by simp) (by omega) fun ov out st code σ4 hr ho A4 => ?_
    have hr' : runM (M12 [bytesL t n at_ v]) [] 1000 1001 = some (out, st, code) := hr
    have o1 := ho.one
    have o2 := ho.len
    have hm4 := (A4.obj _ (by omega)).trans hm3
    have hn4 := A4.no
    have hne : σ2.no ≠ σ4.no := by omega
    simp [splice, o1, hm4, f1, hne]
    have hr5 : ((σ4.newO [AV.nilsl, AV.int IntKind.i64 0, AV.int IntKind.i64 0]).setO σ4.no [ov, AV.int IntKind.i64 st, AV.int IntKind.i64 code]).objs σ4.no = some [ov, .int .i64 st, .int .i64 code] := by simp
    have hn5 : ((σ4.newO [AV.nilsl, AV.int IntKind.i64 0, AV.int IntKind.i64 0]).setO σ4.no [ov, AV.int IntKind.i64 st, AV.int IntKind.i64 code]).no = σ4.no + 1 := by simp
    generalize (σ4.newO [AV.nilsl, AV.int IntKind.i64 0, AV.int IntKind.i64 0]).setO σ4.no [ov, AV.int IntKind.i64 st, AV.int IntKind.i64 code] = σ5 at *
    refine check_calls V sm hm fun σ6 A6 => ?_
    have hr6 := (A6.obj _ (by omega)).trans hr5
    have w2 : IntKind.wrap .i64 (at_ + n) = at_ + n := by rw [wrap_i64] <;> omega
    rw [hck]
    by_cases hout : at_ < 0 ∨ 16 < at_ + n
    · rw [bytes_trap (by omega) hout] at hr'
      obtain ⟨rfl, rfl, rfl⟩ : [] = out ∧ 2 = st ∧ 3 = code := by simpa using hr'
      by_cases h0 : at_ < 0
      · simp [errOf, a0, a1, a8, h0, hr6, o1, o2, w2]
        refine known12_calls V fun σ7 A7 => ?_
        simp
        exact h _
      · have h1 : 16 < at_ + n := by omega
        simp [errOf, a0, a1, a8, h0, h1, hr6, o1, o2, w2]
        refine known12_calls V fun σ7 A7 => ?_
        simp
        exact h _
    · have h0 : ¬ at_ < 0 := by omega
      have h1 : ¬ 16 < at_ + n := by omega
      rw [bytes_run (by omega) (by omega)] at hr'
      obtain ⟨rfl, rfl, rfl⟩ : outB t n at_ v = out ∧ 1 = st ∧ 0 = code := by simpa using hr'
      have hlen : (outB t n at_ v).length = 17 := by simp [outB]
      obtain ⟨b0, x0⟩ := ho.at (i := 0) (by omega)
      have hb := outB_zero (at_ := at_) ht hv hvr
      rw [List.getElem?_eq_getElem (by omega)] at hb
      rw [Option.some.inj hb] at x0
      have x0' : ∀ K : AV → Prop, aindexAddr Tryd.prog 34 ov (.int .i64 0) K = K (.pv (.stat b0) (.int .i64 (if n = 1 then IntKind.i8.wrap v else v))) := x0
      by_cases hn1 : n = 1
      · subst hn1
        rw [if_pos rfl] at x0'
        have w8 : IntKind.wrap .i64 (IntKind.wrap .i8 v) = IntKind.wrap .i8 v := by
          rw [wrap_i64] <;> (simp [IntKind.wrap, IntKind.signed, IntKind.bits]; split <;> omega)
        simp [errOf, a0, a1, a8, h0, h1, w2, hr6, o1, o2, hlen, x0', w8]
        refine bytes_loop2 V (by omega) (by omega) ho hr6 ?_ ?_ ?_ ?_ ?_ h <;> simp [a0, a1, a8]
      · rw [if_neg hn1] at x0'
        simp [errOf, a0, a1, a8, h0, h1, w2, hn1, hr6, o1, o2, hlen, x0']
        refine bytes_loop2 V (by omega) (by omega) ho hr6 ?_ ?_ ?_ ?_ ?_ h <;> simp [a0, a1, a8, hn1]
end Go.Proofs.YthifgodgfhbnfaaDoor
set_option linter.unusedSimpArgs false
set_option linter.unusedVariables false
namespace Go.Proofs.YthifgodgfhbnfaaDoor
open Go Go.Abs
set_option maxHeartbeats 4000000 in
set_option maxRecDepth 40000 in
theorem wasmBytes_calls {G : Env} (V : Vars G) {v at_ which : Int} (hvr : -(2 ^ 63) ≤ v ∧ v ≤ 2 ^ 63 - 1) {σ : AS} {R : Out → AS → Prop} (h : ∀ σ', R (.ret (.bool true)) σ') : ACalls Tryd.prog G 6 [.int .i64 v, .int .i64 at_, .int .i64 which] σ R := by
  refine calls6 rfl ?_
  simp [pc6]
  refine pick_calls ?_
  rcases pick3_or which with hw | hw | hw
  · simp [hw]
    refine pick_calls ?_
    simp [hw]
    refine cut_calls ?_
    simp
    generalize hat : max (-3) (min at_ 20) = p
    have hp : -3 ≤ p ∧ p ≤ 20 := by omega
    generalize hu : IntKind.i32.wrap v = u
    have hwu : IntKind.wrap .i64 u = u := by
      rw [← hu, wrap_i64] <;> (simp [IntKind.wrap, IntKind.signed, IntKind.bits]; split <;> omega)
    have huu : wrapT 1 u = u := by
      show IntKind.i32.wrap u = u
      rw [← hu]
      simp [IntKind.wrap, IntKind.signed, IntKind.bits]
      split <;> split <;> omega
    have hur : -(2 ^ 63) ≤ u ∧ u ≤ 2 ^ 63 - 1 := by
      rw [← hu]
      simp [IntKind.wrap, IntKind.signed, IntKind.bits]
      split <;> omega
    simp [hwu]
    refine numberW_calls fun σ1 A1 => ?_
    simp [W.av, W.cs, numW, splice]
    have hv2 : ((σ1.newO [AV.int IntKind.i64 0, AV.int IntKind.i64 0, AV.int IntKind.i64 0, AV.int IntKind.i64 0, AV.int IntKind.i64 0, AV.str []]).setO σ1.no [AV.int IntKind.i64 1, AV.int IntKind.i64 1, AV.int IntKind.i64 u, AV.int IntKind.i64 0, AV.int IntKind.i64 0, AV.str []]).objs σ1.no = some [AV.int IntKind.i64 1, AV.int IntKind.i64 1, AV.int IntKind.i64 u, AV.int IntKind.i64 0, AV.int IntKind.i64 0, AV.str []] := by simp
    have hn2 : ((σ1.newO [AV.int IntKind.i64 0, AV.int IntKind.i64 0, AV.int IntKind.i64 0, AV.int IntKind.i64 0, AV.int IntKind.i64 0, AV.str []]).setO σ1.no [AV.int IntKind.i64 1, AV.int IntKind.i64 1, AV.int IntKind.i64 u, AV.int IntKind.i64 0, AV.int IntKind.i64 0, AV.str []]).no = σ1.no + 1 := by simp
    generalize (σ1.newO [AV.int IntKind.i64 0, AV.int IntKind.i64 0, AV.int IntKind.i64 0, AV.int IntKind.i64 0, AV.int IntKind.i64 0, AV.str []]).setO σ1.no [AV.int IntKind.i64 1, AV.int IntKind.i64 1, AV.int IntKind.i64 u, AV.int IntKind.i64 0, AV.int IntKind.i64 0, AV.str []] = σ2 at *
    refine numberW_calls fun σ3 A3 => ?_
    have hv3 := (A3.obj _ (by omega)).trans hv2
    have hn3 := A3.no
    simp [W.av, W.cs, numW, splice, hv3]
    refine numberW_calls fun σ4 A4 => ?_
    have hv4 := (A4.obj _ (by omega)).trans hv3
    simp [W.av, W.cs, numW, splice, hv4]
    refine bytes_loop V (t := 1) (n := 1) (at_ := p) (v := u) (g := σ4.nf + 1) (by omega) huu hur hp ?_ ?_ ?_ ?_ ?_ ?_ ?_ h
    all_goals first | (simp [headW, W.av, W.cs, numW, ldW, stW, extW, tellW]; done) | rfl | (simp [hwu]; done)
  · simp [hw]
    refine pick_calls ?_
    simp [hw]
    refine cut_calls ?_
    simp
    generalize hat : max (-3) (min at_ 20) = p
    have hp : -3 ≤ p ∧ p ≤ 20 := by omega
    generalize hu : IntKind.i32.wrap v = u
    have hwu : IntKind.wrap .i64 u = u := by
      rw [← hu, wrap_i64] <;> (simp [IntKind.wrap, IntKind.signed, IntKind.bits]; split <;> omega)
    have huu : wrapT 1 u = u := by
      show IntKind.i32.wrap u = u
      rw [← hu]
      simp [IntKind.wrap, IntKind.signed, IntKind.bits]
      split <;> split <;> omega
    have hur : -(2 ^ 63) ≤ u ∧ u ≤ 2 ^ 63 - 1 := by
      rw [← hu]
      simp [IntKind.wrap, IntKind.signed, IntKind.bits]
      split <;> omega
    simp [hwu]
    refine numberW_calls fun σ1 A1 => ?_
    simp [W.av, W.cs, numW, splice]
    have hv2 : ((σ1.newO [AV.int IntKind.i64 0, AV.int IntKind.i64 0, AV.int IntKind.i64 0, AV.int IntKind.i64 0, AV.int IntKind.i64 0, AV.str []]).setO σ1.no [AV.int IntKind.i64 1, AV.int IntKind.i64 1, AV.int IntKind.i64 u, AV.int IntKind.i64 0, AV.int IntKind.i64 0, AV.str []]).objs σ1.no = some [AV.int IntKind.i64 1, AV.int IntKind.i64 1, AV.int IntKind.i64 u, AV.int IntKind.i64 0, AV.int IntKind.i64 0, AV.str []] := by simp
    have hn2 : ((σ1.newO [AV.int IntKind.i64 0, AV.int IntKind.i64 0, AV.int IntKind.i64 0, AV.int IntKind.i64 0, AV.int IntKind.i64 0, AV.str []]).setO σ1.no [AV.int IntKind.i64 1, AV.int IntKind.i64 1, AV.int IntKind.i64 u, AV.int IntKind.i64 0, AV.int IntKind.i64 0, AV.str []]).no = σ1.no + 1 := by simp
    generalize (σ1.newO [AV.int IntKind.i64 0, AV.int IntKind.i64 0, AV.int IntKind.i64 0, AV.int IntKind.i64 0, AV.int IntKind.i64 0, AV.str []]).setO σ1.no [AV.int IntKind.i64 1, AV.int IntKind.i64 1, AV.int IntKind.i64 u, AV.int IntKind.i64 0, AV.int IntKind.i64 0, AV.str []] = σ2 at *
    refine numberW_calls fun σ3 A3 => ?_
    have hv3 := (A3.obj _ (by omega)).trans hv2
    have hn3 := A3.no
    simp [W.av, W.cs, numW, splice, hv3]
    refine numberW_calls fun σ4 A4 => ?_
    have hv4 := (A4.obj _ (by omega)).trans hv3
    simp [W.av, W.cs, numW, splice, hv4]
    refine bytes_loop V (t := 1) (n := 4) (at_ := p) (v := u) (g := σ4.nf + 1) (by omega) huu hur hp ?_ ?_ ?_ ?_ ?_ ?_ ?_ h
    all_goals first | (simp [headW, W.av, W.cs, numW, ldW, stW, extW, tellW]; done) | rfl | (simp [hwu]; done)
  · simp [hw]
    refine pick_calls ?_
    simp [hw]
    refine cut_calls ?_
    simp
    generalize hat : max (-3) (min at_ 20) = p
    have hp : -3 ≤ p ∧ p ≤ 20 := by omega
    have huu : wrapT 2 v = v := rfl
    refine numberW_calls fun σ1 A1 => ?_
    simp [W.av, W.cs, numW, splice]
    have hv2 : ((σ1.newO [AV.int IntKind.i64 0, AV.int IntKind.i64 0, AV.int IntKind.i64 0, AV.int IntKind.i64 0, AV.int IntKind.i64 0, AV.str []]).setO σ1.no [AV.int IntKind.i64 1, AV.int IntKind.i64 2, AV.int IntKind.i64 v, AV.int IntKind.i64 0, AV.int IntKind.i64 0, AV.str []]).objs σ1.no = some [AV.int IntKind.i64 1, AV.int IntKind.i64 2, AV.int IntKind.i64 v, AV.int IntKind.i64 0, AV.int IntKind.i64 0, AV.str []] := by simp
    have hn2 : ((σ1.newO [AV.int IntKind.i64 0, AV.int IntKind.i64 0, AV.int IntKind.i64 0, AV.int IntKind.i64 0, AV.int IntKind.i64 0, AV.str []]).setO σ1.no [AV.int IntKind.i64 1, AV.int IntKind.i64 2, AV.int IntKind.i64 v, AV.int IntKind.i64 0, AV.int IntKind.i64 0, AV.str []]).no = σ1.no + 1 := by simp
    generalize (σ1.newO [AV.int IntKind.i64 0, AV.int IntKind.i64 0, AV.int IntKind.i64 0, AV.int IntKind.i64 0, AV.int IntKind.i64 0, AV.str []]).setO σ1.no [AV.int IntKind.i64 1, AV.int IntKind.i64 2, AV.int IntKind.i64 v, AV.int IntKind.i64 0, AV.int IntKind.i64 0, AV.str []] = σ2 at *
    refine numberW_calls fun σ3 A3 => ?_
    have hv3 := (A3.obj _ (by omega)).trans hv2
    have hn3 := A3.no
    simp [W.av, W.cs, numW, splice, hv3]
    refine numberW_calls fun σ4 A4 => ?_
    have hv4 := (A4.obj _ (by omega)).trans hv3
    simp [W.av, W.cs, numW, splice, hv4]
    refine bytes_loop V (t := 2) (n := 8) (at_ := p) (v := v) (g := σ4.nf) (by omega) huu hvr hp ?_ ?_ ?_ ?_ ?_ ?_ ?_ h
    all_goals first | (simp [headW, W.av, W.cs, numW, ldW, stW, extW, tellW]; done) | rfl
end Go.Proofs.YthifgodgfhbnfaaDoor
