/- Part of the proofs of layer 26's statements: L15 (what the functions of lines and of its reference do, under the conditions that each theorem names). -/
import Derived.Test.YtmbibfeiemblkaaDoorL14
set_option linter.unusedSimpArgs false
set_option linter.unusedVariables false
namespace Go.Proofs.YtmbibfeiemblkaaDoor
open Go Go.Abs
theorem beginsFrom_succ (k : Nat) (t : List UInt8) : beginsFrom (k + 1) t = (beginsFrom k t).map (· + 1) := by
  induction t generalizing k with
  | nil => rfl
  | cons c t ih =>
    simp only [beginsFrom]
    split
    · rw [List.map_cons, ih (k + 1)]
    · exact ih (k + 1)
def linesAt (t : List UInt8) : List (List UInt8) := (begins t).map fun b => (t.drop b).takeWhile (· ≠ 10)
/-- what a first sign does to the lines -/
theorem linesAt_cons (c : UInt8) (t : List UInt8) : linesAt (c :: t) = if c = 10 then [] :: linesAt t else match linesAt t with | [] => [] | l :: ls => (c :: l) :: ls := by
  have e : ∀ L : List Nat, (L.map (· + 1)).map (fun b => ((c :: t).drop b).takeWhile (· ≠ 10)) = L.map fun b => (t.drop b).takeWhile (· ≠ 10) := by
    intro L; rw [List.map_map]; rfl
  unfold linesAt begins
  simp only [beginsFrom]
  by_cases hc : c = 10
  · subst hc
    simp only [if_true, List.map_cons, List.drop_zero]
    rw [show (List.takeWhile (fun x => decide (x ≠ 10)) ((10 : UInt8) :: t)) = [] from by simp]
    rw [beginsFrom_succ 0 t]
    have := e (0 :: beginsFrom 0 t)
    simp only [List.map_cons, Nat.zero_add, List.drop_zero] at this
    simp only [List.map_cons, Nat.zero_add]
    rw [this]
  · simp only [if_neg hc, List.map_cons, List.drop_zero]
    rw [beginsFrom_succ 0 t]
    have := e (beginsFrom 0 t)
    simp only [Nat.zero_add] at this ⊢
    rw [this, List.takeWhile_cons, if_pos (by simpa using hc)]
theorem allL_eq (t : List UInt8) : allL t = linesAt t := by
  have key : ∀ (t : List UInt8) (X : List (List UInt8)) (cur : List UInt8), (fun s : List (List UInt8) × List UInt8 => s.1 ++ [s.2]) (t.foldl (fun s c => if c = 10 then (s.1 ++ [s.2], []) else (s.1, s.2 ++ [c])) (X, cur)) = X ++ (match linesAt t with | [] => [cur] | l :: ls => (cur ++ l) :: ls) := by
    intro t
    induction t with
    | nil => intro X cur; simp [linesAt, begins, beginsFrom]
    | cons c t ih =>
      intro X cur
      rw [List.foldl_cons, linesAt_cons]
      have hne : ∃ l ls, linesAt t = l :: ls := ⟨_, _, rfl⟩
      obtain ⟨l, ls, hl⟩ := hne
      by_cases hc : c = 10
      · rw [if_pos hc, if_pos hc, ih, hl]
        simp
      · rw [if_neg hc, if_neg hc, ih, hl]
        simp
  have := key t [] []
  refine Eq.trans (show allL t = _ from this) ?_
  simp only [List.nil_append]
  unfold linesAt begins
  simp
theorem line_eq (t : List UInt8) (n : Int) : lineR t n = lineP t n := by
  unfold lineR lineP
  rw [allL_eq]
  have hlen : (linesAt t).length = (begins t).length := by simp [linesAt]
  rw [hlen]
  by_cases h : isLine t n = true
  · have h' := h
    simp only [isLine, Bool.and_eq_true, decide_eq_true_eq] at h'
    obtain ⟨k, hk⟩ : ∃ k : Nat, n = (k : Int) + 1 := ⟨(n - 1).toNat, by omega⟩
    subst hk
    have hlt : k < (begins t).length := by omega
    have e1 : ((k : Int) + 1 - 1).toNat = k := by omega
    have e2 : ((k : Int) + 1).toNat = k + 1 := by omega
    rw [if_neg (by omega), if_pos h, e1, e2]
    simp [lineText, beginOf, linesAt, hlt]
  · have h' := h
    simp only [isLine, Bool.and_eq_true, decide_eq_true_eq] at h'
    rw [if_pos (by omega), if_neg h]
theorem beginsFrom_mem (k x : Nat) (t : List UInt8) : x ∈ beginsFrom k t ↔ ∃ j, t[j]? = some 10 ∧ x = k + j + 1 := by
  induction t generalizing k with
  | nil => simp [beginsFrom]
  | cons c t ih =>
    have step : (∃ j, (c :: t)[j]? = some 10 ∧ x = k + j + 1) ↔ (c = 10 ∧ x = k + 1) ∨ ∃ j, t[j]? = some 10 ∧ x = k + 1 + j + 1 := by
      constructor
      · rintro ⟨j, h1, h2⟩
        cases j with
        | zero => left; simp at h1; exact ⟨h1, by omega⟩
        | succ j => right; exact ⟨j, by simpa using h1, by omega⟩
      · rintro (⟨h1, h2⟩ | ⟨j, h1, h2⟩)
        · exact ⟨0, by simp [h1], by omega⟩
        · exact ⟨j + 1, by simpa using h1, by omega⟩
    rw [step]
    simp only [beginsFrom]
    split
    · rename_i hc
      rw [List.mem_cons, ih]
      simp [hc]
    · rename_i hc
      rw [ih]
      simp [hc]
theorem begins_mem (t : List UInt8) (j : Nat) (h : t[j]? = some 10) : j + 1 ∈ begins t := by
  unfold begins
  exact List.mem_cons_of_mem _ ((beginsFrom_mem 0 _ t).2 ⟨j, h, by omega⟩)
theorem tw_len (l : List UInt8) (k : Nat) (hk : k ≤ l.length) (h : ∀ j, j < k → l[j]? ≠ some 10) : k ≤ (l.takeWhile (· ≠ 10)).length := by
  induction l generalizing k with
  | nil => simpa using hk
  | cons c l ih =>
    cases k with
    | zero => exact Nat.zero_le _
    | succ k =>
      have hc : c ≠ 10 := by have := h 0 (by omega); simpa using this
      rw [List.takeWhile_cons, if_pos (by simpa using hc), List.length_cons]
      exact Nat.succ_le_succ (ih k (by simpa using hk) fun j hj => by have := h (j + 1) (by omega); simpa using this)
theorem tw_no (l : List UInt8) (j : Nat) (h : j < (l.takeWhile (· ≠ 10)).length) : l[j]? ≠ some 10 := by
  induction l generalizing j with
  | nil => simp at h
  | cons c l ih =>
    rw [List.takeWhile_cons] at h
    by_cases hc : c = 10
    · rw [if_neg (by simp [hc])] at h; simp at h
    · rw [if_pos (by simpa using hc), List.length_cons] at h
      cases j with
      | zero => simpa using hc
      | succ j => simpa using ih j (by omega)
theorem place_at (t : List UInt8) (p : Nat) (hp : p ≤ t.length) : placeP t ((wp t p).1 : Int) ((wp t p).2 : Int) = ((p : Int), true) := by
  have h1 := lineOf_pos t p
  have h2 := lineOf_le t p
  have h3 := beginOf_le t p
  have hlast := beginOf_eq t p
  have hno : ∀ j, beginOf t (lineOf t p) ≤ j → j < p → t[j]? ≠ some 10 := by
    intro j hj hjp he
    have hm : j + 1 ∈ begins (t.take p) := begins_mem _ j (by rw [List.getElem?_take]; simp [hjp, he])
    obtain ⟨i, hi, hie⟩ := List.getElem_of_mem hm
    rw [List.getLast_eq_getElem] at hlast
    have hs := begins_sorted (t.take p)
    rcases Nat.lt_or_ge i ((begins (t.take p)).length - 1) with hlt | hge
    · have := List.pairwise_iff_getElem.1 hs i ((begins (t.take p)).length - 1) hi (by omega) hlt
      omega
    · have : i = (begins (t.take p)).length - 1 := by omega
      subst this
      omega
  have hL : p - beginOf t (lineOf t p) ≤ (lineText t (lineOf t p)).length := by
    unfold lineText
    refine tw_len _ _ (by simp; omega) fun j hj => ?_
    rw [List.getElem?_drop]
    exact hno _ (by omega) (by omega)
  unfold placeP wp isLine
  simp only [Int.toNat_natCast]
  rw [if_pos]
  · simp; omega
  · simp; omega
theorem place_none (t : List UInt8) (n c : Int) (h : ∀ i, i ≤ t.length → ¬ atP t n c i) : placeP t n c = (0, false) := by
  unfold placeP
  split
  · rename_i hc
    exfalso
    simp only [isLine, Bool.and_eq_true, decide_eq_true_eq] at hc
    obtain ⟨⟨⟨q1, q2⟩, q3⟩, q4⟩ := hc
    obtain ⟨k, hk⟩ : ∃ k : Nat, n = (k : Int) + 1 := ⟨(n - 1).toNat, by omega⟩
    obtain ⟨d, hd⟩ : ∃ d : Nat, c = (d : Int) + 1 := ⟨(c - 1).toNat, by omega⟩
    subst hk hd
    have e2 : ((k : Int) + 1).toNat = k + 1 := by omega
    rw [e2] at q4
    have hlt : k < (begins t).length := by omega
    have hb : beginOf t (k + 1) = (begins t)[k] := by simp [beginOf, hlt]
    have hble : (begins t)[k] ≤ t.length := by
      have := List.getElem_mem hlt
      generalize (begins t)[k] = x at this
      rcases List.mem_cons.1 this with h0 | h0
      · omega
      · have := beginsFrom_le 0 t _ h0; omega
    have hL : (lineText t (k + 1)).length ≤ t.length - (begins t)[k] := by
      unfold lineText
      rw [hb]
      exact Nat.le_trans (List.takeWhile_sublist _).length_le (by simp)
    have hline : lineOf t ((begins t)[k] + d) = k + 1 := by
      unfold lineOf
      refine takeWhile_eq (begins t) (k + 1) (by omega) (fun j hj hjk => ?_) (fun hr => ?_)
      · rcases Nat.lt_or_ge j k with hjk2 | hjk2
        · have := List.pairwise_iff_getElem.1 (begins_sorted t) j k hj hlt hjk2
          simp; omega
        · have : j = k := by omega
          subst this; simp
      · have hs := List.pairwise_iff_getElem.1 (begins_sorted t) k (k + 1) hlt hr (by omega)
        rw [decide_eq_false_iff_not]; apply Nat.not_le.2
        apply Nat.lt_of_not_le
        intro hle
        have hm := List.getElem_mem hr
        have : ∃ j, t[j]? = some 10 ∧ (begins t)[k + 1] = j + 1 := by
          generalize (begins t)[k + 1] = x at hm hs
          rcases List.mem_cons.1 hm with h0 | h0
          · omega
          · obtain ⟨j, hj1, hj2⟩ := (beginsFrom_mem 0 _ t).1 h0
            exact ⟨j, hj1, by omega⟩
        obtain ⟨j, hj1, hj2⟩ := this
        have hno := tw_no (t.drop ((begins t)[k])) (j - (begins t)[k]) (by
          have : (lineText t (k + 1)).length = ((t.drop ((begins t)[k])).takeWhile (· ≠ 10)).length := by unfold lineText; rw [hb]
          rw [← this]; omega)
        rw [List.getElem?_drop] at hno
        exact hno (by rw [show (begins t)[k] + (j - (begins t)[k]) = j from by omega]; exact hj1)
    refine h ((begins t)[k] + d) (by omega) ⟨?_, ?_⟩
    · show ((lineOf t _ : Nat) : Int) = _
      rw [hline]; rfl
    · show (((begins t)[k] + d - beginOf t (lineOf t ((begins t)[k] + d)) + 1 : Nat) : Int) = _
      rw [hline, hb]; omega
  · rfl
theorem refPlace_same {G : Env} {t : List UInt8} {n c : Int} {σ : AS} {R : Out → AS → Prop} (hl : t.length ≤ 2 ^ 30) (h : R (.ret (.tuple [.int .i64 (placeP t n c).1, .bool (placeP t n c).2])) σ) : ACalls Tryd.prog G 15 [.str t, .int .i64 n, .int .i64 c] σ R := by
  refine refPlace_calls hl (fun i hi ha => ?_) (fun hn => ?_)
  · have := place_at t i hi
    rw [ha.1, ha.2] at this
    rw [this] at h
    exact h
  · rw [place_none t n c hn] at h
    exact h
end Go.Proofs.YtmbibfeiemblkaaDoor
