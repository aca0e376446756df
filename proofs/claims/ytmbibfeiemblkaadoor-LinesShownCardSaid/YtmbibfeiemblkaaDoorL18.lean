/- Part of the proofs of layer 26's statements: L18 (what the functions of lines and of its reference do, under the conditions that each theorem names). -/
import Derived.Test.YtmbibfeiemblkaaDoorL17
set_option linter.unusedSimpArgs false
set_option linter.unusedVariables false
namespace Go.Proofs.YtmbibfeiemblkaaDoor
open Go Go.Abs
/-- what may stand in a line that is told -/
def okB (c : UInt8) : Bool := decide (32 ≤ c) && decide (c ≤ 126)
theorem okB_ne {c : UInt8} (h : okB c = true) : c ≠ 10 := by rintro rfl; simp [okB] at h
theorem okB_digit (d : Nat) (h : d < 10) : okB (UInt8.ofNat (48 + d)) = true := by
  match d, h with
  | 0, _ | 1, _ | 2, _ | 3, _ | 4, _ | 5, _ | 6, _ | 7, _ | 8, _ | 9, _ => decide
theorem okB_dec : ∀ (u : Nat), ∀ c ∈ Lib.decDigits u, okB c = true := by
  intro u
  induction u using Nat.strongRecOn with
  | ind u ih =>
    intro c hc
    rw [Lib.decDigits] at hc
    split at hc
    · rw [List.mem_singleton] at hc; subst hc; exact okB_digit _ ‹_›
    · rcases List.mem_append.1 hc with hc | hc
      · exact ih (u / 10) (by omega) c hc
      · rw [List.mem_singleton] at hc; subst hc; exact okB_digit _ (by omega)
theorem okB_itoa (u : Nat) : ∀ c ∈ Lib.itoa (u : Int), okB c = true := by
  rw [itoa_nat]; exact okB_dec u
theorem okB_reason (no : Int) : ∀ c ∈ reasonP no, okB c = true := by
  unfold reasonP
  split
  · decide
  · rename_i h
    have h1 : no.toNat < 15 := by omega
    generalize no.toNat = k at h1
    revert k
    decide
theorem okB_shown (s : List UInt8) : ∀ c ∈ shown s, okB c = true := by
  intro c hc
  obtain ⟨d, _, rfl⟩ := List.mem_map.1 hc
  unfold showB
  split
  · decide
  · rename_i h
    simp only [okB, Bool.and_eq_true, decide_eq_true_eq]
    exact ⟨UInt8.not_lt.1 fun q => h (.inl q), UInt8.not_lt.1 fun q => h (.inr q)⟩
theorem linesAt_line (l r : List UInt8) (h : ∀ c ∈ l, okB c = true) : linesAt (l ++ 10 :: r) = l :: linesAt r := by
  induction l with
  | nil => rw [List.nil_append, linesAt_cons, if_pos rfl]
  | cons c l ih =>
    rw [List.cons_append, linesAt_cons, if_neg (okB_ne (h c (by simp))), ih fun d hd => h d (by simp [hd])]
theorem linesAt_nil : linesAt [] = [[]] := by simp [linesAt, begins, beginsFrom]
def head1 (r c : Nat) (no : Int) : List UInt8 := Lib.itoa (r : Int) ++ 58 :: (Lib.itoa (c : Int) ++ 58 :: 32 :: reasonP no)
def mark3 (c : Nat) : List UInt8 := List.replicate (c - 1) 32 ++ [94]
theorem tellP_eq (t : List UInt8) (no at_ : Int) : tellP t no at_ = head1 (whereP t at_).1 (whereP t at_).2 no ++ 10 :: (shown (lineP t ((whereP t at_).1 : Int)) ++ 10 :: (mark3 (whereP t at_).2 ++ 10 :: [])) := by
  simp [tellP, head1, mark3]
theorem ok_head1 (r c : Nat) (no : Int) : ∀ x ∈ head1 r c no, okB x = true := by
  intro x hx
  simp only [head1, List.mem_append, List.mem_cons] at hx
  rcases hx with hx | rfl | hx | rfl | rfl | hx
  · exact okB_itoa _ x hx
  · decide
  · exact okB_itoa _ x hx
  · decide
  · decide
  · exact okB_reason _ x hx
theorem ok_mark3 (c : Nat) : ∀ x ∈ mark3 c, okB x = true := by
  intro x hx
  simp only [mark3, List.mem_append, List.mem_replicate, List.mem_singleton] at hx
  rcases hx with ⟨_, rfl⟩ | rfl <;> decide
theorem tellP_lines (t : List UInt8) (no at_ : Int) : linesAt (tellP t no at_) = [head1 (whereP t at_).1 (whereP t at_).2 no, shown (lineP t ((whereP t at_).1 : Int)), mark3 (whereP t at_).2, []] := by
  rw [tellP_eq, linesAt_line _ _ (ok_head1 _ _ _), linesAt_line _ _ (okB_shown _), linesAt_line _ _ (ok_mark3 _), linesAt_nil]
theorem tellP_begins (t : List UInt8) (no at_ : Int) : (begins (tellP t no at_)).length = 4 := by
  have := congrArg List.length (tellP_lines t no at_)
  simpa [linesAt] using this
theorem tellP_line (t : List UInt8) (no at_ : Int) (k : Nat) (h : k < 4) : some (lineP (tellP t no at_) ((k : Int) + 1)) = [head1 (whereP t at_).1 (whereP t at_).2 no, shown (lineP t ((whereP t at_).1 : Int)), mark3 (whereP t at_).2, []][k]? := by
  obtain ⟨h', e⟩ := lineP_at (tellP t no at_) k (by rw [tellP_begins]; exact h)
  rw [e, ← tellP_lines t no at_, List.getElem?_eq_getElem h']
theorem tellP_byte (t : List UInt8) (no at_ : Int) : ∀ c ∈ tellP t no at_, c = 10 ∨ okB c = true := by
  intro c hc
  rw [tellP_eq] at hc
  simp only [List.mem_append, List.mem_cons, List.not_mem_nil, or_false] at hc
  rcases hc with hc | rfl | hc | rfl | hc | rfl
  · exact .inr (ok_head1 _ _ _ c hc)
  · exact .inl rfl
  · exact .inr (okB_shown _ c hc)
  · exact .inl rfl
  · exact .inr (ok_mark3 _ c hc)
  · exact .inl rfl
theorem tellP_len (t : List UInt8) (no at_ : Int) (hl : t.length ≤ 1024) : (tellP t no at_).length ≤ 2 ^ 30 := by
  have h1 := whereP_1 t at_
  have h2 := whereP_2 t at_
  have h3 := lineP_le t ((whereP t at_).1 : Int)
  have h4 := reasonP_le no
  have h5 : (Lib.itoa ((whereP t at_).1 : Int)).length ≤ 21 := Lib.itoa_length_le _ (by omega) (by omega)
  have h6 : (Lib.itoa ((whereP t at_).2 : Int)).length ≤ 21 := Lib.itoa_length_le _ (by omega) (by omega)
  rw [tellP_eq]
  simp only [head1, mark3, shown, List.length_append, List.length_cons, List.length_map, List.length_replicate, List.length_nil]
  omega
theorem mark3_at (c i : Nat) (h : i < c) : (mark3 c)[i]? = some (if i = c - 1 then 94 else 32) := by
  unfold mark3
  by_cases e : i = c - 1
  · rw [if_pos e, List.getElem?_append_right (by rw [List.length_replicate]; omega), List.length_replicate, e, Nat.sub_self]
    rfl
  · rw [if_neg e, List.getElem?_append_left (by rw [List.length_replicate]; omega), List.getElem?_replicate, if_pos (by omega)]
theorem mark3_len (c : Nat) (h : 1 ≤ c) : (mark3 c).length = c := by simp [mark3]; omega
end Go.Proofs.YtmbibfeiemblkaaDoor
