/- Part of the proofs of layer 26's statements: L3 (what the functions of lines and of its reference do, under the conditions that each theorem names). -/
import Derived.Test.YtmbibfeiemblkaaDoorL2
set_option linter.unusedSimpArgs false
set_option linter.unusedVariables false
namespace Go.Proofs.YtmbibfeiemblkaaDoor
open Go Go.Abs
theorem beginsFrom_gt (k : Nat) (t : List UInt8) : ∀ x ∈ beginsFrom k t, k < x := by
  induction t generalizing k with
  | nil => simp [beginsFrom]
  | cons c t ih =>
    intro x hx
    simp only [beginsFrom] at hx
    split at hx
    · rcases List.mem_cons.1 hx with rfl | hx
      · omega
      · have := ih (k + 1) x hx; omega
    · have := ih (k + 1) x hx; omega
theorem beginsFrom_sorted (k : Nat) (t : List UInt8) : (beginsFrom k t).Pairwise (· < ·) := by
  induction t generalizing k with
  | nil => simp [beginsFrom]
  | cons c t ih =>
    simp only [beginsFrom]
    split
    · exact List.pairwise_cons.2 ⟨fun x hx => beginsFrom_gt (k + 1) t x hx, ih (k + 1)⟩
    · exact ih (k + 1)
theorem begins_sorted (t : List UInt8) : (begins t).Pairwise (· < ·) := List.pairwise_cons.2 ⟨fun x hx => beginsFrom_gt 0 t x hx, beginsFrom_sorted 0 t⟩
theorem begins_length (t : List UInt8) : (begins t).length ≤ t.length + 1 := by simp [begins]; exact beginsFrom_length 0 t
theorem takeWhile_eq {p : Nat → Bool} : ∀ (l : List Nat) (r : Nat), r ≤ l.length → (∀ j (h : j < l.length), j < r → p l[j] = true) → (∀ (h : r < l.length), p l[r] = false) → (l.takeWhile p).length = r
  | [], r, h, _, _ => by simp at h; simp [h]
  | x :: l, 0, _, _, h => by
    have := h (by simp)
    simp at this
    simp [this]
  | x :: l, r + 1, h, h1, h2 => by
    have h0 := h1 0 (by simp) (by omega)
    simp at h0
    simp only [List.takeWhile_cons, h0, if_true, List.length_cons]
    rw [takeWhile_eq l r (by simpa using h) (fun j hj hr => h1 (j + 1) (by simpa using hj) (by omega)) (fun hr => h2 (by simpa using hr))]
theorem mem_tw {p : Nat → Bool} : ∀ (l : List Nat) (x : Nat), x ∈ l.takeWhile p → p x = true
  | [], x, h => by simp at h
  | y :: l, x, h => by
    simp only [List.takeWhile_cons] at h
    split at h
    · rcases List.mem_cons.1 h with rfl | h
      · assumption
      · exact mem_tw l x h
    · simp at h
def clamp (t : List UInt8) (at_ : Int) : Nat := (max 0 (min at_ t.length)).toNat
def lineOf (t : List UInt8) (p : Nat) : Nat := ((begins t).takeWhile (· ≤ p)).length
def beginOf (t : List UInt8) (r : Nat) : Nat := (begins t).getD (r - 1) 0
def whereP (t : List UInt8) (at_ : Int) : Nat × Nat := (lineOf t (clamp t at_), clamp t at_ - beginOf t (lineOf t (clamp t at_)) + 1)
theorem lineOf_pos (t p) : 1 ≤ lineOf t p := by simp [lineOf, begins]
theorem lineOf_le (t p) : lineOf t p ≤ (begins t).length := (List.takeWhile_sublist _).length_le
theorem beginOf_le (t p) : beginOf t (lineOf t p) ≤ p := by
  have h1 := lineOf_pos t p
  have h2 := lineOf_le t p
  have hm : (lineOf t p - 1) < ((begins t).takeWhile (· ≤ p)).length := by unfold lineOf at *; omega
  have h3 : ((begins t).takeWhile (· ≤ p))[lineOf t p - 1] ∈ (begins t).takeWhile (· ≤ p) := List.getElem_mem _
  have h4 := mem_tw _ _ h3
  have h5 : (begins t)[lineOf t p - 1]'(by omega) = ((begins t).takeWhile (· ≤ p))[lineOf t p - 1] := by
    exact (List.IsPrefix.getElem (List.takeWhile_prefix _) _).symm
  unfold beginOf
  rw [List.getD_eq_getElem?_getD, List.getElem?_eq_getElem (by omega), h5]
  simpa using h4
theorem clamp_le (t a) : clamp t a ≤ t.length := by unfold clamp; omega

theorem lwhere_calls {G : Env} {t : List UInt8} {x : Nat} {at_ : Int} {σ : AS} {R : Out → AS → Prop} (ht : TableAt σ x t) (hl : t.length ≤ 2 ^ 30) (h : ∀ σ', Adds σ σ' → R (.ret (.tuple [.int .i64 ((whereP t at_).1 : Int), .int .i64 ((whereP t at_).2 : Int)])) σ') : ACalls Tryd.prog G 16 [.ptr x 0, .int .i64 at_] σ R := by
  refine calls16 rfl ?_
  have ht0 := ht
  obtain ⟨hx, b, ho⟩ := ht
  have hbl := begins_length t
  have hcl := clamp_le t at_
  have hc : max 0 (min at_ (t.length : Int)) = (clamp t at_ : Int) := by unfold clamp; omega
  simp [pc16, ho, hc, ints, splice]
  rw [show (begins t).map (fun (n : Nat) => AV.int .i64 (n : Int)) = ints (begins t) from rfl]
  refine search_calls (l := begins t) (by omega) (begins_sorted t) fun r σ1 hr q1 q2 A => ?_
  have hre : r = lineOf t (clamp t at_) := by
    unfold lineOf
    refine (takeWhile_eq (begins t) r hr (fun j hj hjr => ?_) (fun hrl => ?_)).symm
    · have := q1 j hj hjr; simp; omega
    · have := q2 r hrl (Nat.le_refl _); simp; omega
  have hr1 := lineOf_pos t (clamp t at_)
  have hr2 := lineOf_le t (clamp t at_)
  have hb1 := beginOf_le t (clamp t at_)
  rw [← hre] at hr1 hr2 hb1
  have hw1 : IntKind.wrap .i64 ((r : Int) - 1) = ((r - 1 : Nat) : Int) := by rw [wrap_i64] <;> omega
  have hg : (begins t)[r - 1]? = some (beginOf t r) := by
    unfold beginOf
    rw [List.getD_eq_getElem?_getD, List.getElem?_eq_getElem (by omega)]; rfl
  have ho1 := (A.obj x hx).trans ho
  have hw2 : IntKind.wrap .i64 ((clamp t at_ : Int) - (beginOf t r : Int)) = ((clamp t at_ - beginOf t r : Nat) : Int) := by rw [wrap_i64] <;> omega
  have hw3 : IntKind.wrap .i64 (((clamp t at_ - beginOf t r : Nat) : Int) + 1) = ((clamp t at_ - beginOf t r + 1 : Nat) : Int) := by rw [wrap_i64] <;> omega
  have hle : (beginOf t r : Int) ≤ clamp t at_ := by omega
  have := h σ1 A
  unfold whereP at this
  rw [← hre] at this
  simp [ho1, ints, hw1, hg, hw2, hw3]
  exact this

theorem where_calls {G : Env} {t : List UInt8} {at_ : Int} {σ : AS} {R : Out → AS → Prop} (hl : t.length ≤ 2 ^ 30) (h : ∀ σ', Adds σ σ' → R (.ret (.tuple [.int .i64 ((whereP t at_).1 : Int), .int .i64 ((whereP t at_).2 : Int)])) σ') : ACalls Tryd.prog G 9 [.str t, .int .i64 at_] σ R := by
  refine calls9 rfl ?_
  simp [pc9]
  refine table_calls hl fun x σ1 _ ht A1 => ?_
  simp
  refine lwhere_calls ht hl fun σ2 A2 => ?_
  simp
  exact h σ2 (A1.trans A2)
end Go.Proofs.YtmbibfeiemblkaaDoor
