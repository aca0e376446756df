/- Part of the proofs of layer 26's statements: L16 (what the functions of lines and of its reference do, under the conditions that each theorem names). -/
import Derived.Test.YtmbibfeiemblkaaDoorL15
set_option linter.unusedSimpArgs false
set_option linter.unusedVariables false
namespace Go.Proofs.YtmbibfeiemblkaaDoor
open Go Go.Abs
theorem aeq_ptr29 (x o : Nat) : aeq Tryd.prog 29 (.ptr x o) .nilp = some false := by simp [aeq, aeq1, show Tryd.prog.underlying 29 = some (.pointer 58) from by kernel_rfl]
theorem aeq_bool4 (x y : Bool) : aeq Tryd.prog 4 (.bool x) (.bool y) = some (x == y) := by simp [aeq, aeq1, show Tryd.prog.underlying 4 = some .bool from by kernel_rfl]
@[simp] theorem abin_ptr29 (x o : Nat) (K : AV → Prop) : abin Tryd.prog .eql 29 (.ptr x o) .nilp K = K (.bool false) := by simp [abin, aeq_ptr29]
@[simp] theorem abin_neq4 (x y : Bool) (K : AV → Prop) : abin Tryd.prog .neq 4 (.bool x) (.bool y) K = K (.bool (!(x == y))) := by simp [abin, aeq_bool4]
@[simp] theorem abin_eql4 (x y : Bool) (K : AV → Prop) : abin Tryd.prog .eql 4 (.bool x) (.bool y) K = K (.bool (x == y)) := by simp [abin, aeq_bool4]
theorem LineP_calls {G : Env} (V : Vars G) {t : List UInt8} {n : Int} {σ : AS} {R : Out → AS → Prop} (hl : t.length ≤ 2 ^ 30) (h : ∀ σ', Adds σ σ' → R (.ret (.str (lineP t n))) σ') : ACalls Tryd.prog G 12 [.str t, .int .i64 n] σ R := Line_calls V hl h
theorem linesTell_calls {m : Int} {t : List UInt8} {no at_ n c : Int} {σ : AS} {R : Out → AS → Prop} (h : ∀ σ', R (.ret (.bool true)) σ') : ACalls Tryd.prog (GL m) 4 [.agg [.str t, .int .i64 no, .int .i64 at_, .int .i64 n, .int .i64 c]] σ R := by
  refine calls4 rfl ?_
  by_cases hl : (1024 : Int) < (t.length : Int)
  · simp [pc4, hl]
    refine known_calls fun σ' _ => ?_
    simp
    exact h _
  · have hl' : t.length ≤ 2 ^ 30 := by omega
    simp [pc4, hl, splice]
    refine where_calls hl' fun σ1 A1 => ?_
    have o1 : σ1.objs (σ.no + 1) = some [.int .i64 no, .int .i64 at_] := (A1.obj (σ.no + 1) (by simp)).trans (by simp)
    have n1 : σ.no + 1 < σ1.no := Nat.lt_of_lt_of_le (by simp) A1.no
    simp [o1]
    refine refWhere_calls hl' ?_
    simp
    refine place_calls (GL_vars m) hl' fun σ2 A2 => ?_
    simp
    refine refPlace_same hl' ?_
    simp
    refine table_calls hl' fun x σ3 _ ht A3 => ?_
    have o3 : σ3.objs (σ.no + 1) = some [.int .i64 no, .int .i64 at_] := ((A2.trans A3).obj (σ.no + 1) n1).trans o1
    simp [o3]
    refine lwhere_calls ht hl' fun σ4 A4 => ?_
    simp
    have o4 : σ4.objs (σ.no + 1) = some [.int .i64 no, .int .i64 at_] := (A4.obj (σ.no + 1) (Nat.lt_of_lt_of_le n1 (A2.trans A3).no)).trans o3
    have n4 : σ.no + 1 < σ4.no := Nat.lt_of_lt_of_le n1 ((A2.trans A3).trans A4).no
    have hlen : (strs (allL t)).length = (begins t).length := by rw [allL_eq]; simp [strs, linesAt]
    refine len_calls (ht.mono A4) ?_
    simp
    refine refAll_calls hl' fun σ5 f5 A5 _ _ => ?_
    simp [hlen]
    refine LineP_calls (GL_vars m) hl' fun σ6 A6 => ?_
    simp
    refine refLine_calls hl' fun σ7 A7 => ?_
    have o7 : σ7.objs (σ.no + 1) = some [.int .i64 no, .int .i64 at_] := (((A5.trans A6).trans A7).obj (σ.no + 1) n4).trans o4
    rw [line_eq]
    simp [o7]
    refine reason_calls (GL_vars m) ?_
    simp [o7]
    refine refReason_calls ?_
    simp [o7]
    refine tell_calls hl' no at_ ?_
    simp [o7]
    refine refTell_calls hl' (line_eq t) fun σ8 A8 => ?_
    simp
    refine known_calls fun σ9 A9 => ?_
    simp
    exact h _
end Go.Proofs.YtmbibfeiemblkaaDoor
