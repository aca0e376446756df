/- Part of the proofs of layer 26's statements: R0 (what the functions of lines and of its reference do, under the conditions that each theorem names). -/
import Derived.Test.YtmbibfeiemblkaaDoorL16
import Derived.Test.YtmbibfeiemblkaaDoorTie
import Derived.Lib.LaidTab
import Derived.ProofKit
import Derived.OpenShut
import Derived.ChangeOld
import Derived.ChangeSame
import Derived.ChangeVars
import Derived.LaidLaws
import Derived.LaidHandle
import Derived.ShapedOpen
set_option linter.unusedSimpArgs false
set_option linter.unusedVariables false
namespace Go
open Go.ChangeShapes Go.WideShapes Go.ChangeAt Go.RowKit
/-- as the kit's 'returnsInHanded_of_change_and'; the contract is told besides that the variables are shaped -/
theorem returnsInHanded_of_change_and_shaped {H : Type} {enc : TypeId × Value → H} {a : Assume} {C : Checked} {os : Os} {f : FuncId} {fn : Func} {s : ChangeSpec} {conds : List PathCond} {apart fresh handsOn again : Bool} {X : World → Array Value → Prop}
    (hX : ∀ (w w' : World) (args : Array Value), w.heap = w'.heap → X w args → X w' args)
    (own : ownKnob C.prog.godebug = none) (started : os.Started) (noInit : C.prog.inits.idxOf? f = none) (hfn : C.prog.funcs[f]? = some fn)
    (witness : ∃ (w : World) (tape : Tape) (i : Input), w.os = os ∧ (w.forCall tape i).Shaped C.prog ∧ i.vars = [] ∧ Input.okWide C.prog (w.forCall tape i) .any w.heap.size f i ∧
      ((s.pre enc C.prog fn conds apart (w.forCall tape i).memory i.args ∧ X (w.forCall tape i).memory i.args) ∧ sizedMet enc C.prog fn (OpenSpec.ofChange s) apart (w.forCall tape i).memory i.args) ∧ a.holds C.prog (lone (Frame.enter C.prog f i.args .normal) [] (w.forCall tape i)))
    (contract : ∀ (W : World) (base : Nat) (args : Array Value) (ds gs : List (DataW H)) (before : List MemPlace),
      (∀ (j : Nat) t v, fn.params[j]? = some t → args[j]? = some v → Value.okWide C.prog W .any base t v) →
      DataW.Whole enc C.prog fn.params.toList s.vars apart W args.toList ds gs before → W.ShapedOpen C.prog → X W args →
      Calls C.prog f args W fun e W' => ∃ v, e = .returned v ∧ s.post enc C.prog fn apart fresh handsOn again W args v W') :
    ReturnsInHanded a C os f .any (fun w args => (s.pre enc C.prog fn conds apart w args ∧ X w args) ∧ sizedMet enc C.prog fn (OpenSpec.ofChange s) apart w args) (s.post enc C.prog fn apart fresh handsOn again) := by
  refine returnsInHanded_of_calls own started noInit witness ?_
  intro w tape i _ hsh _ hok hpre hholds
  obtain ⟨_, _, _, fn', hfn', _, _, _, _, hval⟩ := hok
  have e : fn' = fn := Option.some.inj (hfn'.symm.trans hfn)
  subst e
  obtain ⟨⟨⟨ds, gs, before, hw, hc⟩, hx⟩, hz⟩ := hpre
  have hw' := DataW.Whole.of_heap (w' := w.forCall tape i) (by rfl) hw
  refine (contract (w.forCall tape i) w.heap.size i.args ds gs before hval hw' hsh (hX _ _ _ (by rfl) hx)).mono fun e W' ⟨v, he, hp⟩ => ?_
  subst he
  exact ChangeSpec.post_blind hp
/-- an array of strings that reads as the list holds its strings, cell for cell -/
theorem cells_of_strs {H : Type} {enc : TypeId × Value → H} {P : Program} {w : World} {base : Nat} {sp : Nat → Bool} {held : Bool} {fuel : Nat} {t e : TypeId} {n : Nat} {cs : List Value} {ls : List (List UInt8)} {p : List MemPlace}
    (ht : P.underlying t = some (.array n e)) (he : P.underlying e = some .string) (hce : P.cellsOf e = 1) (hct : P.cellsOf t = n)
    (h : DataW.trod enc P w base sp held fuel t cs = some (.agg (ls.map fun l => .lit (.string l)), p)) : cs = ls.map fun l => Value.string ⟨l.toArray⟩ := by
  cases fuel with
  | zero => simp [DataW.trod] at h
  | succ fuel =>
    simp only [DataW.trod, ht, hce, hct, Nat.mul_one] at h
    split at h
    · rename_i hl
      obtain ⟨xs, hm, hx⟩ := Option.map_eq_some_iff.1 h
      have hxs : xs.map (·.1) = ls.map fun l => (DataW.lit (.string l) : DataW H) := by
        have := congrArg Prod.fst hx
        simpa using this
      have hxl : xs.length = n := by simpa using Lib.mapM_length hm
      have hzl : ls.length = n := by
        have := congrArg List.length hxs
        simp at this
        omega
      apply List.ext_getElem?
      intro i
      by_cases hi : i < n
      · obtain ⟨b, hb, hf⟩ := Lib.mapM_at hm i i (by simp [hi])
        obtain ⟨s, hc, rfl, _⟩ := DataW.trod_string he hf
        have h1 : cs[i]? = some (.string s) := by
          have := congrArg (·[0]?) hc
          simpa [List.getElem?_take, List.getElem?_drop] using this
        have h2 : (xs.map (·.1))[i]? = some (DataW.lit (.string s.data.toList) : DataW H) := by simp [hb]
        rw [hxs] at h2
        simp only [List.getElem?_map, Option.map_eq_some_iff, DataW.lit.injEq, Lit.string.injEq] at h2
        obtain ⟨l, hl1, hl2⟩ := h2
        simp [h1, hl1, hl2]
      · rw [List.getElem?_eq_none (by omega), List.getElem?_eq_none (by simp; omega)]
    · cases h
end Go
namespace Go.Proofs.YtmbibfeiemblkaaDoor
open Go Go.Abs Go.RowKit
theorem own : ownKnob Tryd.prog.godebug = none := by kernel_rfl
abbrev LAID : List (String × DataW Unit) := [("math/bits.deBruijn32tab", Rows.laid_math_bits_deBruijn32tab), ("math/bits.deBruijn64tab", Rows.laid_math_bits_deBruijn64tab), ("internal/strconv.uint64pow10", Rows.laid_internal_strconv_uint64pow10), ("mortise/lines.reasons", Rows.laid_mortise_lines_reasons)]
theorem laid_tail {P : Program} {x : String × DataW Unit} {l : List (String × DataW Unit)} {w : World} (h : laidMet P (x :: l) w) : laidMet P l w := by
  obtain ⟨n, d⟩ := x
  obtain ⟨ps, ⟨g, t, cs, fuel, p, q, h1, h2, h3, h4, h5, rfl⟩, hn, hc⟩ := h
  exact ⟨q, h5, (List.nodup_append.1 hn).2.1, fun b off hm => hc b off (List.mem_append_right _ hm)⟩
theorem wok_of_laid {W : World} (hs : W.ShapedOpen Tryd.prog) (hl : laidMetH Tryd.prog LAID W) : ∃ m, WOk m W := by
  have hl0 : laidMet Tryd.prog LAID W := hl
  have h3 := laid_tail (laid_tail hl0)
  have hpow : Lib.TabIs Tryd.prog W "internal/strconv.uint64pow10" .u64 Lib.pow10Tab :=
    Lib.tabIs_of_head (g := 1) (t := 92) (e := 80) (n := 20) (by kernel_rfl) (by kernel_rfl) (by kernel_rfl) (by kernel_rfl) (by kernel_rfl) (by kernel_rfl) h3
  have h4 := laid_tail h3
  obtain ⟨m, hm⟩ := Tryd.laysM145.s1_3 W hs
  obtain ⟨ps, ⟨g, t, cs, fuel, p, q, g1, g2, g3, g4, _, _⟩, _⟩ := h4
  have hg0 : g = 0 := Option.some.inj (g1.symm.trans (show Tryd.prog.globalNamed "mortise/lines.reasons" = some 0 by kernel_rfl))
  subst hg0
  have ht0 : t = 65 := Option.some.inj (g2.symm.trans (show (Tryd.prog.globals[0]?).map (·.type) = some 65 by kernel_rfl))
  subst ht0
  have hcs : cs.toList = reasons.map fun l => Value.string ⟨l.toArray⟩ := cells_of_strs (n := 15) (e := 9) (ls := reasons) (by kernel_rfl) (by kernel_rfl) (by kernel_rfl) (by kernel_rfl) g4
  have hv1 : ∃ t fr, W.heap[1]? = some (.cells (Lib.pow10Tab.map fun z => Value.int .u64 z).toArray t fr) := by
    have hn : Tryd.prog.globalNamed "internal/strconv.uint64pow10" = some 1 := by kernel_rfl
    unfold Lib.TabIs World.var? at hpow
    rw [hn] at hpow
    simp only [Option.bind_some] at hpow
    split at hpow
    · rename_i c t fr hh
      cases hpow
      exact ⟨t, fr, hh⟩
    · cases hpow
  have hv0 : ∀ j, W.cell? ⟨0, j, none⟩ = cs[j]? := fun j => by
    have := World.var?_cell (show Tryd.prog.globalNamed "mortise/lines.reasons" = some 0 by kernel_rfl) g3 j
    simpa using this
  obtain ⟨t1, fr1, hh1⟩ := hv1
  have hl0' : 0 < W.heap.size := by
    have := World.block_lt_of_cell? W _ hm
    omega
  have hl1' : 1 < W.heap.size := (Array.getElem?_eq_some_iff.1 hh1).1
  have hl2' : 2 < W.heap.size := World.block_lt_of_cell? W _ hm
  refine ⟨m, ⟨⟨fun x => ?_, fun _ h => h.elim, fun B c h => ?_⟩⟩⟩
  · match x with
    | 0 =>
      refine .pv _ _ 0 0 (fun j => (reasons.map fun l => Value.string ⟨l.toArray⟩).getD j undef) (by simp [Mem, Mp.all, hl0']) (fun _ j hj => ?_) (fun _ j hj => ?_)
      · have hj' : j < reasons.length := by simpa [AV.cells] using hj
        rw [Nat.zero_add, hv0 j, ← Array.getElem?_toList, hcs, List.getD_eq_getElem?_getD, List.getElem?_eq_getElem (by simpa using hj')]
        rfl
      · have hj' : j < reasons.length := by simpa [AV.cells] using hj
        have := VR.str (M := Mp.all W) (F := AS.zero.F) (w := W) ⟨reasons[j].toArray⟩
        have e2 : (reasons.map fun l => Value.string ⟨l.toArray⟩).getD j undef = .string ⟨reasons[j].toArray⟩ := by
          rw [List.getD_eq_getElem?_getD, List.getElem?_eq_getElem (by simpa using hj')]; simp
        rw [e2]
        simpa [AV.cells] using this
    | 1 =>
      refine .pv _ _ 1 0 (fun j => (Lib.pow10Tab.map fun z => Value.int .u64 z).getD j undef) (by simp [Mem, Mp.all, hl1']) (fun _ j hj => ?_) (fun _ j hj => ?_)
      · have hj' : j < Lib.pow10Tab.length := by simpa [AV.cells] using hj
        rw [Nat.zero_add, List.getD_eq_getElem?_getD, List.getElem?_eq_getElem (by simpa using hj')]
        simp [World.cell?, hh1, hj']
      · have hj' : j < Lib.pow10Tab.length := by simpa [AV.cells] using hj
        have e2 : (Lib.pow10Tab.map fun z => Value.int .u64 z).getD j undef = .int .u64 Lib.pow10Tab[j] := by
          rw [List.getD_eq_getElem?_getD, List.getElem?_eq_getElem (by simpa using hj')]; simp
        rw [e2]
        simpa [AV.cells] using VR.int (M := Mp.all W) (F := AS.zero.F) (w := W) .u64 Lib.pow10Tab[j]
    | 2 =>
      refine .pv _ _ 2 0 (fun j => .int .i64 m) (by simp [Mem, Mp.all, hl2']) (fun _ j hj => ?_) (fun _ j hj => ?_)
      · have hj' : j = 0 := by simpa [AV.cells] using hj
        subst hj'
        exact hm
      · have hj' : j = 0 := by simpa [AV.cells] using hj
        subst hj'
        exact VR.int ..
    | n + 3 => exact .undef _
  · simp only [GL] at h
    split at h
    · rename_i hB
      subst hB
      cases h
      exact ⟨by simp [Mp.all, hl1'], t1, fr1, hh1⟩
    · cases h
def layIn (cs : Array Value) : Obj → Obj
  | .cells _ t fr => .cells cs t fr
  | o => o
/-- the settled world with the tables laid: the witness -/
noncomputable def laidWorld (os : Os) : World :=
  let w0 := World.holding Tryd.prog os ⟨#[], #[], []⟩
  { w0 with heap := (((w0.heap.modify 0 (layIn (reasons.map fun l => Value.string ⟨l.toArray⟩).toArray)).modify 1 (layIn (Lib.pow10Tab.map fun z => Value.int .u64 z).toArray)).modify 3
      (layIn (([0, 1, 28, 2, 29, 14, 24, 3, 30, 22, 20, 15, 25, 17, 4, 8, 31, 27, 13, 23, 21, 19, 16, 7, 26, 12, 18, 6, 11, 5, 10, 9] : List Int).map fun z => Value.int .u8 z).toArray)).modify 4 (layIn (([0, 1, 56, 2, 57, 49, 28, 3, 61, 58, 42, 50, 38, 29, 17, 4, 62, 47, 59, 36, 45, 43, 51, 22, 53, 39, 33, 30, 24, 18, 12, 5, 63, 55, 48, 27, 60, 41, 37, 16, 46, 35, 44, 21, 52, 32, 23, 11, 54, 26, 40, 15, 34, 20, 31, 10, 25, 14, 19, 9, 13, 8, 7, 6] : List Int).map fun z => Value.int .u8 z).toArray) }
theorem laid_met (os : Os) (args : Array Value) : laidMetH Tryd.prog LAID ((laidWorld os).forCall (fun _ _ => 0) ⟨#[], args, []⟩).memory :=
  show laidMet Tryd.prog LAID _ from laidMet_of_run' 8 (by kernel_rfl) (by kernel_rfl)
end Go.Proofs.YtmbibfeiemblkaaDoor
