/- Part of the proofs of layer 26's statements: L8 (what the functions of lines and of its reference do, under the conditions that each theorem names). -/
import Derived.Test.YtmbibfeiemblkaaDoorL7
import Derived.WalkSmall
import Derived.WalkKit
import Derived.RegionTactic
import Derived.BigRegion
import Derived.Deep.RegionWith
import Derived.BigCall
import Derived.Lib.AppendIntMem
set_option linter.unusedSimpArgs false
set_option linter.unusedVariables false
namespace Go.Proofs.YtmbibfeiemblkaaDoor
open Go Go.Abs Go.RowKit
/-- the package's variables, MaxLen's value being m -/
def GL (m : Int) : Env where
  g := fun i => match i with
    | 0 => .pv (.stat true) (.agg (reasons.map AV.str))
    | 1 => .pv (.stat true) (.agg (Lib.pow10Tab.map (AV.int .u64)))
    | 2 => .pv (.stat true) (.int .i64 m)
    | _ => .undef
  has := fun _ => False
  y := fun _ _ _ _ _ => False
  fix := fun B => if B = 1 then some (Lib.pow10Tab.map fun z => Value.int .u64 z).toArray else none
theorem GL_vars (m) : Vars (GL m) := ⟨⟨m, rfl⟩, rfl, rfl⟩
/-- the variables are laid -/
structure WOk (m : Int) (w : World) : Prop where
  g : GOk Tryd.prog (GL m) (Mp.all w) AS.zero.F w
theorem WOk.tab {m : Int} {w : World} (h : WOk m w) : Lib.TabIs Tryd.prog w "internal/strconv.uint64pow10" .u64 Lib.pow10Tab := by
  obtain ⟨_, t, fr, hh⟩ := h.g.fixed 1 _ (by simp only [GL]; rfl)
  have hn : Tryd.prog.globalNamed "internal/strconv.uint64pow10" = some 1 := by kernel_rfl
  simp [Lib.TabIs, World.var?, hn, hh]
theorem ext_all {w w' : World} (hb : Below w.heap.size w w') : Ext (Mp.all w) AS.zero.F w (Mp.all w') AS.zero.F w' := by
  have hs := hb.size
  have hrole : ∀ B r, (Mp.all w).role B = some r → B < w.heap.size ∧ (Mp.all w').role B = some r := by
    intro B r h
    simp only [Mp.all] at h ⊢
    split at h
    · rename_i hB
      cases h
      exact ⟨hB, if_pos (by omega)⟩
    · cases h
  refine ⟨⟨hb.os, hb.tape, hb.output⟩, Nat.le_refl _, Nat.le_refl _, fun _ _ => rfl, fun _ _ h => h, fun _ _ h => by rw [h]; simp, hs, fun B c e z h => ?_, fun B h => ?_, fun B hB h => ?_, fun B f hf => ?_, fun B f hf => ?_⟩
  · exact ⟨c, by rw [hb.block B (Array.getElem?_eq_some_iff.1 h).1]; exact h, rfl⟩
  · exact ⟨(hrole B _ h).2, hb.block B (hrole B _ h).1⟩
  · simp [Mp.all, hB] at h
  · exact absurd hf (Nat.not_lt_zero _)
  · exact absurd hf (Nat.not_lt_zero _)
theorem WOk.below {m : Int} {w w' : World} (h : WOk m w) (hb : Below w.heap.size w w') : WOk m w' := ⟨h.g.mono (ext_all hb)⟩
theorem below_trans {a b c : World} (h : Below a.heap.size a b) (k : Below b.heap.size b c) : Below a.heap.size a c := h.trans (k.mono h.size)

theorem cells1 {M F w} {x : AV} {c : Value} (h : VR M F w x c) : Cells M F w [x] #[c] := ⟨rfl, fun j v hj => by
  match j with
  | 0 => simp at hj; subst hj; exact ⟨c, rfl, h⟩
  | j + 1 => simp at hj⟩
theorem cells2 {M F w} {x y : AV} {c d : Value} (h : VR M F w x c) (k : VR M F w y d) : Cells M F w [x, y] #[c, d] := ⟨rfl, fun j v hj => by
  match j with
  | 0 => simp at hj; subst hj; exact ⟨c, rfl, h⟩
  | 1 => simp at hj; subst hj; exact ⟨d, rfl, k⟩
  | j + 2 => simp at hj⟩
theorem str_out {M F w} {l : List UInt8} {c : Value} (h : VR M F w (.str l) c) : c = .string ⟨l.toArray⟩ := by
  cases h with
  | str s => rw [show s = ⟨s.data.toList.toArray⟩ from by cases s; simp]

theorem where_w {m : Int} {w : World} (hw : WOk m w) {s : ByteArray} (hs : s.size ≤ 2 ^ 30) (at_ : Int) : Calls Tryd.prog 9 #[.string s, .int .i64 at_] w fun e w' => e = .returned (.tuple #[.int .i64 ((whereP s.data.toList at_).1 : Int), .int .i64 ((whereP s.data.toList at_).2 : Int)]) ∧ Below w.heap.size w w' := by
  refine (ACalls.run hw.g (cells2 (.str s) (.int .i64 at_)) (where_calls (by simpa using hs) (R := fun o _ => o = .ret (.tuple [.int .i64 ((whereP s.data.toList at_).1 : Int), .int .i64 ((whereP s.data.toList at_).2 : Int)])) fun _ _ => rfl)).mono fun e w' ⟨⟨out, σ', M', h1, h2⟩, hb⟩ => ⟨?_, hb⟩
  subst h1
  cases e with
  | returned v =>
    simp only [OutRel] at h2
    cases h2 with
    | tuple vs A ha va =>
      have h0 := va 0 (by simp) (by rw [ha]; simp)
      have h1 := va 1 (by simp) (by rw [ha]; simp)
      have : A = #[A[0]'(by rw [ha]; simp), A[1]'(by rw [ha]; simp)] := by
        apply Array.ext
        · exact ha
        · intro i hi1 hi2
          match i, hi2 with
          | 0, _ => rfl
          | 1, _ => rfl
      rw [this]
      simp only [List.getElem_cons_zero, List.getElem_cons_succ] at h0 h1
      rw [h0.int_inv, h1.int_inv]
  | panicked ch => simp [OutRel] at h2
  | outgrown => simp [OutRel] at h2
theorem str_w {m : Int} {w : World} (hw : WOk m w) {f : FuncId} {args : List AV} {cargs : Array Value} {l : List UInt8} (hc : Cells (Mp.all w) AS.zero.F w args cargs) (h : ACalls Tryd.prog (GL m) f args AS.zero fun o _ => o = .ret (.str l)) :
    Calls Tryd.prog f cargs w fun e w' => e = .returned (.string ⟨l.toArray⟩) ∧ Below w.heap.size w w' := by
  refine (ACalls.run hw.g hc h).mono fun e w' ⟨⟨out, σ', M', h1, h2⟩, hb⟩ => ⟨?_, hb⟩
  subst h1
  cases e with
  | returned v => simp only [OutRel] at h2; rw [str_out h2]
  | panicked ch => simp [OutRel] at h2
  | outgrown => simp [OutRel] at h2
theorem reason_w {m : Int} {w : World} (hw : WOk m w) (no : Int) : Calls Tryd.prog 19 #[.int .i64 no] w fun e w' => e = .returned (.string ⟨(reasonP no).toArray⟩) ∧ Below w.heap.size w w' :=
  str_w hw (cells1 (.int .i64 no)) (reason_calls (GL_vars m) rfl)
def lineP (t : List UInt8) (n : Int) : List UInt8 := if isLine t n then lineText t n.toNat else []
theorem line_w {m : Int} {w : World} (hw : WOk m w) {s : ByteArray} (hs : s.size ≤ 2 ^ 30) (n : Int) : Calls Tryd.prog 12 #[.string s, .int .i64 n] w fun e w' => e = .returned (.string ⟨(lineP s.data.toList n).toArray⟩) ∧ Below w.heap.size w w' :=
  str_w hw (cells2 (.str s) (.int .i64 n)) (Line_calls (GL_vars m) (by simpa using hs) fun _ _ => rfl)
theorem shown_w {m : Int} {w : World} (hw : WOk m w) {s : ByteArray} (hs : s.size ≤ 2 ^ 30) : Calls Tryd.prog 24 #[.string s] w fun e w' => e = .returned (.string ⟨(shown s.data.toList).toArray⟩) ∧ Below w.heap.size w w' :=
  str_w hw (cells1 (.str s)) (shown_calls (by simpa using hs) fun _ _ => rfl)
theorem itoa_w {m : Int} {w : World} (hw : WOk m w) (n : Int) (h0 : -9223372036854775808 ≤ n) (h1 : n ≤ 9223372036854775807) : Calls Tryd.prog 23 #[.int .i64 n] w fun e w' => e = .returned (.string ⟨(Lib.itoa n).toArray⟩) ∧ Below w.heap.size w w' := by
  refine (Tryd.strconv_Itoa n h0 h1 w hw.tab).mono fun e w' ⟨he, k, os, hw'⟩ => ⟨he, ?_⟩
  subst hw'
  exact Lib.below_grow _ w (Nat.le_refl _) k os
/-- what is fixed is there for whoever looks -/
theorem pv_all {M : Mp} {F : Nat → FSt} {w : World} {v : AV} {c : Value} (h : VR M F w (.pv (.stat true) v) c) (hr : ∀ B r, M.role B = some r → B < w.heap.size) (hv : ∀ x ∈ v.cells, ∀ y, VR M F w x y → VR (Mp.all w) AS.zero.F w x y) : VR (Mp.all w) AS.zero.F w (.pv (.stat true) v) c := by
  cases h with
  | pv φ v B off cs hm hc hvv =>
    refine .pv _ _ B off cs ?_ (fun _ => hc trivial) (fun _ j h => hv _ (List.getElem_mem h) _ (hvv trivial j h))
    simp only [Mem] at hm ⊢
    simp [Mp.all, hr B _ hm]
theorem gok_all {m : Int} {σ : AS} {M : Mp} {w : World} (S : Sim M σ w) (g : GOk Tryd.prog (GL m) M σ.F w) : WOk m w := by
  refine ⟨⟨fun x => ?_, fun _ h => h.elim, fun B cs h => ?_⟩⟩
  · have h := g.vars x
    match x with
    | 0 => exact pv_all h S.role fun x hx y hy => by
             obtain ⟨l, _, rfl⟩ := List.mem_map.1 (show x ∈ reasons.map AV.str from hx)
             cases hy with
             | str s => exact .str s
    | 1 => exact pv_all h S.role fun x hx y hy => by
             obtain ⟨l, _, rfl⟩ := List.mem_map.1 (show x ∈ Lib.pow10Tab.map (AV.int .u64) from hx)
             rw [hy.int_inv]; exact .int _ _
    | 2 => exact pv_all h S.role fun x hx y hy => by
             rw [show x = .int .i64 m from by simpa [AV.cells] using hx] at hy ⊢
             rw [hy.int_inv]; exact .int _ _
    | n + 3 => exact .undef _
  · obtain ⟨hr, t, fr, hh⟩ := g.fixed B cs h
    exact ⟨by simp [Mp.all, S.role B _ hr], t, fr, hh⟩
end Go.Proofs.YtmbibfeiemblkaaDoor
