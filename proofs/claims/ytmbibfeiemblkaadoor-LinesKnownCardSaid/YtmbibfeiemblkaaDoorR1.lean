/- Part of the proofs of layer 26's statements: R1 (what the functions of lines and of its reference do, under the conditions that each theorem names). -/
import Derived.Test.YtmbibfeiemblkaaDoorR0
import Derived.Test.YtmbibfeiemblkaaDoorCards
set_option linter.unusedSimpArgs false
set_option linter.unusedVariables false
namespace Go.Proofs.YtmbibfeiemblkaaDoor
open Go Go.Abs Go.RowKit Go.ChangeShapes Go.WideShapes Go.ChangeAt
theorem laidOut : laidOutB Tryd.prog = true := by kernel_rfl
/-- the cells of a sight -/
theorem cells24 {H : Type} {enc : TypeId × Value → H} {w : World} {base : Nat} {sp : Nat → Bool} {held : Bool} {fuel : Nat} {cs : List Value} {x : DataW H × List MemPlace}
    (h : DataW.trod enc Tryd.prog w base sp held fuel 24 cs = some x) : ∃ no at_ : Int, cs = [.int .i64 no, .int .i64 at_] := by
  obtain ⟨xs, n, rfl, hx, hlen, hxl, hf⟩ := DataW.trod_struct Tryd.underlying24 h
  have hxl' : xs.length = 2 := hxl
  have hlen' : cs.length = 2 := hlen.trans (by kernel_rfl)
  match cs, hlen' with
  | [a, b], _ =>
    have f0 := hf 0 _ rfl
    have f1 := hf 1 _ rfl
    rw [List.getElem?_eq_getElem (by omega)] at f0 f1
    obtain ⟨no, h0, _, _⟩ := DataW.trod_int Tryd.underlying22 f0
    obtain ⟨at_, h1, _, _⟩ := DataW.trod_int Tryd.underlying3 f1
    have c22 : Tryd.prog.cellsOf 22 = 1 := by kernel_rfl
    have c3 : Tryd.prog.cellsOf 3 = 1 := by kernel_rfl
    simp [c22, c3] at h0 h1
    exact ⟨no, at_, by rw [h0, h1]⟩
/-- the cells of a text with a sight, a line and a column -/
theorem cells35 {H : Type} {enc : TypeId × Value → H} {w : World} {base : Nat} {sp : Nat → Bool} {held : Bool} {fuel : Nat} {cs : List Value} {x : DataW H × List MemPlace}
    (h : DataW.trod enc Tryd.prog w base sp held fuel 35 cs = some x) : ∃ (s : ByteArray) (no at_ n c : Int), cs = [.string s, .int .i64 no, .int .i64 at_, .int .i64 n, .int .i64 c] := by
  obtain ⟨xs, n, rfl, hx, hlen, hxl, hf⟩ := DataW.trod_struct Tryd.underlying35 h
  have hxl' : xs.length = 4 := hxl
  have hlen' : cs.length = 5 := hlen.trans (by kernel_rfl)
  match cs, hlen' with
  | [a, b, c, d, e], _ =>
    have f0 := hf 0 _ rfl
    have f1 := hf 1 _ rfl
    have f2 := hf 2 _ rfl
    have f3 := hf 3 _ rfl
    rw [List.getElem?_eq_getElem (by omega)] at f0 f1 f2 f3
    obtain ⟨s, h0, _, _⟩ := DataW.trod_string Tryd.underlying9 f0
    obtain ⟨no, at_, h1⟩ := cells24 f1
    obtain ⟨n', h2, _, _⟩ := DataW.trod_int Tryd.underlying3 f2
    obtain ⟨c', h3, _, _⟩ := DataW.trod_int Tryd.underlying3 f3
    have c9 : Tryd.prog.cellsOf 9 = 1 := by kernel_rfl
    have c24 : Tryd.prog.cellsOf 24 = 2 := by kernel_rfl
    have c3 : Tryd.prog.cellsOf 3 = 1 := by kernel_rfl
    simp [c9, c24, c3] at h0 h1 h2 h3
    exact ⟨s, no, at_, n', c', by rw [h0, h1.1, h1.2, h2, h3]⟩
end Go.Proofs.YtmbibfeiemblkaaDoor
namespace Go.Proofs.YtmbibfeiemblkaaDoor.linesTell
open Go Go.Abs Go.RowKit Go.ChangeShapes Go.WideShapes Go.ChangeAt
theorem walk {W : World} {m : Int} (hw : WOk m W) (s : ByteArray) (no at_ n c : Int) : Calls Tryd.prog 4 #[.agg #[.string s, .int .i64 no, .int .i64 at_, .int .i64 n, .int .i64 c]] W fun e w' => e = .returned (.bool true) ∧ Below W.heap.size W w' := by
  have key := linesTell_calls (m := m) (t := s.data.toList) (no := no) (at_ := at_) (n := n) (c := c) (σ := AS.zero) (R := fun o _ => o = .ret (.bool true)) fun _ => rfl
  refine ACalls.law hw.g (cells1 (.agg _ _ rfl fun j h h' => ?_)) key
  match j, h with
  | 0, _ => exact .str s
  | 1, _ => exact .int ..
  | 2, _ => exact .int ..
  | 3, _ => exact .int ..
  | 4, _ => exact .int ..
set_option maxRecDepth 100000 in
theorem lifted (os : Os) (started : os.Started) (H : Type) (enc : TypeId × Value → H) :
    ReturnsInHanded {} Tryd.checked os 4 .any (fun w args => (Rows.linesTellSpec.pre enc Tryd.prog Tryd.f4 [] false w args ∧ laidMetH Tryd.prog LAID w) ∧ sizedMet enc Tryd.prog Tryd.f4 (OpenSpec.ofChange Rows.linesTellSpec) false w args)
      (Rows.linesTellSpec.post enc Tryd.prog Tryd.f4 false true false false) := by
  refine returnsInHanded_of_change_and_shaped (C := Tryd.checked) (X := fun w _ => laidMetH Tryd.prog LAID w) (fun _ _ _ hh h => h.of_heap hh) own started (by kernel_rfl) Tryd.func4
    (ChangeSpec.witness_at (enc := enc) (C := Tryd.checked) (os := os) (X := fun w _ => laidMetH Tryd.prog LAID w) false (laidWorld os) #[.agg #[.string ⟨#[]⟩, .int .i64 0, .int .i64 0, .int .i64 0, .int .i64 0]] 8 rfl (by kernel_rfl) (by kernel_rfl) (by kernel_rfl) (by kernel_rfl) (by kernel_rfl) (laid_met os _)) ?_
  intro W base args ds gs before hval0 hW hsh hL
  have hval : ∀ (j : Nat) t v, Tryd.f4.params[j]? = some t → args[j]? = some v → Value.okWide Tryd.prog W .any base t v := hval0
  have hW' := hW
  obtain ⟨p, q, hA0, hV, rfl, hfz, hnd⟩ := hW
  have hA : DataW.TrodAll enc Tryd.prog W 0 (fun _ => true) true Tryd.f4.params.toList args.toList ds p := hA0
  rw [Tryd.params4] at hA hval
  obtain ⟨v0, d0, rfl, rfl, h0⟩ := trodAll_one hA
  obtain ⟨rfl, rfl⟩ := trodVars_none hV
  obtain ⟨cs, rfl, hsz⟩ := okWide_struct Tryd.underlying35 (hval 0 35 v0 rfl rfl)
  have h0k := h0
  obtain ⟨fuel, hf⟩ := h0
  obtain ⟨s, no, at_, n, c, hcs⟩ := cells35 hf
  have hcs' : cs = #[.string s, .int .i64 no, .int .i64 at_, .int .i64 n, .int .i64 c] := by
    apply Array.toList_inj.1
    exact hcs
  subst hcs'
  have hlt : ∀ x ∈ p, x.block < W.heap.size := fun x hx => hW'.lt x (by simpa using hx)
  obtain ⟨m, hm⟩ := wok_of_laid hsh hL
  refine (walk hm s no at_ n c).mono fun e W' ⟨he, bel⟩ => ?_
  subst he
  refine ⟨_, rfl, [d0], [], p ++ [], [], p, [], hW', trodAll_mk1 (shut_bool Tryd.underlying4 _), trodAll_mk1 (Below.trod laidOut (by kernel_rfl) (of_decide_eq_true (by kernel_rfl)) h0k bel hlt), rfl, bel.frame _, fun h => by cases h⟩
set_option maxRecDepth 100000 in
theorem over : Rows.linesTellRow.holds Tryd.pinned (OpenSpec.ofChange Rows.linesTellSpec) :=
  OpenClaim.holds_of_wide 4 Tryd.f4 rfl rfl rfl rfl rfl rfl rfl ⟨rfl, rfl, rfl, rfl, rfl⟩ rfl rfl rfl rfl rfl (by kernel_rfl) Tryd.func4 (by kernel_rfl)
    (of_decide_eq_true (by kernel_rfl)) (by unfold Func.isWrapper; first | (rw [if_pos (by decide +kernel)]; kernel_rfl) | (rw [if_neg (by decide +kernel)]; exact ⟨rfl, rfl⟩))
    (fun os started H enc _ => lifted os started H enc)
theorem card : Rows.LinesTellCardSaid :=
  Claim7.holds_tied_plain_at .later [] [.data, .data, .data, .data] true (true, "46a0abda7dd59079849d061fe6a7fe221cb8e720eb3cb55634013c57ab29cce4") false
    over (fun _ h => by cases h) (by kernel_rfl) (fun _ h => by cases h) linesTell_row_tie rfl ⟨rfl, rfl⟩ (by kernel_rfl) rfl
    (fun f fn hf hfn => by
      obtain rfl : f = 4 := Option.some.inj ((show Tryd.prog.funcNamed "mortise/mortiselaw26.LinesTell" = some 4 by kernel_rfl).symm.trans hf) |>.symm
      obtain rfl : fn = Tryd.f4 := (Option.some.inj (Tryd.func4.symm.trans hfn)).symm
      exact ⟨by kernel_rfl, fun j t ht => by
        rw [Tryd.params4] at ht
        have h3 : t = 35 := by
          rcases j with _ | j
          · simpa using ht.symm
          · simp at ht
        subst h3
        exact (show Tryd.prog.wantsStandIn 35 = false by kernel_rfl)⟩)
    (by kernel_rfl)
end Go.Proofs.YtmbibfeiemblkaaDoor.linesTell
