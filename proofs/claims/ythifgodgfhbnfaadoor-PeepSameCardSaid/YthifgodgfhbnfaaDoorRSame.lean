/- The row PeepSame; no condition. -/
import Derived.Test.YthifgodgfhbnfaaDoorV
import Derived.Test.YthifgodgfhbnfaaDoorZ
import Derived.Test.YthifgodgfhbnfaaDoorRLess
import Derived.Test.YthifgodgfhbnfaaDoorCards
set_option linter.unusedSimpArgs false
set_option linter.unusedVariables false
namespace Go.Proofs.YthifgodgfhbnfaaDoor
open Go Go.Abs Go.RowKit Go.ChangeShapes Go.WideShapes Go.ChangeAt

end Go.Proofs.YthifgodgfhbnfaaDoor
namespace Go.Proofs.YthifgodgfhbnfaaDoor.peepSame
open Go Go.Abs Go.RowKit Go.ChangeShapes Go.WideShapes Go.ChangeAt
theorem walk {W : World} {k : Int} (hw : WOk k W) {v : Value} {sv : AV} {m : M} {input : List Int} {steps more times : Int} (hs : StepsV sv m input steps more) (hf : Fits m) (hn : Nums m) (hv : VR (Mp.all W) AS.zero.F W sv v) : Calls Tryd.prog 8 #[v, .int .i64 times] W fun e w' => e = .returned (.bool true) ∧ Below W.heap.size W w' := by
  obtain ⟨fv, iv, rfl, hfs, hi⟩ := hs
  have key := peepSame_calls (G := GD k) (GD_vars k) (steps := steps) (more := more) (times := times) (σ := AS.zero) (R := fun o _ => o = .ret (.bool true)) hfs hf hn hi fun _ => rfl
  refine ACalls.law hw.g ⟨rfl, fun j u hj => ?_⟩ key
  match j with
  | 0 => simp at hj; subst hj; exact ⟨_, rfl, hv⟩
  | 1 => simp at hj; subst hj; exact ⟨_, rfl, .int ..⟩
  | j + 2 => simp at hj
set_option maxRecDepth 100000 in
theorem lifted (os : Os) (started : os.Started) (H : Type) (enc : TypeId × Value → H) :
    ReturnsInHanded {} Tryd.checked os 8 .any (fun w args => (Rows.peepSameSpec.pre enc Tryd.prog Tryd.f8 [] false w args ∧ laidMetH Tryd.prog LAID w) ∧ sizedMet enc Tryd.prog Tryd.f8 (OpenSpec.ofChange Rows.peepSameSpec) false w args)
      (Rows.peepSameSpec.post enc Tryd.prog Tryd.f8 false true false false) := by
  refine returnsInHanded_of_change_and_shaped (C := Tryd.checked) (X := fun w _ => laidMetH Tryd.prog LAID w) (fun _ _ _ hh h => h.of_heap hh) own started (by kernel_rfl) Tryd.func8
    (ChangeSpec.witness_at (enc := enc) (C := Tryd.checked) (os := os) (X := fun w _ => laidMetH Tryd.prog LAID w) false (laidWorld os) #[.agg #[.slice none 0 0, .int .i64 0, .int .i64 0, .slice none 0 0, .int .i64 0, .int .i64 0], .int .i64 0] 8 rfl (by kernel_rfl) (by kernel_rfl) (by kernel_rfl) (by kernel_rfl) (by kernel_rfl) (laid_met os _)) ?_
  intro W base args ds gs before hval0 hW hwt hsh hL
  have hval : ∀ (j : Nat) t v, Tryd.f8.params[j]? = some t → args[j]? = some v → Value.okWide Tryd.prog W .any base t v := hval0
  have hW' := hW
  obtain ⟨p, q, hA0, hV, rfl, hfz, hnd⟩ := hW
  have hA : DataW.TrodAll enc Tryd.prog W 0 (fun _ => true) true Tryd.f8.params.toList args.toList ds p := hA0
  rw [Tryd.params8] at hA hval
  obtain ⟨v0, v1, d0, d1, p0, p1, rfl, rfl, rfl, h0, h1⟩ := trodAll_two hA
  obtain ⟨rfl, rfl⟩ := trodVars_none hV
  have hwt0 : WtOk 43 d0 := wtEach hwt 0 43 d0 (by rw [Tryd.params8]; rfl) rfl
  obtain ⟨sv, m, input, steps, more, hs, hf, hn, hv⟩ := steps_arg (hval 0 43 v0 rfl rfl) h0 hwt0
  obtain ⟨n1, rfl⟩ := okWide_int Tryd.underlying3 (hval 1 3 v1 rfl rfl)
  have hlt : ∀ x ∈ p0 ++ p1, x.block < W.heap.size := fun x hx => hW'.lt x (by simpa using hx)
  obtain ⟨k, hk⟩ := wok_of_laid hsh hL
  refine (walk hk hs hf hn hv).mono fun e W' ⟨he, bel⟩ => ?_
  subst he
  refine ⟨_, rfl, [d0, d1], [], (p0 ++ p1) ++ [], [], p0 ++ p1, [], hW', trodAll_mk1 (shut_bool Tryd.underlying4 _), trodAll_mk2 (Below.trod laidOut (by kernel_rfl) (of_decide_eq_true (by kernel_rfl)) h0 bel fun x hx => hlt x (by simp [hx])) (Below.trod laidOut (by kernel_rfl) (of_decide_eq_true (by kernel_rfl)) h1 bel fun x hx => hlt x (by simp [hx])), rfl, bel.frame _, fun h => by cases h⟩
set_option maxRecDepth 100000 in
theorem over : Rows.peepSameRow.holds Tryd.pinned (OpenSpec.ofChange Rows.peepSameSpec) :=
  OpenClaim.holds_of_wide 8 Tryd.f8 rfl rfl rfl rfl rfl rfl rfl ⟨rfl, rfl, rfl, rfl, rfl⟩ rfl rfl rfl rfl rfl (by kernel_rfl) Tryd.func8 (by kernel_rfl)
    (of_decide_eq_true (by kernel_rfl)) (by unfold Func.isWrapper; first | (rw [if_pos (by decide +kernel)]; kernel_rfl) | (rw [if_neg (by decide +kernel)]; exact ⟨rfl, rfl⟩))
    (fun os started H enc _ => lifted os started H enc)
theorem card : Rows.PeepSameCardSaid :=
  Claim7.holds_tied_plain_at .later [] [.data] true (true, "316f6eacdc9d601cc89886c3384eebcca6d46126fd093de4cc4c61e0f51d421c") true
    over (fun _ h => by cases h) (by kernel_rfl) (fun _ h => by cases h) peepSame_row_tie rfl ⟨rfl, rfl⟩ (by kernel_rfl) rfl
    (fun f fn hf hfn => by
      obtain rfl : f = 8 := Option.some.inj ((show Tryd.prog.funcNamed "mortise/mortiselaw22.PeepSame" = some 8 by kernel_rfl).symm.trans hf) |>.symm
      obtain rfl : fn = Tryd.f8 := (Option.some.inj (Tryd.func8.symm.trans hfn)).symm
      exact ⟨by kernel_rfl, fun j t ht => by
        rw [Tryd.params8] at ht
        rcases j with _ | _ | j
        · have h3 : t = 43 := by simpa using ht.symm
          subst h3
          exact (show Tryd.prog.wantsStandIn 43 = false by kernel_rfl)
        · have h3 : t = 3 := by simpa using ht.symm
          subst h3
          exact (show Tryd.prog.wantsStandIn 3 = false by kernel_rfl)
        · simp at ht⟩)
    (by kernel_rfl)
end Go.Proofs.YthifgodgfhbnfaaDoor.peepSame
