/- The row WasmRuns; no condition. -/
import Derived.Test.YthifgodgfhbnfaaGreatDoorZC
import Derived.Test.YthifgodgfhbnfaaGreatDoorCards
set_option linter.unusedSimpArgs false
set_option linter.unusedVariables false
set_option linter.unusedSimpArgs false
set_option linter.unusedVariables false
namespace Go.Proofs.YthifgodgfhbnfaaGreatDoor.wasmRuns
open Go Go.Abs Go.RowKit Go.ChangeShapes Go.WideShapes Go.ChangeAt Go.Proofs.YthifgodgfhbnfaaGreatDoor
set_option maxRecDepth 20000 in
theorem ints_arg {H : Type} {enc : TypeId × Value → H} {W : World} {v : Value} {d : DataW H} {p : List MemPlace} {base : Nat} (hval : Value.okWide Tryz.prog W .any base 25 v) (h : DataW.Trod enc Tryz.prog W 0 (fun _ => true) true 25 v d p)
  (hw : WtOk 25 d) : ∃ iv input, IntsV iv input ∧ (∀ n ∈ input, -(2 ^ 63) ≤ n ∧ n < 2 ^ 63) ∧ VR (Mp.all W) AS.zero.F W iv v := by
 obtain ⟨a, len, cap, rfl⟩ := okWide_slice Tryz.underlying25 hval
 obtain ⟨fuel, hf⟩ := h
 obtain ⟨iv, input, ⟨h1, h2, h3⟩, h4⟩ := ints_rel (cs := [.slice a len cap]) hf hw
 exact ⟨iv, input, h1, h3, h4.to h1.one.2.2⟩
theorem walk {W : World} {k : Int} (hw : WOk k W) {v0 v1 : Value} {mv iv : AV} {m : M} {input : List Int} {steps : Int} (hm : MV mv m) (hf : Fits m) (hn : NumsR m) (hi : IntsV iv input) (hin : ∀ n ∈ input, -(2 ^ 63) ≤ n ∧ n < 2 ^ 63) (h0 : VR (Mp.all W) AS.zero.F W mv v0) (h1 : VR (Mp.all W) AS.zero.F W iv v1) :
  Calls Tryz.prog 3 #[v0, v1, .int .i64 steps] W fun e w' => e = .returned (.bool true) ∧ Below W.heap.size W w' := by
 obtain ⟨fsv, rfl, hfs⟩ := hm
 have key := Rf.wasmRuns_calls (G := GD k) (GD_vars k) (steps := steps) (σ := AS.zero) (R := fun o _ => o = .ret (.bool true)) hfs hf (fun f hf l hl w hw => by have := hn f hf l hl w hw; omega) hi hin fun _ => rfl
 refine ACalls.law hw.g ⟨rfl, fun j v hj => ?_⟩ key
 match j with
 | 0 => simp at hj; subst hj; exact ⟨_, rfl, h0⟩
 | 1 => simp at hj; subst hj; exact ⟨_, rfl, h1⟩
 | 2 => simp at hj; subst hj; exact ⟨_, rfl, .int ..⟩
 | j + 3 => simp at hj
set_option maxRecDepth 100000 in
theorem lifted (os : Os) (started : os.Started) (H : Type) (enc : TypeId × Value → H) :
  ReturnsInHanded {} Tryz.checked os 3 .any (fun w args => (Rows.wasmRunsSpec.pre enc Tryz.prog Tryz.f3 [] false w args ∧ laidMetH Tryz.prog LAID w) ∧ sizedMet enc Tryz.prog Tryz.f3 (OpenSpec.ofChange Rows.wasmRunsSpec) false w args)
   (Rows.wasmRunsSpec.post enc Tryz.prog Tryz.f3 false true false false) := by
 refine returnsInHanded_of_change_and_shaped (C := Tryz.checked) (X := fun w _ => laidMetH Tryz.prog LAID w) (fun _ _ _ hh h => h.of_heap hh) own started (by kernel_rfl) Tryz.func3
  (ChangeSpec.witness_at (enc := enc) (C := Tryz.checked) (os := os) (X := fun w _ => laidMetH Tryz.prog LAID w) false (laidWorld os) #[.agg #[.slice none 0 0, .int .i64 0, .int .i64 0], .slice none 0 0, .int .i64 0] 8 rfl (by kernel_rfl) (by kernel_rfl) (by kernel_rfl) (by kernel_rfl) (by kernel_rfl) (laid_met os _)) ?_
 intro W base args ds gs before hval0 hW hwt hsh hL
 have hval : ∀ (j : Nat) t v, Tryz.f3.params[j]? = some t → args[j]? = some v → Value.okWide Tryz.prog W .any base t v := hval0
 have hW' := hW
 obtain ⟨p, q, hA0, hV, rfl, hfz, hnd⟩ := hW
 have hA : DataW.TrodAll enc Tryz.prog W 0 (fun _ => true) true Tryz.f3.params.toList args.toList ds p := hA0
 rw [Tryz.params3] at hA hval
 obtain ⟨v0, v1, v2, d0, d1, d2, p0, p1, p2, rfl, rfl, rfl, h0, h1, h2⟩ := trodAll_three hA
 obtain ⟨rfl, rfl⟩ := trodVars_none hV
 obtain ⟨n2, rfl⟩ := okWide_int Tryz.underlying3 (hval 2 3 v2 rfl rfl)
 have hwt0 : WtOk 24 d0 := wtEach hwt 0 24 d0 (by rw [Tryz.params3]; rfl) rfl
 have hwt1 : WtOk 25 d1 := wtEach hwt 1 25 d1 (by rw [Tryz.params3]; rfl) rfl
 obtain ⟨mv, m, hm, hf, hn, hv0⟩ := m_arg (hval 0 24 v0 rfl rfl) h0 hwt0
 obtain ⟨iv, input, hi, hin, hv1⟩ := ints_arg (hval 1 25 v1 rfl rfl) h1 hwt1
 have hlt : ∀ x ∈ p0 ++ p1 ++ p2, x.block < W.heap.size := fun x hx => hW'.lt x (by simpa using hx)
 have hl0 : ∀ x ∈ p0, x.block < W.heap.size := fun x hx => hlt x (by simp [hx])
 have hl1 : ∀ x ∈ p1, x.block < W.heap.size := fun x hx => hlt x (by simp [hx])
 have hl2 : ∀ x ∈ p2, x.block < W.heap.size := fun x hx => hlt x (by simp [hx])
 obtain ⟨k, hk⟩ := wok_of_laid hsh hL
 refine (walk hk hm hf hn hi hin hv0 hv1).mono fun e W' ⟨he, bel⟩ => ?_
 subst he
 refine ⟨_, rfl, [d0, d1, d2], [], p0 ++ p1 ++ p2 ++ [], [], p0 ++ (p1 ++ p2), [], hW', trodAll_mk1 (shut_bool Tryz.underlying4 _), trodAll_mk3 (Below.trod laidOut (by kernel_rfl) (of_decide_eq_true (by kernel_rfl)) h0 bel hl0) (Below.trod laidOut (by kernel_rfl) (of_decide_eq_true (by kernel_rfl)) h1 bel hl1) (Below.trod laidOut (by kernel_rfl) (of_decide_eq_true (by kernel_rfl)) h2 bel hl2), rfl, bel.frame _, fun h => by cases h⟩
set_option maxRecDepth 100000 in
theorem over : Rows.wasmRunsRow.holds Tryz.pinned (OpenSpec.ofChange Rows.wasmRunsSpec) :=
 OpenClaim.holds_of_wide 3 Tryz.f3 rfl rfl rfl rfl rfl rfl rfl ⟨rfl, rfl, rfl, rfl, rfl⟩ rfl rfl rfl rfl rfl (by kernel_rfl) Tryz.func3 (by kernel_rfl)
  (of_decide_eq_true (by kernel_rfl)) (by unfold Func.isWrapper; first | (rw [if_pos (by decide +kernel)]; kernel_rfl) | (rw [if_neg (by decide +kernel)]; exact ⟨rfl, rfl⟩))
  (fun os started H enc _ => lifted os started H enc)
theorem card : Rows.WasmRunsCardSaid :=
 Claim7.holds_tied_plain_at .later [] [.data] true (true, "c11307b39661da631c89236aba4b5da7ddb3e2052b2cfcb1199ec5ff3029c21f") true
  over (fun _ h => by cases h) (by kernel_rfl) (fun _ h => by cases h) wasmRuns_row_tie rfl ⟨rfl, rfl⟩ (by kernel_rfl) rfl
  (fun f fn hf hfn => by
   obtain rfl : f = 3 := Option.some.inj ((show Tryz.prog.funcNamed "mortise/mortiselaw12.WasmRuns" = some 3 by kernel_rfl).symm.trans hf) |>.symm
   obtain rfl : fn = Tryz.f3 := (Option.some.inj (Tryz.func3.symm.trans hfn)).symm
   exact ⟨by kernel_rfl, fun j t ht => by
    rw [Tryz.params3] at ht
    have h3 : t = 24 ∨ t = 25 ∨ t = 3 := by
     rcases j with _ | _ | _ | j
     ·exact .inl (by simpa using ht.symm)
     ·exact .inr (.inl (by simpa using ht.symm))
     ·exact .inr (.inr (by simpa using ht.symm))
     ·simp at ht
    rcases h3 with rfl | rfl | rfl
    ·exact (show Tryz.prog.wantsStandIn 24 = false by kernel_rfl)
    ·exact (show Tryz.prog.wantsStandIn 25 = false by kernel_rfl)
    ·exact (show Tryz.prog.wantsStandIn 3 = false by kernel_rfl)⟩)
  (by kernel_rfl)
#print axioms card
end Go.Proofs.YthifgodgfhbnfaaGreatDoor.wasmRuns
