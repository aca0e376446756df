/- Part of the proofs of layer 22's statements: P11 (what peep's functions do, in lists of instructions, under the conditions that each theorem names). -/
import Derived.Test.YthifgodgfhbnfaaP10
set_option linter.unusedSimpArgs false
set_option linter.unusedVariables false
namespace Go.Proofs.Ythifgodgfhbnfaa
open Go Go.Abs
theorem Adds.keep {σ σ' : AS} {o : Nat} {cs : List AV} (A : Adds σ σ') (h : σ.objs o = some cs ∧ o < σ.no) : σ'.objs o = some cs ∧ o < σ'.no :=
  ⟨(A.obj o h.2).trans h.1, Nat.lt_of_lt_of_le h.2 A.no⟩
theorem Adds.past {σ σ' : AS} {o : Nat} {cs c1 c2 : List AV} (A : Adds ((σ.newO c1).setO σ.no c2) σ') (h : σ.objs o = some cs ∧ o < σ.no) : σ'.objs o = some cs ∧ o < σ'.no := by
  refine A.keep ⟨?_, by simp; omega⟩
  simp
  rw [if_neg (by omega), if_neg (by omega)]
  exact h.1
theorem Adds.made {σ σ' : AS} {c1 c2 : List AV} (A : Adds ((σ.newO c1).setO σ.no c2) σ') : σ'.objs σ.no = some c2 ∧ σ.no < σ'.no :=
  A.keep ⟨by simp, by simp⟩
def oP (b : Bool) (pv lv tv : AV) : List AV := [.sl (.stat b) 5 [.agg [.str [109, 97, 105, 110], pv, lv, .int .i64 1, tv]], .int .i64 0, .int .i64 0]
theorem ListsV.one' {tv x} (h : ListsV tv [x]) : ∃ b r0, tv = .sl (.stat b) 1 [r0] ∧ RepL r0 x := by
  rcases h with ⟨h, _⟩ | ⟨b, _, rfl, h⟩
  · simp at h
  · match h with
    | .cons h0 .nil => exact ⟨b, _, rfl, h0⟩
theorem ListsV.two' {tv x y} (h : ListsV tv [x, y]) : ∃ b r0 r1, tv = .sl (.stat b) 1 [r0, r1] ∧ RepL r0 x ∧ RepL r1 y := by
  rcases h with ⟨h, _⟩ | ⟨b, _, rfl, h⟩
  · simp at h
  · match h with
    | .cons h0 (.cons h1 .nil) => exact ⟨b, _, _, rfl, h0, h1⟩
theorem ListsV.three' {tv x y z} (h : ListsV tv [x, y, z]) : ∃ b r0 r1 r2, tv = .sl (.stat b) 1 [r0, r1, r2] ∧ RepL r0 x ∧ RepL r1 y ∧ RepL r2 z := by
  rcases h with ⟨h, _⟩ | ⟨b, _, rfl, h⟩
  · simp at h
  · match h with
    | .cons h0 (.cons h1 (.cons h2 .nil)) => exact ⟨b, _, _, _, rfl, h0, h1, h2⟩
theorem RepL.one {v l} (h : RepL v l) : v.known = true ∧ v.one = true ∧ v.cells = [v] := by
  rcases h with ⟨_, rfl⟩ | ⟨b, rfl⟩ <;> simp
set_option maxHeartbeats 4000000 in
theorem peepKnown_calls {G : Nat → AV} {σ : AS} {R : Out → AS → Prop} (h : ∀ σ', Adds σ σ' → R (.ret (.bool true)) σ') : ACalls Try.prog G 3 [] σ R := by
  refine calls3 rfl ?_
  simp [pc3, W.av, W.cs, wN, wO, splice]
  refine number_calls fun σ1 A1 => ?_
  simp [W.av, W.cs, wN, wO, splice]
  refine back_calls fun σ2 A2 => ?_
  simp [W.av, W.cs, wN, wO, splice]
  refine get_calls fun σ3 A3 => ?_
  simp [W.av, W.cs, wN, wO, splice]
  refine drop_calls fun σ4 A4 => ?_
  simp [W.av, W.cs, wN, wO, splice]
  refine number_calls fun σ5 A5 => ?_
  simp [W.av, W.cs, wN, wO, splice]
  refine back_calls fun σ6 A6 => ?_
  simp [W.av, W.cs, wN, wO, splice]
  refine is_calls (k := 9) (a := [wN 7, wO 16 0, wO 2 0, wO 18 0]) (b := [wN 7, wO 16 0]) (n := 0) (to := [[wN 7, wO 16 0]]) (.inr ⟨true, rfl⟩) (.inr ⟨true, rfl⟩) (by decide) (by decide) (by decide) (by decide) fun σ7 A7 => ?_
  simp [W.av, W.cs, wN, wO, splice]
  refine number_calls fun σ8 A8 => ?_
  simp [W.av, W.cs, wN, wO, splice]
  refine number_calls fun σ9 A9 => ?_
  simp [W.av, W.cs, wN, wO, splice]
  refine drop_calls fun σ10 A10 => ?_
  simp [W.av, W.cs, wN, wO, splice]
  refine number_calls fun σ11 A11 => ?_
  simp [W.av, W.cs, wN, wO, splice]
  refine number_calls fun σ12 A12 => ?_
  simp [W.av, W.cs, wN, wO, splice]
  refine is_calls (k := 9) (a := [wN 7, wN 1, wO 15 0, wO 18 0, wN 3]) (b := [wN 7, wO 14 0]) (n := 0) (to := [[wN 7, wO 14 0]]) (.inr ⟨true, rfl⟩) (.inr ⟨true, rfl⟩) (by decide) (by decide) (by decide) (by decide) fun σ13 A13 => ?_
  simp [W.av, W.cs, wN, wO, splice]
  refine number_calls fun σ14 A14 => ?_
  simp [W.av, W.cs, wN, wO, splice]
  refine number_calls fun σ15 A15 => ?_
  simp [W.av, W.cs, wN, wO, splice]
  refine number_calls fun σ16 A16 => ?_
  simp [W.av, W.cs, wN, wO, splice]
  refine is_calls (k := 9) (a := [wN 7, wN 0, wO 15 0]) (b := [wN 7]) (n := 0) (to := [[wN 7]]) (.inr ⟨true, rfl⟩) (.inr ⟨true, rfl⟩) (by decide) (by decide) (by decide) (by decide) fun σ17 A17 => ?_
  simp [W.av, W.cs, wN, wO, splice]
  refine number_calls fun σ18 A18 => ?_
  simp [W.av, W.cs, wN, wO, splice]
  refine eqz_calls fun σ19 A19 => ?_
  simp [W.av, W.cs, wN, wO, splice]
  refine eqz_calls fun σ20 A20 => ?_
  simp [W.av, W.cs, wN, wO, splice]
  refine eqz_calls fun σ21 A21 => ?_
  simp [W.av, W.cs, wN, wO, splice]
  refine number_calls fun σ22 A22 => ?_
  simp [W.av, W.cs, wN, wO, splice]
  refine is_calls (k := 9) (a := [wN 0, wO 5 1, wO 5 1, wO 5 1]) (b := [wN 1]) (n := 0) (to := [[wN 1]]) (.inr ⟨true, rfl⟩) (.inr ⟨true, rfl⟩) (by decide) (by decide) (by decide) (by decide) fun σ23 A23 => ?_
  simp [W.av, W.cs, wN, wO, splice]
  refine number_calls fun σ24 A24 => ?_
  simp [W.av, W.cs, wN, wO, splice]
  refine is_calls (k := 9) (a := [⟨1, 2, 3, 0, 0, []⟩, wO 5 2]) (b := [wN 0]) (n := 0) (to := [[wN 0]]) (.inr ⟨true, rfl⟩) (.inr ⟨true, rfl⟩) (by decide) (by decide) (by decide) (by decide) fun σ25 A25 => ?_
  simp [W.av, W.cs, wN, wO, splice]
  refine number_calls fun σ26 A26 => ?_
  simp [W.av, W.cs, wN, wO, splice]
  refine number_calls fun σ27 A27 => ?_
  simp [W.av, W.cs, wN, wO, splice]
  refine get_calls fun σ28 A28 => ?_
  simp [W.av, W.cs, wN, wO, splice]
  refine drop_calls fun σ29 A29 => ?_
  simp [W.av, W.cs, wN, wO, splice]
  refine number_calls fun σ30 A30 => ?_
  simp [W.av, W.cs, wN, wO, splice]
  refine get_calls fun σ31 A31 => ?_
  simp [W.av, W.cs, wN, wO, splice]
  refine of_calls (to := [[wN 1, wO 3 0], [wN 2, wO 3 0, wO 2 0, wO 18 0], [wN 0, ⟨13, 0, 0, 0, 1, []⟩, wO 2 0]]) ⟨true, _, rfl, .cons (.inr ⟨true, rfl⟩) (.cons (.inr ⟨true, rfl⟩) (.cons (.inr ⟨true, rfl⟩) .nil))⟩ fun mP σ32 hmP A32 => ?_
  simp [W.av, W.cs, wN, wO, splice]
  have okP := ofLists_ok (k := 9) (n := 1) (frm := [[wN 1, wO 3 0], [wN 2, wO 3 0, wO 2 0, wO 18 0], [wN 0, ⟨13, 0, 0, 0, 1, []⟩, wO 2 0]]) (to := [[wN 2, wO 3 0], [wO 11 0, wO 2 0]]) (by decide) (by decide) (by decide) (by decide)
  refine peep_calls hmP (by decide) okP.1 okP.2 fun vP σ33 hvP A33 => ?_
  obtain ⟨bP, pP, lP, tP, rfl, htP⟩ := hvP.single
  simp only [mainF] at htP
  obtain ⟨cP, rP0, rP1, rfl, qP0, qP1⟩ := htP.two'
  simp [W.av, W.cs, wN, wO, splice, mainF, qP0.one, qP1.one]
  refine number_calls fun σ34 A34 => ?_
  have hP34 := A34.made
  simp [W.av, W.cs, wN, wO, splice, hP34.1, qP0.one, qP1.one]
  refine get_calls fun σ35 A35 => ?_
  have hP35 := A35.keep hP34
  simp [W.av, W.cs, wN, wO, splice, hP35.1, qP0.one, qP1.one]
  refine of_calls (to := [[wN 1, wO 3 0], [wN 2, wO 3 0, wO 2 0, wO 18 0], [wN 9, ⟨13, 0, 0, 0, 1, []⟩, wO 2 0]]) ⟨true, _, rfl, .cons (.inr ⟨true, rfl⟩) (.cons (.inr ⟨true, rfl⟩) (.cons (.inr ⟨true, rfl⟩) .nil))⟩ fun mQ σ36 hmQ A36 => ?_
  have hP36 := A36.keep hP35
  simp [W.av, W.cs, wN, wO, splice, hP36.1, qP0.one, qP1.one]
  have okQ := ofLists_ok (k := 9) (n := 1) (frm := [[wN 1, wO 3 0], [wN 2, wO 3 0, wO 2 0, wO 18 0], [wN 9, ⟨13, 0, 0, 0, 1, []⟩, wO 2 0]]) (to := [[wN 1, wO 3 0], [wO 11 0, wO 2 0]]) (by decide) (by decide) (by decide) (by decide)
  refine peep_calls hmQ (by decide) okQ.1 okQ.2 fun vQ σ37 hvQ A37 => ?_
  have hP37 := A37.keep hP36
  obtain ⟨bQ, pQ, lQ, tQ, rfl, htQ⟩ := hvQ.single
  simp only [mainF] at htQ
  obtain ⟨cQ, rQ0, rQ1, rfl, qQ0, qQ1⟩ := htQ.two'
  simp [W.av, W.cs, wN, wO, splice, hP37.1, mainF, Nat.ne_of_lt hP37.2, qQ0.one, qQ1.one]
  refine number_calls fun σ38 A38 => ?_
  have hP38 := A38.past hP37
  have hQ38 := A38.made
  simp [W.av, W.cs, wN, wO, splice, hP38.1, hQ38.1, qP0.one, qP1.one, qQ0.one, qQ1.one]
  refine get_calls fun σ39 A39 => ?_
  have hP39 := A39.keep hP38
  have hQ39 := A39.keep hQ38
  simp [W.av, W.cs, wN, wO, splice, hP39.1, hQ39.1, qP0.one, qP1.one, qQ0.one, qQ1.one]
  refine of_calls (to := [[wN 1, wO 3 0], [wN 0, ⟨13, 0, 0, 0, -1, []⟩, wO 2 0]]) ⟨true, _, rfl, .cons (.inr ⟨true, rfl⟩) (.cons (.inr ⟨true, rfl⟩) .nil)⟩ fun mX σ40 hmX A40 => ?_
  have hP40 := A40.keep hP39
  have hQ40 := A40.keep hQ39
  simp [W.av, W.cs, wN, wO, splice, hP40.1, hQ40.1, qP0.one, qP1.one, qQ0.one, qQ1.one]
  have okX := ofLists_ok (k := 9) (n := 0) (frm := [[wN 1, wO 3 0], [wN 0, ⟨13, 0, 0, 0, -1, []⟩, wO 2 0]]) (to := [[wO 2 0]]) (by decide) (by decide) (by decide) (by decide)
  refine peep_calls hmX (by decide) okX.1 okX.2 fun vX σ41 hvX A41 => ?_
  have hP41 := A41.keep hP40
  have hQ41 := A41.keep hQ40
  obtain ⟨bX, pX, lX, tX, rfl, htX⟩ := hvX.single
  simp only [mainF] at htX
  obtain ⟨cX, rX0, rfl, qX0⟩ := htX.one'
  simp [W.av, W.cs, wN, wO, splice, hP41.1, hQ41.1, mainF, Nat.ne_of_lt hP41.2, Nat.ne_of_lt hQ41.2, qX0.one]
  refine get_calls fun σ42 A42 => ?_
  have hP42 := A42.past hP41
  have hQ42 := A42.past hQ41
  have hX42 := A42.made
  simp [W.av, W.cs, wN, wO, splice, hP42.1, hQ42.1, hX42.1, qP0.one, qP1.one, qQ0.one, qQ1.one, qX0.one]
  refine get_calls fun σ43 A43 => ?_
  have hP43 := A43.keep hP42
  have hQ43 := A43.keep hQ42
  have hX43 := A43.keep hX42
  simp [W.av, W.cs, wN, wO, splice, hP43.1, hQ43.1, hX43.1, qP0.one, qP1.one, qQ0.one, qQ1.one, qX0.one]
  refine of_calls (to := [[wN 1, wO 3 0], [wN 2, wO 3 0, wO 2 0, wO 18 0], [wO 2 0, ⟨13, 0, 0, 0, 1, []⟩, wO 2 0]]) ⟨true, _, rfl, .cons (.inr ⟨true, rfl⟩) (.cons (.inr ⟨true, rfl⟩) (.cons (.inr ⟨true, rfl⟩) .nil))⟩ fun mS σ44 hmS A44 => ?_
  have hP44 := A44.keep hP43
  have hQ44 := A44.keep hQ43
  have hX44 := A44.keep hX43
  simp [W.av, W.cs, wN, wO, splice, hP44.1, hQ44.1, hX44.1, qP0.one, qP1.one, qQ0.one, qQ1.one, qX0.one]
  have okS := ofLists_ok (k := 9) (n := 2) (frm := [[wN 1, wO 3 0], [wN 2, wO 3 0, wO 2 0, wO 18 0], [wO 2 0, ⟨13, 0, 0, 0, 1, []⟩, wO 2 0]]) (to := [[wN 1, wO 3 0], [wN 2, wO 3 0], [wO 2 0, ⟨13, 0, 0, 0, 1, []⟩, wO 2 0]]) (by decide) (by decide) (by decide) (by decide)
  refine peep_calls hmS (by decide) okS.1 okS.2 fun vS σ45 hvS A45 => ?_
  have hP45 := A45.keep hP44
  have hQ45 := A45.keep hQ44
  have hX45 := A45.keep hX44
  obtain ⟨bS, pS, lS, tS, rfl, htS⟩ := hvS.single
  simp only [mainF] at htS
  obtain ⟨cS, rS0, rS1, rS2, rfl, qS0, qS1, qS2⟩ := htS.three'
  simp [W.av, W.cs, wN, wO, splice, hP45.1, hQ45.1, hX45.1, mainF, Nat.ne_of_lt hP45.2, Nat.ne_of_lt hQ45.2, Nat.ne_of_lt hX45.2, qS0.one, qS1.one, qS2.one]
  refine get_calls fun σ46 A46 => ?_
  have hP46 := A46.past hP45
  have hQ46 := A46.past hQ45
  have hX46 := A46.past hX45
  have hS46 := A46.made
  simp [W.av, W.cs, wN, wO, splice, hP46.1, hQ46.1, hX46.1, hS46.1, qP0.one, qP1.one, qQ0.one, qQ1.one, qX0.one, qS0.one, qS1.one, qS2.one]
  refine same_calls (a := [wN 2, wO 3 0]) (b := [wN 2, wO 3 0]) qP0.slw (RepL.slw (.inr ⟨_, rfl⟩)) (by decide) ?_
  simp [W.av, W.cs, wN, wO, splice, hP46.1, hQ46.1, hX46.1, hS46.1, qP0.one, qP1.one, qQ0.one, qQ1.one, qX0.one, qS0.one, qS1.one, qS2.one]
  refine same_calls (a := [wO 11 0, wO 2 0]) (b := [wO 11 0, wO 2 0]) qP1.slw (RepL.slw (.inr ⟨_, rfl⟩)) (by decide) ?_
  simp [W.av, W.cs, wN, wO, splice, hP46.1, hQ46.1, hX46.1, hS46.1, qP0.one, qP1.one, qQ0.one, qQ1.one, qX0.one, qS0.one, qS1.one, qS2.one]
  refine same_calls (a := [wN 1, wO 3 0]) (b := [wN 1, wO 3 0]) qQ0.slw (RepL.slw (.inr ⟨_, rfl⟩)) (by decide) ?_
  simp [W.av, W.cs, wN, wO, splice, hP46.1, hQ46.1, hX46.1, hS46.1, qP0.one, qP1.one, qQ0.one, qQ1.one, qX0.one, qS0.one, qS1.one, qS2.one]
  refine same_calls (a := [wO 11 0, wO 2 0]) (b := [wO 11 0, wO 2 0]) qQ1.slw (RepL.slw (.inr ⟨_, rfl⟩)) (by decide) ?_
  simp [W.av, W.cs, wN, wO, splice, hP46.1, hQ46.1, hX46.1, hS46.1, qP0.one, qP1.one, qQ0.one, qQ1.one, qX0.one, qS0.one, qS1.one, qS2.one]
  refine get_calls fun σ47 A47 => ?_
  have hP47 := A47.keep hP46
  have hQ47 := A47.keep hQ46
  have hX47 := A47.keep hX46
  have hS47 := A47.keep hS46
  simp [W.av, W.cs, wN, wO, splice, hP47.1, hQ47.1, hX47.1, hS47.1, qP0.one, qP1.one, qQ0.one, qQ1.one, qX0.one, qS0.one, qS1.one, qS2.one]
  refine same_calls (a := [wO 2 0]) (b := [wO 2 0]) qX0.slw (RepL.slw (.inr ⟨_, rfl⟩)) (by decide) ?_
  simp [W.av, W.cs, wN, wO, splice, hP47.1, hQ47.1, hX47.1, hS47.1, qP0.one, qP1.one, qQ0.one, qQ1.one, qX0.one, qS0.one, qS1.one, qS2.one]
  refine same_calls (a := [wN 2, wO 3 0]) (b := [wN 2, wO 3 0]) qS1.slw (RepL.slw (.inr ⟨_, rfl⟩)) (by decide) ?_
  simp [W.av, W.cs, wN, wO, splice, hP47.1, hQ47.1, hX47.1, hS47.1, qP0.one, qP1.one, qQ0.one, qQ1.one, qX0.one, qS0.one, qS1.one, qS2.one]
  refine known_calls fun σ48 A48 => ?_
  have hP48 := A48.keep hP47
  have hQ48 := A48.keep hQ47
  have hX48 := A48.keep hX47
  have hS48 := A48.keep hS47
  simp [W.av, W.cs, wN, wO, splice, hP48.1, hQ48.1, hX48.1, hS48.1, qP0.one, qP1.one, qQ0.one, qQ1.one, qX0.one, qS0.one, qS1.one, qS2.one]
  exact h _ (((((((((((((((((((((((((((((((((((((((((((((((((((((((((((((Adds.refl σ).trans A1).trans A2).trans A3).trans A4).trans A5).trans A6).trans A7).trans A8).trans A9).trans A10).trans A11).trans A12).trans A13).trans A14).trans A15).trans A16).trans A17).trans A18).trans A19).trans A20).trans A21).trans A22).trans A23).trans A24).trans A25).trans A26).trans A27).trans A28).trans A29).trans A30).trans A31).trans A32).trans A33)).newO).setO (Adds.no ((((((((((((((((((((((((((((((((((Adds.refl σ).trans A1).trans A2).trans A3).trans A4).trans A5).trans A6).trans A7).trans A8).trans A9).trans A10).trans A11).trans A12).trans A13).trans A14).trans A15).trans A16).trans A17).trans A18).trans A19).trans A20).trans A21).trans A22).trans A23).trans A24).trans A25).trans A26).trans A27).trans A28).trans A29).trans A30).trans A31).trans A32).trans A33))).trans A34).trans A35).trans A36).trans A37)).newO).setO (Adds.no (((((((((((((((((((((((((((((((((((((((((Adds.refl σ).trans A1).trans A2).trans A3).trans A4).trans A5).trans A6).trans A7).trans A8).trans A9).trans A10).trans A11).trans A12).trans A13).trans A14).trans A15).trans A16).trans A17).trans A18).trans A19).trans A20).trans A21).trans A22).trans A23).trans A24).trans A25).trans A26).trans A27).trans A28).trans A29).trans A30).trans A31).trans A32).trans A33)).newO).setO (Adds.no ((((((((((((((((((((((((((((((((((Adds.refl σ).trans A1).trans A2).trans A3).trans A4).trans A5).trans A6).trans A7).trans A8).trans A9).trans A10).trans A11).trans A12).trans A13).trans A14).trans A15).trans A16).trans A17).trans A18).trans A19).trans A20).trans A21).trans A22).trans A23).trans A24).trans A25).trans A26).trans A27).trans A28).trans A29).trans A30).trans A31).trans A32).trans A33))).trans A34).trans A35).trans A36).trans A37))).trans A38).trans A39).trans A40).trans A41)).newO).setO (Adds.no ((((((((((((((((((((((((((((((((((((((((((((((((Adds.refl σ).trans A1).trans A2).trans A3).trans A4).trans A5).trans A6).trans A7).trans A8).trans A9).trans A10).trans A11).trans A12).trans A13).trans A14).trans A15).trans A16).trans A17).trans A18).trans A19).trans A20).trans A21).trans A22).trans A23).trans A24).trans A25).trans A26).trans A27).trans A28).trans A29).trans A30).trans A31).trans A32).trans A33)).newO).setO (Adds.no ((((((((((((((((((((((((((((((((((Adds.refl σ).trans A1).trans A2).trans A3).trans A4).trans A5).trans A6).trans A7).trans A8).trans A9).trans A10).trans A11).trans A12).trans A13).trans A14).trans A15).trans A16).trans A17).trans A18).trans A19).trans A20).trans A21).trans A22).trans A23).trans A24).trans A25).trans A26).trans A27).trans A28).trans A29).trans A30).trans A31).trans A32).trans A33))).trans A34).trans A35).trans A36).trans A37)).newO).setO (Adds.no (((((((((((((((((((((((((((((((((((((((((Adds.refl σ).trans A1).trans A2).trans A3).trans A4).trans A5).trans A6).trans A7).trans A8).trans A9).trans A10).trans A11).trans A12).trans A13).trans A14).trans A15).trans A16).trans A17).trans A18).trans A19).trans A20).trans A21).trans A22).trans A23).trans A24).trans A25).trans A26).trans A27).trans A28).trans A29).trans A30).trans A31).trans A32).trans A33)).newO).setO (Adds.no ((((((((((((((((((((((((((((((((((Adds.refl σ).trans A1).trans A2).trans A3).trans A4).trans A5).trans A6).trans A7).trans A8).trans A9).trans A10).trans A11).trans A12).trans A13).trans A14).trans A15).trans A16).trans A17).trans A18).trans A19).trans A20).trans A21).trans A22).trans A23).trans A24).trans A25).trans A26).trans A27).trans A28).trans A29).trans A30).trans A31).trans A32).trans A33))).trans A34).trans A35).trans A36).trans A37))).trans A38).trans A39).trans A40).trans A41))).trans A42).trans A43).trans A44).trans A45)).newO).setO (Adds.no (((((((((((((((((((((((((((((((((((((((((((((((((((((((Adds.refl σ).trans A1).trans A2).trans A3).trans A4).trans A5).trans A6).trans A7).trans A8).trans A9).trans A10).trans A11).trans A12).trans A13).trans A14).trans A15).trans A16).trans A17).trans A18).trans A19).trans A20).trans A21).trans A22).trans A23).trans A24).trans A25).trans A26).trans A27).trans A28).trans A29).trans A30).trans A31).trans A32).trans A33)).newO).setO (Adds.no ((((((((((((((((((((((((((((((((((Adds.refl σ).trans A1).trans A2).trans A3).trans A4).trans A5).trans A6).trans A7).trans A8).trans A9).trans A10).trans A11).trans A12).trans A13).trans A14).trans A15).trans A16).trans A17).trans A18).trans A19).trans A20).trans A21).trans A22).trans A23).trans A24).trans A25).trans A26).trans A27).trans A28).trans A29).trans A30).trans A31).trans A32).trans A33))).trans A34).trans A35).trans A36).trans A37)).newO).setO (Adds.no (((((((((((((((((((((((((((((((((((((((((Adds.refl σ).trans A1).trans A2).trans A3).trans A4).trans A5).trans A6).trans A7).trans A8).trans A9).trans A10).trans A11).trans A12).trans A13).trans A14).trans A15).trans A16).trans A17).trans A18).trans A19).trans A20).trans A21).trans A22).trans A23).trans A24).trans A25).trans A26).trans A27).trans A28).trans A29).trans A30).trans A31).trans A32).trans A33)).newO).setO (Adds.no ((((((((((((((((((((((((((((((((((Adds.refl σ).trans A1).trans A2).trans A3).trans A4).trans A5).trans A6).trans A7).trans A8).trans A9).trans A10).trans A11).trans A12).trans A13).trans A14).trans A15).trans A16).trans A17).trans A18).trans A19).trans A20).trans A21).trans A22).trans A23).trans A24).trans A25).trans A26).trans A27).trans A28).trans A29).trans A30).trans A31).trans A32).trans A33))).trans A34).trans A35).trans A36).trans A37))).trans A38).trans A39).trans A40).trans A41)).newO).setO (Adds.no ((((((((((((((((((((((((((((((((((((((((((((((((Adds.refl σ).trans A1).trans A2).trans A3).trans A4).trans A5).trans A6).trans A7).trans A8).trans A9).trans A10).trans A11).trans A12).trans A13).trans A14).trans A15).trans A16).trans A17).trans A18).trans A19).trans A20).trans A21).trans A22).trans A23).trans A24).trans A25).trans A26).trans A27).trans A28).trans A29).trans A30).trans A31).trans A32).trans A33)).newO).setO (Adds.no ((((((((((((((((((((((((((((((((((Adds.refl σ).trans A1).trans A2).trans A3).trans A4).trans A5).trans A6).trans A7).trans A8).trans A9).trans A10).trans A11).trans A12).trans A13).trans A14).trans A15).trans A16).trans A17).trans A18).trans A19).trans A20).trans A21).trans A22).trans A23).trans A24).trans A25).trans A26).trans A27).trans A28).trans A29).trans A30).trans A31).trans A32).trans A33))).trans A34).trans A35).trans A36).trans A37)).newO).setO (Adds.no (((((((((((((((((((((((((((((((((((((((((Adds.refl σ).trans A1).trans A2).trans A3).trans A4).trans A5).trans A6).trans A7).trans A8).trans A9).trans A10).trans A11).trans A12).trans A13).trans A14).trans A15).trans A16).trans A17).trans A18).trans A19).trans A20).trans A21).trans A22).trans A23).trans A24).trans A25).trans A26).trans A27).trans A28).trans A29).trans A30).trans A31).trans A32).trans A33)).newO).setO (Adds.no ((((((((((((((((((((((((((((((((((Adds.refl σ).trans A1).trans A2).trans A3).trans A4).trans A5).trans A6).trans A7).trans A8).trans A9).trans A10).trans A11).trans A12).trans A13).trans A14).trans A15).trans A16).trans A17).trans A18).trans A19).trans A20).trans A21).trans A22).trans A23).trans A24).trans A25).trans A26).trans A27).trans A28).trans A29).trans A30).trans A31).trans A32).trans A33))).trans A34).trans A35).trans A36).trans A37))).trans A38).trans A39).trans A40).trans A41))).trans A42).trans A43).trans A44).trans A45))).trans A46).trans A47).trans A48)
end Go.Proofs.Ythifgodgfhbnfaa
