/- The law WasmMore: it answers true, for any module whose lists are no longer than memory allows. -/
import Derived.Test.YthifgodgfhbnfaaDoorY
set_option linter.unusedSimpArgs false
set_option linter.unusedVariables false
namespace Go.Proofs.YthifgodgfhbnfaaDoor
open Go Go.Abs
set_option maxHeartbeats 2000000 in
set_option maxRecDepth 20000 in
theorem wasmMore_calls {G : Env} (V : Vars G) {m : M} {fv iv : AV} {input : List Int} {steps more : Int} {σ : AS} {R : Out → AS → Prop} (hfs : FsV fv m.funcs) (hf : Fits m) (hn : Nums m) (hi : IntsV iv input) (h : ∀ σ', R (.ret (.bool true)) σ') :
    ACalls Tryd.prog G 5 [.agg [fv, .int .i64 m.memory, .int .i64 m.main, iv, .int .i64 steps, .int .i64 more]] σ R := by
  refine calls5 rfl ?_
  have f1 := hfs.one
  have i1 := hi.one
  have i2 := hi.len
  have hm : MV (.agg [fv, .int .i64 m.memory, .int .i64 m.main]) m := ⟨fv, rfl, hfs⟩
  simp [pc5, f1, i1]
  have hm1 : (σ.newO [fv, AV.int IntKind.i64 m.memory, AV.int IntKind.i64 m.main, iv, AV.int IntKind.i64 steps, AV.int IntKind.i64 more]).objs σ.no = some [fv, .int .i64 m.memory, .int .i64 m.main, iv, .int .i64 steps, .int .i64 more] := by simp
  have hno1 : (σ.newO [fv, AV.int IntKind.i64 m.memory, AV.int IntKind.i64 m.main, iv, AV.int IntKind.i64 steps, AV.int IntKind.i64 more]).no = σ.no + 1 := by simp
  generalize σ.newO [fv, AV.int IntKind.i64 m.memory, AV.int IntKind.i64 m.main, iv, AV.int IntKind.i64 steps, AV.int IntKind.i64 more] = σ1 at *
  have hml : σ.no < σ1.no := by omega
  refine big_calls hm hf fun b σ2 hb A2 => ?_
  have hm2 := (A2.obj σ.no hml).trans hm1
  cases b with
  | true =>
    simp
    refine known12_calls V fun σ3 A3 => ?_
    simp
    exact h _
  | false =>
  obtain ⟨b1, b2⟩ := hb rfl
  have sm : Small m := ⟨by omega, fun f hf => by have := (b2 f hf).params; omega, fun f hf => by have := (b2 f hf).locals; omega, fun f hf => by have := (b2 f hf).lists; omega, fun f hf l hl => by have := (b2 f hf).rows l hl; omega, hn⟩
  have of : OkFs m.funcs := fun f hf => ⟨by have := (b2 f hf).params; omega, by have := (b2 f hf).locals; omega, by have := (b2 f hf).lists; omega, fun l hl => by have := (b2 f hf).rows l hl; omega, hn f hf⟩
  by_cases hil : (1000 : Int) < (input.length : Int)
  · simp [hm2, f1, i1, i2, hil]
    refine known12_calls V fun σ3 A3 => ?_
    simp
    exact h _
  simp [hm2, f1, i1, i2, hil]
  refine check_calls V sm hm fun σ3 A3 => ?_
  have hl3 : σ.no < σ3.no := Nat.lt_of_lt_of_le hml (A2.trans A3).no
  have hm3 := (A3.obj σ.no (Nat.lt_of_lt_of_le hml A2.no)).trans hm2
  by_cases he : errOf (checkE m) = 0
  · have hck := check_ok he
    simp [he, hm3, f1, i1]
    refine cut_calls ?_
    simp [hm3]
    refine cut_calls ?_
    simp [hm3, f1, i1]
    generalize hs : max 0 (min steps 8000) = s
    generalize hd : max 0 (min more 8000) = d
    have hs0 : 0 ≤ s ∧ s ≤ 8000 := by omega
    have hd0 : 0 ≤ d ∧ d ≤ 8000 := by omega
    refine run_calls V hm hck of hi (by omega) (by omega) fun ov out st code σ4 hr ho A4 => ?_
    obtain ⟨out0, st0, code0, hr0, hst, hlen⟩ := runM_sound hck input s (s.toNat + 1) (by omega)
    rw [hr] at hr0
    obtain ⟨rfl, rfl, rfl⟩ : out = out0 ∧ st = st0 ∧ code = code0 := by simpa using hr0
    have o1 := ho.one
    have hm4 := (A4.obj σ.no hl3).trans hm3
    have hn4 := A4.no
    have hne : σ.no ≠ σ4.no := by omega
    have w1 : IntKind.wrap .i64 (s + d) = s + d := by rw [wrap_i64] <;> omega
    simp [splice, o1, hm4, f1, i1, hne, w1]
    have hm5 : ((σ4.newO [AV.nilsl, AV.int IntKind.i64 0, AV.int IntKind.i64 0]).setO σ4.no [ov, AV.int IntKind.i64 st, AV.int IntKind.i64 code]).objs σ.no = some [fv, .int .i64 m.memory, .int .i64 m.main, iv, .int .i64 steps, .int .i64 more] := by simp [hne, hm4]
    have ha5 : ((σ4.newO [AV.nilsl, AV.int IntKind.i64 0, AV.int IntKind.i64 0]).setO σ4.no [ov, AV.int IntKind.i64 st, AV.int IntKind.i64 code]).objs σ4.no = some [ov, .int .i64 st, .int .i64 code] := by simp
    have hno5 : ((σ4.newO [AV.nilsl, AV.int IntKind.i64 0, AV.int IntKind.i64 0]).setO σ4.no [ov, AV.int IntKind.i64 st, AV.int IntKind.i64 code]).no = σ4.no + 1 := by simp
    generalize (σ4.newO [AV.nilsl, AV.int IntKind.i64 0, AV.int IntKind.i64 0]).setO σ4.no [ov, AV.int IntKind.i64 st, AV.int IntKind.i64 code] = σ5 at *
    refine run_calls V hm hck of hi (by omega) (by omega) fun ov' out' st' code' σ6 hr' ho' A6 => ?_
    obtain ⟨hpre, hz, hsame⟩ := runM_more (d := d) hd0.1 (show s.toNat + 1 ≤ (s + d).toNat + 1 by omega) hr hr'
    obtain ⟨rest, rfl⟩ := hpre
    have o2 := ho'.one
    have l1 := ho.len
    have l2 := ho'.len
    have hm6 := (A6.obj σ.no (by omega)).trans hm5
    have ha6 := (A6.obj σ4.no (by omega)).trans ha5
    have hn6 := A6.no
    have hne2 : σ.no ≠ σ6.no := by omega
    have hne4 : σ4.no ≠ σ6.no := by omega
    simp [splice, o2, hne2, hne4, ha6]
    have ha7 : ((σ6.newO [AV.nilsl, AV.int IntKind.i64 0, AV.int IntKind.i64 0]).setO σ6.no [ov', AV.int IntKind.i64 st', AV.int IntKind.i64 code']).objs σ4.no = some [ov, .int .i64 st, .int .i64 code] := by simp [hne4, ha6]
    have hb7 : ((σ6.newO [AV.nilsl, AV.int IntKind.i64 0, AV.int IntKind.i64 0]).setO σ6.no [ov', AV.int IntKind.i64 st', AV.int IntKind.i64 code']).objs σ6.no = some [ov', .int .i64 st', .int .i64 code'] := by simp
    have hno7 : ((σ6.newO [AV.nilsl, AV.int IntKind.i64 0, AV.int IntKind.i64 0]).setO σ6.no [ov', AV.int IntKind.i64 st', AV.int IntKind.i64 code']).no = σ6.no + 1 := by simp
    generalize (σ6.newO [AV.nilsl, AV.int IntKind.i64 0, AV.int IntKind.i64 0]).setO σ6.no [ov', AV.int IntKind.i64 st', AV.int IntKind.i64 code'] = σ7 at *
    have c1 : ¬ st < 1 := by rcases hst with h | h | h <;> omega
    have c2 : ¬ 3 < st := by rcases hst with h | h | h <;> omega
    have c3 : ¬ s < (out.length : Int) := by omega
    have c4 : ¬ ((out ++ rest).length : Int) < (out.length : Int) := by simp; omega
    have c5 : ¬ ((out.length : Int) + (rest.length : Int) < (out.length : Int)) := by omega
    have hlo : out.length ≤ 2 ^ 40 := by omega
    rcases ho' with ⟨he', rfl⟩ | ⟨b', rfl⟩
    · obtain ⟨rfl, rfl⟩ : out = [] ∧ rest = [] := by simpa using he'
      have c6 : ¬ s < 0 := by omega
      simp [ha7, hb7, c1, c2, c3, c4, c5, c6, l1, l2, o1]
      have ho' : IntsV AV.nilsl ([] ++ []) := .inl ⟨rfl, rfl⟩
      refine sameInts_calls (p := []) (q := []) (.inl ⟨rfl, rfl⟩) ho (by simp) ?_
      simp
      by_cases h3 : st = 3
      · have hc0 := hz h3
        simp [ha7, hb7, h3, hc0]
        refine known12_calls V fun σ8 A8 => ?_
        simp
        exact h _
      · obtain ⟨e1, e2, e3⟩ := hsame h3
        simp [ha7, hb7, h3, o1, o1]
        refine sameRun_calls ho ho' (by omega) fun σ8 A8 => ?_
        have ha8 := (A8.obj σ4.no (by omega)).trans ha7
        simp [e1, e2, e3, h3, ha8]
        refine known12_calls V fun σ9 A9 => ?_
        simp
        exact h _
    · have ho' : IntsV (AV.sl (.stat b') 1 ((out ++ rest).map (.int .i64))) (out ++ rest) := .inr ⟨_, rfl⟩
      have htk : List.take out.length ((out ++ rest).map (AV.int .i64)) = out.map (AV.int .i64) := by rw [← List.map_take, List.take_left]
      have htk' : List.take out.length (out.map (AV.int .i64) ++ rest.map (AV.int .i64)) = out.map (AV.int .i64) := by simp
      simp [ha7, hb7, c1, c2, c3, c4, c5, l1, l2, o1, htk']
      refine ⟨by omega, sameInts_calls (p := out) (q := out) (.inr ⟨_, rfl⟩) ho hlo ?_⟩
      simp
      by_cases h3 : st = 3
      · have hc0 := hz h3
        simp [ha7, hb7, h3, hc0]
        refine known12_calls V fun σ8 A8 => ?_
        simp
        exact h _
      · obtain ⟨e1, e2, e3⟩ := hsame h3
        simp [ha7, hb7, h3, o1]
        have ho'' : IntsV (AV.sl (.stat b') 1 (out.map (.int .i64) ++ rest.map (.int .i64))) (out ++ rest) := by simpa using ho'
        refine sameRun_calls ho ho'' (by omega) fun σ8 A8 => ?_
        have ha8 := (A8.obj σ4.no (by omega)).trans ha7
        simp [e1, e2, e3, h3, ha8]
        refine known12_calls V fun σ9 A9 => ?_
        simp
        exact h _
  · simp [he]
    refine known12_calls V fun σ4 A4 => ?_
    simp
    exact h _
end Go.Proofs.YthifgodgfhbnfaaDoor
