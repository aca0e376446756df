/- The modules of WasmKnown, what looking at them and running them comes to, in plain words; loop; no condition. -/
import Derived.Test.YthifgodgfhbnfaaDoorY
set_option linter.unusedSimpArgs false
set_option linter.unusedVariables false
namespace Go.Proofs.YthifgodgfhbnfaaDoor
open Go Go.Abs
def kn0 : To := [[numW 1 1, numW 1 0, ⟨4, 1, 0, 0, 0, [100, 105, 118, 95, 115]⟩]]
def kn1 : To := [[⟨2, 0, 2, 0, 0, []⟩, ⟨6, 0, 0, 0, 0, []⟩]]
def kn2 : To := [[⟨2, 0, 2, 0, 0, []⟩]]
def kn3 : To := [[numW 1 1, numW 1 2]]
def kn4 : To := [[numW 2 5, ⟨18, 0, 0, 0, 0, []⟩, numW 1 4]]
def kn5 : To := [[⟨16, 0, 0, 0, 0, []⟩]]
def kn6 : To := [[numW 1 6, ⟨16, 0, 0, 0, 0, []⟩]]
def kn7 : To := [[⟨17, 0, 0, 0, 0, []⟩]]
def kn8 : To := [[⟨14, 0, 0, 0, 0, []⟩]]
def kn9 : To := [[numW 1 8, ⟨14, 0, 0, 0, 0, []⟩]]
def kn10 : To := [[numW 1 9, ⟨14, 0, 1, 0, 0, []⟩]]
def kn11 : To := [[numW 1 2147483648]]
def kn12 : To := [[⟨2, 0, 4, 0, 0, []⟩]]
def kn13 : To := [[⟨19, 0, 0, 0, 0, []⟩]]
def kn14 : To := [[numW 3 1]]
def kn15 : To := [[numW 1 1, numW 1 1, ⟨4, 1, 0, 0, 0, [100, 105, 118]⟩]]
def kn16 : To := [[numW 1 5, numW 1 1, ⟨15, 0, 0, 0, 0, []⟩]]
def kn17 : To := [[numW 1 3, ⟨10, 0, 2, 0, 0, []⟩, numW 1 1]]
def kn18 : To := [[⟨10, 0, 0, 0, 0, []⟩, ⟨6, 0, 0, 0, 0, []⟩]]
def kn19 : To := [[⟨10, 0, 3, 0, 0, []⟩]]
def kn20 : To := [[⟨10, 0, 4, 0, 0, []⟩]]
def kn21 : To := [[numW 1 0, ⟨5, 1, 0, 0, 0, []⟩]]
def kn22 : To := [[⟨16, 0, 0, 0, 0, []⟩, ⟨18, 0, 0, 0, 0, []⟩, ⟨18, 0, 0, 0, 0, []⟩, numW 2 1]]
def kn23 : To := [[⟨16, 0, 0, 0, 0, []⟩, numW 2 1]]
def kn24 : To := [[⟨14, 0, 0, 0, 0, []⟩], [⟨12, 0, 0, 0, 0, []⟩]]
def kn25 : To := [[⟨14, 0, 0, 0, 0, []⟩], [⟨12, 0, 0, 0, 0, []⟩, numW 1 0]]
def kn26 : To := [[numW 1 1], [⟨11, 0, 0, 0, 0, []⟩, numW 1 0]]
def kn27 : To := [[numW 1 7, ⟨16, 0, 0, 0, 0, []⟩], [numW 1 1, ⟨13, 0, 0, 0, (-1), []⟩, numW 1 2]]
def kn28 : To := [[], [⟨11, 0, 0, 0, 0, []⟩, ⟨11, 0, 0, 0, 0, []⟩, numW 1 0]]
def kn29 : To := [[], [numW 1 0]]
def kn30 : To := []
def kn31 : To := [[⟨2, 0, 0, 0, 0, []⟩, ⟨7, 0, 0, 0, 0, []⟩, ⟨10, 0, 1, 0, 0, []⟩, ⟨2, 0, 0, 0, 0, []⟩, numW 1 1, ⟨4, 1, 0, 0, 0, [115, 117, 98]⟩, ⟨3, 0, 0, 0, 0, []⟩, ⟨2, 0, 0, 0, 0, []⟩, ⟨15, 0, 0, 0, 0, []⟩], [numW 1 3, ⟨3, 0, 0, 0, 0, []⟩, ⟨12, 0, 0, 0, 0, []⟩, ⟨2, 0, 0, 0, 0, []⟩]]
def knAll : List To := [kn0, kn1, kn2, kn3, kn4, kn5, kn6, kn7, kn8, kn9, kn10, kn11, kn12, kn13, kn14, kn15, kn16, kn17, kn18, kn19, kn20, kn21, kn22, kn23, kn24, kn25, kn26, kn27, kn28, kn29, kn30, kn31]
def knCheck : List Int := [0, 0, 14, 14, 0, 14, 0, 0, 14, 0, 11, 11, 11, 2, 2, 2, 0, 0, 0, 0, 11, 0, 14, 14, 14, 0, 14, 0, 11, 11, 11, 0]
def knStatus : List Int := [2, 1, 0, 0, 1, 0, 1, 2, 0, 1, 0, 0, 0, 0, 0, 0, 1, 2, 1, 2, 0, 1, 0, 0, 0, 3, 0, 1, 0, 0, 0, 1]
def knCode : List Int := [1, 0, 0, 0, 4, 0, 6, 5, 0, 8, 0, 0, 0, 0, 0, 0, 5, 3, (-7), 4, 0, 1, 0, 0, 0, 0, 0, 7, 0, 0, 0, 0]
theorem kn0_check : checkE (M12 kn0) = .ok () := by kernel_rfl
theorem kn0_run : (runM (M12 kn0) [-7] 200 201).map (·.2) = some (2, 1) := by kernel_rfl
theorem kn1_check : checkE (M12 kn1) = .ok () := by kernel_rfl
theorem kn1_run : (runM (M12 kn1) [-7] 200 201).map (·.2) = some (1, 0) := by kernel_rfl
theorem kn2_check : checkE (M12 kn2) = .error 14 := by kernel_rfl
theorem kn3_check : checkE (M12 kn3) = .error 14 := by kernel_rfl
theorem kn4_check : checkE (M12 kn4) = .ok () := by kernel_rfl
theorem kn4_run : (runM (M12 kn4) [-7] 200 201).map (·.2) = some (1, 4) := by kernel_rfl
theorem kn5_check : checkE (M12 kn5) = .error 14 := by kernel_rfl
theorem kn6_check : checkE (M12 kn6) = .ok () := by kernel_rfl
theorem kn6_run : (runM (M12 kn6) [-7] 200 201).map (·.2) = some (1, 6) := by kernel_rfl
theorem kn7_check : checkE (M12 kn7) = .ok () := by kernel_rfl
theorem kn7_run : (runM (M12 kn7) [-7] 200 201).map (·.2) = some (2, 5) := by kernel_rfl
theorem kn8_check : checkE (M12 kn8) = .error 14 := by kernel_rfl
theorem kn9_check : checkE (M12 kn9) = .ok () := by kernel_rfl
theorem kn9_run : (runM (M12 kn9) [-7] 200 201).map (·.2) = some (1, 8) := by kernel_rfl
theorem kn10_check : checkE (M12 kn10) = .error 11 := by kernel_rfl
theorem kn11_check : checkE (M12 kn11) = .error 11 := by kernel_rfl
theorem kn12_check : checkE (M12 kn12) = .error 11 := by kernel_rfl
theorem kn13_check : checkE (M12 kn13) = .error 2 := by kernel_rfl
theorem kn14_check : checkE (M12 kn14) = .error 2 := by kernel_rfl
theorem kn15_check : checkE (M12 kn15) = .error 2 := by kernel_rfl
theorem kn16_check : checkE (M12 kn16) = .ok () := by kernel_rfl
theorem kn16_run : (runM (M12 kn16) [-7] 200 201).map (·.2) = some (1, 5) := by kernel_rfl
theorem kn17_check : checkE (M12 kn17) = .ok () := by kernel_rfl
theorem kn17_run : (runM (M12 kn17) [-7] 200 201).map (·.2) = some (2, 3) := by kernel_rfl
theorem kn18_check : checkE (M12 kn18) = .ok () := by kernel_rfl
theorem kn18_run : (runM (M12 kn18) [-7] 200 201).map (·.2) = some (1, (-7)) := by kernel_rfl
theorem kn19_check : checkE (M12 kn19) = .ok () := by kernel_rfl
theorem kn19_run : (runM (M12 kn19) [-7] 200 201).map (·.2) = some (2, 4) := by kernel_rfl
theorem kn20_check : checkE (M12 kn20) = .error 11 := by kernel_rfl
theorem kn21_check : checkE (M12 kn21) = .ok () := by kernel_rfl
theorem kn21_run : (runM (M12 kn21) [-7] 200 201).map (·.2) = some (1, 1) := by kernel_rfl
theorem kn22_check : checkE (M12 kn22) = .error 14 := by kernel_rfl
theorem kn23_check : checkE (M12 kn23) = .error 14 := by kernel_rfl
theorem kn24_check : checkE (M12 kn24) = .error 14 := by kernel_rfl
theorem kn25_check : checkE (M12 kn25) = .ok () := by kernel_rfl
theorem kn25_run : (runM (M12 kn25) [-7] 200 201).map (·.2) = some (3, 0) := by kernel_rfl
theorem kn26_check : checkE (M12 kn26) = .error 14 := by kernel_rfl
theorem kn27_check : checkE (M12 kn27) = .ok () := by kernel_rfl
theorem kn27_run : (runM (M12 kn27) [-7] 200 201).map (·.2) = some (1, 7) := by kernel_rfl
theorem kn28_check : checkE (M12 kn28) = .error 11 := by kernel_rfl
theorem kn29_check : checkE (M12 kn29) = .error 11 := by kernel_rfl
theorem kn30_check : checkE (M12 kn30) = .error 11 := by kernel_rfl
theorem kn31_check : checkE (M12 kn31) = .ok () := by kernel_rfl
theorem kn31_run : (runM (M12 kn31) [-7] 200 201).map (·.2) = some (1, 0) := by kernel_rfl
theorem loop_run : runM (M12 kn31) [] 200 201 = some ([3, 2, 1], 1, 0) := by kernel_rfl
theorem small_kn {i : Nat} {to : To} (h : knAll[i]? = some to) : Small (M12 to) ∧ OkFs (M12 to).funcs := by
  have key : (knAll.all fun to => decide (to.length ≤ 100) && to.all fun l => decide (l.length ≤ 100) && l.all fun w => decide (w.n ≤ 2 ^ 63 - 1)) = true := by kernel_rfl
  have := List.all_eq_true.1 key to (List.mem_of_getElem? h)
  simp only [Bool.and_eq_true, decide_eq_true_eq, List.all_eq_true] at this
  obtain ⟨h1, h2⟩ := this
  exact small12 (by omega) (fun l hl => by have := (h2 l hl).1; omega) fun l hl w hw => (h2 l hl).2 w hw
theorem kn_all {i : Nat} {to : To} {c s d : Int} (h : knAll[i]? = some to) (hc : knCheck[i]? = some c) (hs : knStatus[i]? = some s) (hd : knCode[i]? = some d) : errOf (checkE (M12 to)) = c ∧ (c = 0 → (runM (M12 to) [-7] 200 201).map (·.2) = some (s, d)) := by
  have hl : i < 32 := (List.getElem?_eq_some_iff.1 h).1
  match i, hl with
  | 0, _ => cases h; cases hc; cases hs; cases hd; exact ⟨by rw [kn0_check]; rfl, fun _ => kn0_run⟩
  | 1, _ => cases h; cases hc; cases hs; cases hd; exact ⟨by rw [kn1_check]; rfl, fun _ => kn1_run⟩
  | 2, _ => cases h; cases hc; cases hs; cases hd; exact ⟨by rw [kn2_check]; rfl, fun _ => by rename_i h; cases h⟩
  | 3, _ => cases h; cases hc; cases hs; cases hd; exact ⟨by rw [kn3_check]; rfl, fun _ => by rename_i h; cases h⟩
  | 4, _ => cases h; cases hc; cases hs; cases hd; exact ⟨by rw [kn4_check]; rfl, fun _ => kn4_run⟩
  | 5, _ => cases h; cases hc; cases hs; cases hd; exact ⟨by rw [kn5_check]; rfl, fun _ => by rename_i h; cases h⟩
  | 6, _ => cases h; cases hc; cases hs; cases hd; exact ⟨by rw [kn6_check]; rfl, fun _ => kn6_run⟩
  | 7, _ => cases h; cases hc; cases hs; cases hd; exact ⟨by rw [kn7_check]; rfl, fun _ => kn7_run⟩
  | 8, _ => cases h; cases hc; cases hs; cases hd; exact ⟨by rw [kn8_check]; rfl, fun _ => by rename_i h; cases h⟩
  | 9, _ => cases h; cases hc; cases hs; cases hd; exact ⟨by rw [kn9_check]; rfl, fun _ => kn9_run⟩
  | 10, _ => cases h; cases hc; cases hs; cases hd; exact ⟨by rw [kn10_check]; rfl, fun _ => by rename_i h; cases h⟩
  | 11, _ => cases h; cases hc; cases hs; cases hd; exact ⟨by rw [kn11_check]; rfl, fun _ => by rename_i h; cases h⟩
  | 12, _ => cases h; cases hc; cases hs; cases hd; exact ⟨by rw [kn12_check]; rfl, fun _ => by rename_i h; cases h⟩
  | 13, _ => cases h; cases hc; cases hs; cases hd; exact ⟨by rw [kn13_check]; rfl, fun _ => by rename_i h; cases h⟩
  | 14, _ => cases h; cases hc; cases hs; cases hd; exact ⟨by rw [kn14_check]; rfl, fun _ => by rename_i h; cases h⟩
  | 15, _ => cases h; cases hc; cases hs; cases hd; exact ⟨by rw [kn15_check]; rfl, fun _ => by rename_i h; cases h⟩
  | 16, _ => cases h; cases hc; cases hs; cases hd; exact ⟨by rw [kn16_check]; rfl, fun _ => kn16_run⟩
  | 17, _ => cases h; cases hc; cases hs; cases hd; exact ⟨by rw [kn17_check]; rfl, fun _ => kn17_run⟩
  | 18, _ => cases h; cases hc; cases hs; cases hd; exact ⟨by rw [kn18_check]; rfl, fun _ => kn18_run⟩
  | 19, _ => cases h; cases hc; cases hs; cases hd; exact ⟨by rw [kn19_check]; rfl, fun _ => kn19_run⟩
  | 20, _ => cases h; cases hc; cases hs; cases hd; exact ⟨by rw [kn20_check]; rfl, fun _ => by rename_i h; cases h⟩
  | 21, _ => cases h; cases hc; cases hs; cases hd; exact ⟨by rw [kn21_check]; rfl, fun _ => kn21_run⟩
  | 22, _ => cases h; cases hc; cases hs; cases hd; exact ⟨by rw [kn22_check]; rfl, fun _ => by rename_i h; cases h⟩
  | 23, _ => cases h; cases hc; cases hs; cases hd; exact ⟨by rw [kn23_check]; rfl, fun _ => by rename_i h; cases h⟩
  | 24, _ => cases h; cases hc; cases hs; cases hd; exact ⟨by rw [kn24_check]; rfl, fun _ => by rename_i h; cases h⟩
  | 25, _ => cases h; cases hc; cases hs; cases hd; exact ⟨by rw [kn25_check]; rfl, fun _ => kn25_run⟩
  | 26, _ => cases h; cases hc; cases hs; cases hd; exact ⟨by rw [kn26_check]; rfl, fun _ => by rename_i h; cases h⟩
  | 27, _ => cases h; cases hc; cases hs; cases hd; exact ⟨by rw [kn27_check]; rfl, fun _ => kn27_run⟩
  | 28, _ => cases h; cases hc; cases hs; cases hd; exact ⟨by rw [kn28_check]; rfl, fun _ => by rename_i h; cases h⟩
  | 29, _ => cases h; cases hc; cases hs; cases hd; exact ⟨by rw [kn29_check]; rfl, fun _ => by rename_i h; cases h⟩
  | 30, _ => cases h; cases hc; cases hs; cases hd; exact ⟨by rw [kn30_check]; rfl, fun _ => by rename_i h; cases h⟩
  | 31, _ => cases h; cases hc; cases hs; cases hd; exact ⟨by rw [kn31_check]; rfl, fun _ => kn31_run⟩
theorem loop_calls {G : Env} {σ : AS} {R : Out → AS → Prop} (h : ∀ v' σ', MV v' (M12 kn31) → Adds σ σ' → R (.ret v') σ') : ACalls Tryd.prog G 27 [] σ R := by
  refine calls27 rfl ?_
  simp [pc27, splice]
  refine numberW_calls fun σ1 A1 => ?_
  simp [W.av, W.cs, numW, splice]
  refine numberW_calls fun σ2 A2 => ?_
  simp [W.av, W.cs, numW, splice]
  refine mainOf_calls (to := kn31) (.inr ⟨_, _, rfl, .cons (.inr ⟨true, rfl⟩) (.cons (.inr ⟨true, rfl⟩) .nil)⟩) fun v' σ3 hm A3 => ?_
  obtain ⟨fv, rfl, hfs⟩ := hm
  have f1 := hfs.one
  have h1 : (σ.newO [AV.nilsl, AV.int IntKind.i64 0, AV.int IntKind.i64 0]).no = σ.no + 1 := by simp
  have A : Adds (σ.newO [AV.nilsl, AV.int IntKind.i64 0, AV.int IntKind.i64 0]) σ3 := (A1.trans A2).trans A3
  have hno := A.no
  have ho := A.obj σ.no (by simp)
  simp at ho
  simp [f1, ho, splice]
  exact h _ _ ⟨_, rfl, hfs⟩ (((Adds.refl σ).newO.trans A).setO (Nat.le_refl _))
end Go.Proofs.YthifgodgfhbnfaaDoor
set_option linter.unusedSimpArgs false
set_option linter.unusedVariables false
namespace Go.Proofs.YthifgodgfhbnfaaDoor
open Go Go.Abs
theorem kn_no : errOf (checkE { M12 [[w17]] with main := 1 }) = 12 := by kernel_rfl
theorem kn_wide : errOf (checkE { M12 [[w17]] with memory := 4097 }) = 11 := by kernel_rfl
theorem kn_zero : errOf (checkE ⟨[], 0, 0⟩) = 12 := by kernel_rfl
def KnI (vs : List AV) (a : Nat → AV) (τ : AS) : Prop := ∃ i : Nat, i ≤ 32 ∧ a 6 = .sl (.stat true) 3 vs ∧ a 7 = .sl (.stat true) 1 (knCheck.map (.int .i64)) ∧ a 8 = .sl (.stat true) 1 (knStatus.map (.int .i64)) ∧ a 9 = .sl (.stat true) 1 (knCode.map (.int .i64)) ∧ a 10 = .int .i64 (i : Int)
set_option maxHeartbeats 4000000 in
set_option maxRecDepth 40000 in
theorem kn_loop {G : Env} (V : Vars G) {vs : List AV} (hv : All2 (fun v to => MV v (M12 to)) vs knAll) {a : Nat → AV} {σ : AS} {R : Out → AS → Prop} (h6 : a 6 = .sl (.stat true) 3 vs) (h7 : a 7 = .sl (.stat true) 1 (knCheck.map (.int .i64))) (h8 : a 8 = .sl (.stat true) 1 (knStatus.map (.int .i64))) (h9 : a 9 = .sl (.stat true) 1 (knCode.map (.int .i64))) (h10 : a 10 = .int .i64 ((0 : Nat) : Int)) (h : ∀ σ', R (.ret (.bool true)) σ') :
    ALoop Tryd.prog G 235 pc7_l1 (ablock 0 (athen (avc Tryd.prog G 235 pc7_r1 (afin Tryd.prog [.tmp 0] R)) (afin Tryd.prog [.tmp 0] R))) a σ := by
  have hvl : vs.length = 32 := hv.length.trans rfl
  refine aloop (KnI vs) (MU 10 33) ⟨0, by omega, h6, h7, h8, h9, h10⟩ fun a τ hI => ?_
  obtain ⟨i, hi, a6, a7, a8, a9, a10⟩ := hI
  by_cases hlt : i < 32
  · have hlt' : (i : Int) < 32 := by omega
    have hk : i < knAll.length := hlt
    obtain ⟨v, hvi, hmv⟩ := hv.get (List.getElem?_eq_getElem hk)
    obtain ⟨kc, hkr⟩ := kn_all (List.getElem?_eq_getElem hk) (List.getElem?_eq_getElem (show i < knCheck.length from hlt)) (List.getElem?_eq_getElem (show i < knStatus.length from hlt)) (List.getElem?_eq_getElem (show i < knCode.length from hlt))
    obtain ⟨sm, of⟩ := small_kn (List.getElem?_eq_getElem hk)
    obtain ⟨b1, x1⟩ := IntsV.at (l := knCheck) (.inr ⟨true, rfl⟩) (show i < knCheck.length from hlt)
    obtain ⟨b2, x2⟩ := IntsV.at (l := knStatus) (.inr ⟨true, rfl⟩) (show i < knStatus.length from hlt)
    obtain ⟨b3, x3⟩ := IntsV.at (l := knCode) (.inr ⟨true, rfl⟩) (show i < knCode.length from hlt)
    have x0 : ∀ K : AV → Prop, aindexAddr Tryd.prog 58 (.sl (.stat true) 3 vs) (.int .i64 (i : Int)) K = K (.pv (.stat true) v) := fun K => by simp [hvi]
    generalize knCheck[i] = c at *
    generalize knStatus[i] = s at *
    generalize knCode[i] = d at *
    generalize knAll[i] = to at *
    generalize hlc : knCheck.map (AV.int .i64) = lc at *
    generalize hls : knStatus.map (AV.int .i64) = ls at *
    generalize hld : knCode.map (AV.int .i64) = ld at *
    obtain ⟨fv, rfl, hfs⟩ := hmv
    have f1 := hfs.one
    have hmv : MV (.agg [fv, .int .i64 (M12 to).memory, .int .i64 (M12 to).main]) (M12 to) := ⟨fv, rfl, hfs⟩
    have w1 : IntKind.wrap .i64 ((i : Int) + 1) = ((i + 1 : Nat) : Int) := by rw [wrap_i64] <;> omega
    simp [pc7_l1, a6, a7, a8, a9, a10, hvl, hlt', x0, x1, f1]
    refine check_calls V sm hmv fun σ1 A1 => ?_
    rw [kc]
    by_cases hc : c = 0
    · have hck := check_ok (kc.trans hc)
      simp [a6, a7, a8, a9, a10, x0, x1, f1, hc]
      refine run_calls V hmv hck of (input := [-7]) (steps := 200) (.inr ⟨true, rfl⟩) (by simp) (by omega) fun ov out st code σ2 hr ho A2 => ?_
      have hr2 := hkr hc
      rw [show (runM (M12 to) [-7] 200 201) = some (out, st, code) from hr] at hr2
      obtain ⟨rfl, rfl⟩ : st = s ∧ code = d := by simpa using hr2
      have o1 := ho.one
      simp [a6, a7, a8, a9, a10, x2, x3, o1, splice, w1]
      refine ⟨⟨i + 1, by omega, by simp [a6], by simp [a7, hlc], by simp [a8, hls], by simp [a9, hld], by simp⟩, ?_⟩
      simp only [MU, a10]; simp; omega
    · simp [a6, a7, a8, a9, a10, x0, x1, f1, hc, w1]
      refine ⟨⟨i + 1, by omega, by simp [a6], by simp [a7, hlc], by simp [a8, hls], by simp [a9, hld], by simp⟩, ?_⟩
      simp only [MU, a10]; simp; omega
  · have hlt' : ¬ (i : Int) < 32 := by omega
    simp [pc7_l1, pc7_r1, a6, a10, hvl, hlt']
    clear a7 a8 a9 h6 h7 h8 h9 h10 hv a6 a10 hvl
    refine loop_calls fun v σ1 hm A1 => ?_
    simp
    refine run_calls V hm kn31_check (small_kn (i := 31) rfl).2 (input := []) (steps := 200) (.inl ⟨rfl, rfl⟩) (by simp) (by omega) fun ov out st code σ2 hr ho A2 => ?_
    rw [show runM (M12 kn31) [] 200 ((200 : Int).toNat + 1) = some ([3, 2, 1], 1, 0) from loop_run] at hr
    obtain ⟨rfl, rfl, rfl⟩ : [3, 2, 1] = out ∧ 1 = st ∧ 0 = code := by simpa using hr
    have o1 := ho.one
    simp [o1, splice]
    have hr3 : ((σ2.newO [AV.nilsl, AV.int IntKind.i64 0, AV.int IntKind.i64 0]).setO σ2.no [ov, AV.int IntKind.i64 1, AV.int IntKind.i64 0]).objs σ2.no = some [ov, .int .i64 1, .int .i64 0] := by simp
    have hn3 : ((σ2.newO [AV.nilsl, AV.int IntKind.i64 0, AV.int IntKind.i64 0]).setO σ2.no [ov, AV.int IntKind.i64 1, AV.int IntKind.i64 0]).no = σ2.no + 1 := by simp
    generalize (σ2.newO [AV.nilsl, AV.int IntKind.i64 0, AV.int IntKind.i64 0]).setO σ2.no [ov, AV.int IntKind.i64 1, AV.int IntKind.i64 0] = σ3 at *
    refine numberW_calls fun σ4 A4 => ?_
    simp [W.av, W.cs, numW, splice]
    refine body_calls (l := [w17]) (.inr ⟨true, rfl⟩) fun v σ5 hm5 A5 => ?_
    obtain ⟨fv, rfl, hfs⟩ := hm5
    have f1 := hfs.one
    have hn5 := (A4.trans A5).no
    have hr5 := ((A4.trans A5).obj σ2.no (by omega)).trans hr3
    have hne5 : σ2.no ≠ σ5.no := by omega
    simp [f1, splice]
    have hr6 : (((σ5.newO [AV.nilsl, AV.int IntKind.i64 0, AV.int IntKind.i64 0]).setO σ5.no [fv, AV.int IntKind.i64 (M12 [[w17]]).memory, AV.int IntKind.i64 (M12 [[w17]]).main]).setO σ5.no [fv, AV.int IntKind.i64 (M12 [[w17]]).memory, AV.int IntKind.i64 1]).objs σ2.no = some [ov, .int .i64 1, .int .i64 0] := by simp [hne5, hr5]
    have ha6 : (((σ5.newO [AV.nilsl, AV.int IntKind.i64 0, AV.int IntKind.i64 0]).setO σ5.no [fv, AV.int IntKind.i64 (M12 [[w17]]).memory, AV.int IntKind.i64 (M12 [[w17]]).main]).setO σ5.no [fv, AV.int IntKind.i64 (M12 [[w17]]).memory, AV.int IntKind.i64 1]).objs σ5.no = some [fv, .int .i64 (M12 [[w17]]).memory, .int .i64 1] := by simp
    have hn6 : (((σ5.newO [AV.nilsl, AV.int IntKind.i64 0, AV.int IntKind.i64 0]).setO σ5.no [fv, AV.int IntKind.i64 (M12 [[w17]]).memory, AV.int IntKind.i64 (M12 [[w17]]).main]).setO σ5.no [fv, AV.int IntKind.i64 (M12 [[w17]]).memory, AV.int IntKind.i64 1]).no = σ5.no + 1 := by simp
    generalize ((σ5.newO [AV.nilsl, AV.int IntKind.i64 0, AV.int IntKind.i64 0]).setO σ5.no [fv, AV.int IntKind.i64 (M12 [[w17]]).memory, AV.int IntKind.i64 (M12 [[w17]]).main]).setO σ5.no [fv, AV.int IntKind.i64 (M12 [[w17]]).memory, AV.int IntKind.i64 1] = σ6 at *
    refine numberW_calls fun σ7 A7 => ?_
    simp [W.av, W.cs, numW, splice]
    refine body_calls (l := [w17]) (.inr ⟨true, rfl⟩) fun v σ8 hm8 A8 => ?_
    obtain ⟨gv, rfl, hgs⟩ := hm8
    have g1 := hgs.one
    have hn8 := (A7.trans A8).no
    have hr8 := ((A7.trans A8).obj σ2.no (by omega)).trans hr6
    have ha8 := ((A7.trans A8).obj σ5.no (by omega)).trans ha6
    have hne8 : σ2.no ≠ σ8.no := by omega
    have hne9 : σ5.no ≠ σ8.no := by omega
    simp [g1, splice, hne8, hne9, hr8, ha8, o1]
    have ha9 : (((σ8.newO [AV.nilsl, AV.int IntKind.i64 0, AV.int IntKind.i64 0]).setO σ8.no [gv, AV.int IntKind.i64 (M12 [[w17]]).memory, AV.int IntKind.i64 (M12 [[w17]]).main]).setO σ8.no [gv, AV.int IntKind.i64 4097, AV.int IntKind.i64 (M12 [[w17]]).main]).objs σ5.no = some [fv, .int .i64 (M12 [[w17]]).memory, .int .i64 1] := by simp [hne9, ha8]
    have hb9 : (((σ8.newO [AV.nilsl, AV.int IntKind.i64 0, AV.int IntKind.i64 0]).setO σ8.no [gv, AV.int IntKind.i64 (M12 [[w17]]).memory, AV.int IntKind.i64 (M12 [[w17]]).main]).setO σ8.no [gv, AV.int IntKind.i64 4097, AV.int IntKind.i64 (M12 [[w17]]).main]).objs σ8.no = some [gv, .int .i64 4097, .int .i64 (M12 [[w17]]).main] := by simp
    have hn9 : (((σ8.newO [AV.nilsl, AV.int IntKind.i64 0, AV.int IntKind.i64 0]).setO σ8.no [gv, AV.int IntKind.i64 (M12 [[w17]]).memory, AV.int IntKind.i64 (M12 [[w17]]).main]).setO σ8.no [gv, AV.int IntKind.i64 4097, AV.int IntKind.i64 (M12 [[w17]]).main]).no = σ8.no + 1 := by simp
    generalize ((σ8.newO [AV.nilsl, AV.int IntKind.i64 0, AV.int IntKind.i64 0]).setO σ8.no [gv, AV.int IntKind.i64 (M12 [[w17]]).memory, AV.int IntKind.i64 (M12 [[w17]]).main]).setO σ8.no [gv, AV.int IntKind.i64 4097, AV.int IntKind.i64 (M12 [[w17]]).main] = σ9 at *
    obtain ⟨smw, _⟩ := small12 (to := [[w17]]) (by simp) (by simp) (by simp [w17, numW])
    refine sameInts_calls (p := [3, 2, 1]) (q := [3, 2, 1]) ho (.inr ⟨true, rfl⟩) (by simp) ?_
    simp [ha9, hb9, f1, g1]
    refine check_calls (m := { M12 [[w17]] with main := 1 }) V ⟨smw.funcs, smw.params, smw.locals, smw.lists, smw.rows, smw.nums⟩ ⟨fv, rfl, hfs⟩ fun σ10 A10 => ?_
    have hb10 := (A10.obj _ (by omega)).trans hb9
    rw [kn_no]
    simp [hb10, g1]
    refine check_calls (m := { M12 [[w17]] with memory := 4097 }) V ⟨smw.funcs, smw.params, smw.locals, smw.lists, smw.rows, smw.nums⟩ ⟨gv, rfl, hgs⟩ fun σ11 A11 => ?_
    rw [kn_wide]
    simp [splice]
    refine check_calls (m := ⟨[], 0, 0⟩) V ⟨by simp, by simp, by simp, by simp, by simp, by simp⟩ ⟨.nilsl, rfl, .inl ⟨rfl, rfl⟩⟩ fun σ12 A12 => ?_
    rw [kn_zero]
    simp
    refine known12_calls V fun σ13 A13 => ?_
    simp
    exact h _
end Go.Proofs.YthifgodgfhbnfaaDoor
set_option linter.unusedSimpArgs false
set_option linter.unusedVariables false
namespace Go.Proofs.YthifgodgfhbnfaaDoor
open Go Go.Abs
theorem ne2 (n : Nat) : (n = n + 1 + 1) = False := by simp; omega
theorem ne3 (n : Nat) : (n = n + 1 + 1 + 1) = False := by simp; omega
theorem ne4 (n : Nat) : (n = n + 1 + 1 + 1 + 1) = False := by simp; omega
/-- the five instructions that the law holds -/
structure Five (o : Nat) (σ : AS) : Prop where
  no : o + 5 ≤ σ.no
  a : σ.objs o = some [.int .i64 2, .int .i64 0, .int .i64 2, .int .i64 0, .int .i64 0, .str []]
  b : σ.objs (o + 1) = some [.int .i64 6, .int .i64 0, .int .i64 0, .int .i64 0, .int .i64 0, .str []]
  c : σ.objs (o + 1 + 1) = some [.int .i64 18, .int .i64 0, .int .i64 0, .int .i64 0, .int .i64 0, .str []]
  d : σ.objs (o + 1 + 1 + 1) = some [.int .i64 16, .int .i64 0, .int .i64 0, .int .i64 0, .int .i64 0, .str []]
  e : σ.objs (o + 1 + 1 + 1 + 1) = some [.int .i64 4, .int .i64 1, .int .i64 0, .int .i64 0, .int .i64 0, .str [100, 105, 118, 95, 115]]
theorem Five.adds {o : Nat} {σ σ' : AS} (h : Five o σ) (A : Adds σ σ') : Five o σ' := by
  have := h.no
  have := A.no
  exact ⟨by omega, (A.obj _ (by omega)).trans h.a, (A.obj _ (by omega)).trans h.b, (A.obj _ (by omega)).trans h.c, (A.obj _ (by omega)).trans h.d, (A.obj _ (by omega)).trans h.e⟩
set_option maxHeartbeats 20000000 in
set_option maxRecDepth 40000 in
theorem wasmKnown_calls {G : Env} (V : Vars G) {σ : AS} {R : Out → AS → Prop} (h : ∀ σ', R (.ret (.bool true)) σ') : ACalls Tryd.prog G 7 [] σ R := by
  refine calls7 rfl ?_
  simp [pc7, splice, ne2, ne3, ne4]
  generalize hS : ((((((((((σ.newO _).setO _ _).newO _).setO _ _).newO _).setO _ _).newO _).setO _ _).newO _).setO _ _) = S0
  have I0 : Five σ.no S0 := by
    subst hS
    exact ⟨by simp, by simp [ne2, ne3, ne4], by simp [ne2, ne3, ne4], by simp [ne2, ne3, ne4], by simp [ne2, ne3, ne4], by simp⟩
  clear hS
  generalize σ.no = o at *
  refine numberW_calls fun S1 A1 => ?_
  have I1 := I0.adds A1
  clear I0 A1
  simp [W.av, W.cs, numW, splice, I1.a, I1.b, I1.c, I1.d, I1.e]
  refine numberW_calls fun S2 A2 => ?_
  have I2 := I1.adds A2
  clear I1 A2
  simp [W.av, W.cs, numW, splice, I2.a, I2.b, I2.c, I2.d, I2.e]
  refine body_calls (l := [numW 1 1, numW 1 0, ⟨4, 1, 0, 0, 0, [100, 105, 118, 95, 115]⟩]) (.inr ⟨true, rfl⟩) fun v S3 hm0 A3 => ?_
  obtain ⟨fv0, rfl, hf0⟩ := hm0
  have e0 := hf0.one
  have I3 := I2.adds A3
  clear I2 A3
  simp [splice, I3.a, I3.b, I3.c, I3.d, I3.e, e0]
  refine body_calls (l := [⟨2, 0, 2, 0, 0, []⟩, ⟨6, 0, 0, 0, 0, []⟩]) (.inr ⟨true, rfl⟩) fun v S4 hm1 A4 => ?_
  obtain ⟨fv1, rfl, hf1⟩ := hm1
  have e1 := hf1.one
  have I4 := I3.adds A4
  clear I3 A4
  simp [splice, I4.a, I4.b, I4.c, I4.d, I4.e, e1]
  refine body_calls (l := [⟨2, 0, 2, 0, 0, []⟩]) (.inr ⟨true, rfl⟩) fun v S5 hm2 A5 => ?_
  obtain ⟨fv2, rfl, hf2⟩ := hm2
  have e2 := hf2.one
  have I5 := I4.adds A5
  clear I4 A5
  simp [splice, I5.a, I5.b, I5.c, I5.d, I5.e, e2]
  refine numberW_calls fun S6 A6 => ?_
  have I6 := I5.adds A6
  clear I5 A6
  simp [W.av, W.cs, numW, splice, I6.a, I6.b, I6.c, I6.d, I6.e]
  refine numberW_calls fun S7 A7 => ?_
  have I7 := I6.adds A7
  clear I6 A7
  simp [W.av, W.cs, numW, splice, I7.a, I7.b, I7.c, I7.d, I7.e]
  refine body_calls (l := [numW 1 1, numW 1 2]) (.inr ⟨true, rfl⟩) fun v S8 hm3 A8 => ?_
  obtain ⟨fv3, rfl, hf3⟩ := hm3
  have e3 := hf3.one
  have I8 := I7.adds A8
  clear I7 A8
  simp [splice, I8.a, I8.b, I8.c, I8.d, I8.e, e3]
  refine numberW_calls fun S9 A9 => ?_
  have I9 := I8.adds A9
  clear I8 A9
  simp [W.av, W.cs, numW, splice, I9.a, I9.b, I9.c, I9.d, I9.e]
  refine numberW_calls fun S10 A10 => ?_
  have I10 := I9.adds A10
  clear I9 A10
  simp [W.av, W.cs, numW, splice, I10.a, I10.b, I10.c, I10.d, I10.e]
  refine body_calls (l := [numW 2 5, ⟨18, 0, 0, 0, 0, []⟩, numW 1 4]) (.inr ⟨true, rfl⟩) fun v S11 hm4 A11 => ?_
  obtain ⟨fv4, rfl, hf4⟩ := hm4
  have e4 := hf4.one
  have I11 := I10.adds A11
  clear I10 A11
  simp [splice, I11.a, I11.b, I11.c, I11.d, I11.e, e4]
  refine body_calls (l := [⟨16, 0, 0, 0, 0, []⟩]) (.inr ⟨true, rfl⟩) fun v S12 hm5 A12 => ?_
  obtain ⟨fv5, rfl, hf5⟩ := hm5
  have e5 := hf5.one
  have I12 := I11.adds A12
  clear I11 A12
  simp [splice, I12.a, I12.b, I12.c, I12.d, I12.e, e5]
  refine numberW_calls fun S13 A13 => ?_
  have I13 := I12.adds A13
  clear I12 A13
  simp [W.av, W.cs, numW, splice, I13.a, I13.b, I13.c, I13.d, I13.e]
  refine body_calls (l := [numW 1 6, ⟨16, 0, 0, 0, 0, []⟩]) (.inr ⟨true, rfl⟩) fun v S14 hm6 A14 => ?_
  obtain ⟨fv6, rfl, hf6⟩ := hm6
  have e6 := hf6.one
  have I14 := I13.adds A14
  clear I13 A14
  simp [splice, I14.a, I14.b, I14.c, I14.d, I14.e, e6]
  refine body_calls (l := [⟨17, 0, 0, 0, 0, []⟩]) (.inr ⟨true, rfl⟩) fun v S15 hm7 A15 => ?_
  obtain ⟨fv7, rfl, hf7⟩ := hm7
  have e7 := hf7.one
  have I15 := I14.adds A15
  clear I14 A15
  simp [splice, I15.a, I15.b, I15.c, I15.d, I15.e, e7]
  refine body_calls (l := [⟨14, 0, 0, 0, 0, []⟩]) (.inr ⟨true, rfl⟩) fun v S16 hm8 A16 => ?_
  obtain ⟨fv8, rfl, hf8⟩ := hm8
  have e8 := hf8.one
  have I16 := I15.adds A16
  clear I15 A16
  simp [splice, I16.a, I16.b, I16.c, I16.d, I16.e, e8]
  refine numberW_calls fun S17 A17 => ?_
  have I17 := I16.adds A17
  clear I16 A17
  simp [W.av, W.cs, numW, splice, I17.a, I17.b, I17.c, I17.d, I17.e]
  refine body_calls (l := [numW 1 8, ⟨14, 0, 0, 0, 0, []⟩]) (.inr ⟨true, rfl⟩) fun v S18 hm9 A18 => ?_
  obtain ⟨fv9, rfl, hf9⟩ := hm9
  have e9 := hf9.one
  have I18 := I17.adds A18
  clear I17 A18
  simp [splice, I18.a, I18.b, I18.c, I18.d, I18.e, e9]
  refine numberW_calls fun S19 A19 => ?_
  have I19 := I18.adds A19
  clear I18 A19
  simp [W.av, W.cs, numW, splice, I19.a, I19.b, I19.c, I19.d, I19.e]
  refine body_calls (l := [numW 1 9, ⟨14, 0, 1, 0, 0, []⟩]) (.inr ⟨true, rfl⟩) fun v S20 hm10 A20 => ?_
  obtain ⟨fv10, rfl, hf10⟩ := hm10
  have e10 := hf10.one
  have I20 := I19.adds A20
  clear I19 A20
  simp [splice, I20.a, I20.b, I20.c, I20.d, I20.e, e10]
  refine numberW_calls fun S21 A21 => ?_
  have I21 := I20.adds A21
  clear I20 A21
  simp [W.av, W.cs, numW, splice, I21.a, I21.b, I21.c, I21.d, I21.e]
  refine body_calls (l := [numW 1 2147483648]) (.inr ⟨true, rfl⟩) fun v S22 hm11 A22 => ?_
  obtain ⟨fv11, rfl, hf11⟩ := hm11
  have e11 := hf11.one
  have I22 := I21.adds A22
  clear I21 A22
  simp [splice, I22.a, I22.b, I22.c, I22.d, I22.e, e11]
  refine body_calls (l := [⟨2, 0, 4, 0, 0, []⟩]) (.inr ⟨true, rfl⟩) fun v S23 hm12 A23 => ?_
  obtain ⟨fv12, rfl, hf12⟩ := hm12
  have e12 := hf12.one
  have I23 := I22.adds A23
  clear I22 A23
  simp [splice, I23.a, I23.b, I23.c, I23.d, I23.e, e12]
  refine body_calls (l := [⟨19, 0, 0, 0, 0, []⟩]) (.inr ⟨true, rfl⟩) fun v S24 hm13 A24 => ?_
  obtain ⟨fv13, rfl, hf13⟩ := hm13
  have e13 := hf13.one
  have I24 := I23.adds A24
  clear I23 A24
  simp [splice, I24.a, I24.b, I24.c, I24.d, I24.e, e13]
  refine numberW_calls fun S25 A25 => ?_
  have I25 := I24.adds A25
  clear I24 A25
  simp [W.av, W.cs, numW, splice, I25.a, I25.b, I25.c, I25.d, I25.e]
  refine body_calls (l := [numW 3 1]) (.inr ⟨true, rfl⟩) fun v S26 hm14 A26 => ?_
  obtain ⟨fv14, rfl, hf14⟩ := hm14
  have e14 := hf14.one
  have I26 := I25.adds A26
  clear I25 A26
  simp [splice, I26.a, I26.b, I26.c, I26.d, I26.e, e14]
  refine numberW_calls fun S27 A27 => ?_
  have I27 := I26.adds A27
  clear I26 A27
  simp [W.av, W.cs, numW, splice, I27.a, I27.b, I27.c, I27.d, I27.e]
  refine numberW_calls fun S28 A28 => ?_
  have I28 := I27.adds A28
  clear I27 A28
  simp [W.av, W.cs, numW, splice, I28.a, I28.b, I28.c, I28.d, I28.e]
  refine body_calls (l := [numW 1 1, numW 1 1, ⟨4, 1, 0, 0, 0, [100, 105, 118]⟩]) (.inr ⟨true, rfl⟩) fun v S29 hm15 A29 => ?_
  obtain ⟨fv15, rfl, hf15⟩ := hm15
  have e15 := hf15.one
  have I29 := I28.adds A29
  clear I28 A29
  simp [splice, I29.a, I29.b, I29.c, I29.d, I29.e, e15]
  refine numberW_calls fun S30 A30 => ?_
  have I30 := I29.adds A30
  clear I29 A30
  simp [W.av, W.cs, numW, splice, I30.a, I30.b, I30.c, I30.d, I30.e]
  refine numberW_calls fun S31 A31 => ?_
  have I31 := I30.adds A31
  clear I30 A31
  simp [W.av, W.cs, numW, splice, I31.a, I31.b, I31.c, I31.d, I31.e]
  refine body_calls (l := [numW 1 5, numW 1 1, ⟨15, 0, 0, 0, 0, []⟩]) (.inr ⟨true, rfl⟩) fun v S32 hm16 A32 => ?_
  obtain ⟨fv16, rfl, hf16⟩ := hm16
  have e16 := hf16.one
  have I32 := I31.adds A32
  clear I31 A32
  simp [splice, I32.a, I32.b, I32.c, I32.d, I32.e, e16]
  refine numberW_calls fun S33 A33 => ?_
  have I33 := I32.adds A33
  clear I32 A33
  simp [W.av, W.cs, numW, splice, I33.a, I33.b, I33.c, I33.d, I33.e]
  refine numberW_calls fun S34 A34 => ?_
  have I34 := I33.adds A34
  clear I33 A34
  simp [W.av, W.cs, numW, splice, I34.a, I34.b, I34.c, I34.d, I34.e]
  refine body_calls (l := [numW 1 3, ⟨10, 0, 2, 0, 0, []⟩, numW 1 1]) (.inr ⟨true, rfl⟩) fun v S35 hm17 A35 => ?_
  obtain ⟨fv17, rfl, hf17⟩ := hm17
  have e17 := hf17.one
  have I35 := I34.adds A35
  clear I34 A35
  simp [splice, I35.a, I35.b, I35.c, I35.d, I35.e, e17]
  refine body_calls (l := [⟨10, 0, 0, 0, 0, []⟩, ⟨6, 0, 0, 0, 0, []⟩]) (.inr ⟨true, rfl⟩) fun v S36 hm18 A36 => ?_
  obtain ⟨fv18, rfl, hf18⟩ := hm18
  have e18 := hf18.one
  have I36 := I35.adds A36
  clear I35 A36
  simp [splice, I36.a, I36.b, I36.c, I36.d, I36.e, e18]
  refine body_calls (l := [⟨10, 0, 3, 0, 0, []⟩]) (.inr ⟨true, rfl⟩) fun v S37 hm19 A37 => ?_
  obtain ⟨fv19, rfl, hf19⟩ := hm19
  have e19 := hf19.one
  have I37 := I36.adds A37
  clear I36 A37
  simp [splice, I37.a, I37.b, I37.c, I37.d, I37.e, e19]
  refine body_calls (l := [⟨10, 0, 4, 0, 0, []⟩]) (.inr ⟨true, rfl⟩) fun v S38 hm20 A38 => ?_
  obtain ⟨fv20, rfl, hf20⟩ := hm20
  have e20 := hf20.one
  have I38 := I37.adds A38
  clear I37 A38
  simp [splice, I38.a, I38.b, I38.c, I38.d, I38.e, e20]
  refine numberW_calls fun S39 A39 => ?_
  have I39 := I38.adds A39
  clear I38 A39
  simp [W.av, W.cs, numW, splice, I39.a, I39.b, I39.c, I39.d, I39.e]
  refine body_calls (l := [numW 1 0, ⟨5, 1, 0, 0, 0, []⟩]) (.inr ⟨true, rfl⟩) fun v S40 hm21 A40 => ?_
  obtain ⟨fv21, rfl, hf21⟩ := hm21
  have e21 := hf21.one
  have I40 := I39.adds A40
  clear I39 A40
  simp [splice, I40.a, I40.b, I40.c, I40.d, I40.e, e21]
  refine numberW_calls fun S41 A41 => ?_
  have I41 := I40.adds A41
  clear I40 A41
  simp [W.av, W.cs, numW, splice, I41.a, I41.b, I41.c, I41.d, I41.e]
  refine body_calls (l := [⟨16, 0, 0, 0, 0, []⟩, ⟨18, 0, 0, 0, 0, []⟩, ⟨18, 0, 0, 0, 0, []⟩, numW 2 1]) (.inr ⟨true, rfl⟩) fun v S42 hm22 A42 => ?_
  obtain ⟨fv22, rfl, hf22⟩ := hm22
  have e22 := hf22.one
  have I42 := I41.adds A42
  clear I41 A42
  simp [splice, I42.a, I42.b, I42.c, I42.d, I42.e, e22]
  refine numberW_calls fun S43 A43 => ?_
  have I43 := I42.adds A43
  clear I42 A43
  simp [W.av, W.cs, numW, splice, I43.a, I43.b, I43.c, I43.d, I43.e]
  refine body_calls (l := [⟨16, 0, 0, 0, 0, []⟩, numW 2 1]) (.inr ⟨true, rfl⟩) fun v S44 hm23 A44 => ?_
  obtain ⟨fv23, rfl, hf23⟩ := hm23
  have e23 := hf23.one
  have I44 := I43.adds A44
  clear I43 A44
  simp [splice, I44.a, I44.b, I44.c, I44.d, I44.e, e23]
  refine mainOf_calls (to := kn24) (.inr ⟨_, _, rfl, (.cons (.inr ⟨true, rfl⟩) (.cons (.inr ⟨true, rfl⟩) .nil))⟩) fun v S45 hm24 A45 => ?_
  obtain ⟨fv24, rfl, hf24⟩ := hm24
  have e24 := hf24.one
  have I45 := I44.adds A45
  clear I44 A45
  simp [splice, I45.a, I45.b, I45.c, I45.d, I45.e, e24]
  refine numberW_calls fun S46 A46 => ?_
  have I46 := I45.adds A46
  clear I45 A46
  simp [W.av, W.cs, numW, splice, I46.a, I46.b, I46.c, I46.d, I46.e]
  refine mainOf_calls (to := kn25) (.inr ⟨_, _, rfl, (.cons (.inr ⟨true, rfl⟩) (.cons (.inr ⟨true, rfl⟩) .nil))⟩) fun v S47 hm25 A47 => ?_
  obtain ⟨fv25, rfl, hf25⟩ := hm25
  have e25 := hf25.one
  have I47 := I46.adds A47
  clear I46 A47
  simp [splice, I47.a, I47.b, I47.c, I47.d, I47.e, e25]
  refine numberW_calls fun S48 A48 => ?_
  have I48 := I47.adds A48
  clear I47 A48
  simp [W.av, W.cs, numW, splice, I48.a, I48.b, I48.c, I48.d, I48.e]
  refine numberW_calls fun S49 A49 => ?_
  have I49 := I48.adds A49
  clear I48 A49
  simp [W.av, W.cs, numW, splice, I49.a, I49.b, I49.c, I49.d, I49.e]
  refine mainOf_calls (to := kn26) (.inr ⟨_, _, rfl, (.cons (.inr ⟨true, rfl⟩) (.cons (.inr ⟨true, rfl⟩) .nil))⟩) fun v S50 hm26 A50 => ?_
  obtain ⟨fv26, rfl, hf26⟩ := hm26
  have e26 := hf26.one
  have I50 := I49.adds A50
  clear I49 A50
  simp [splice, I50.a, I50.b, I50.c, I50.d, I50.e, e26]
  refine numberW_calls fun S51 A51 => ?_
  have I51 := I50.adds A51
  clear I50 A51
  simp [W.av, W.cs, numW, splice, I51.a, I51.b, I51.c, I51.d, I51.e]
  refine numberW_calls fun S52 A52 => ?_
  have I52 := I51.adds A52
  clear I51 A52
  simp [W.av, W.cs, numW, splice, I52.a, I52.b, I52.c, I52.d, I52.e]
  refine numberW_calls fun S53 A53 => ?_
  have I53 := I52.adds A53
  clear I52 A53
  simp [W.av, W.cs, numW, splice, I53.a, I53.b, I53.c, I53.d, I53.e]
  refine mainOf_calls (to := kn27) (.inr ⟨_, _, rfl, (.cons (.inr ⟨true, rfl⟩) (.cons (.inr ⟨true, rfl⟩) .nil))⟩) fun v S54 hm27 A54 => ?_
  obtain ⟨fv27, rfl, hf27⟩ := hm27
  have e27 := hf27.one
  have I54 := I53.adds A54
  clear I53 A54
  simp [splice, I54.a, I54.b, I54.c, I54.d, I54.e, e27]
  refine numberW_calls fun S55 A55 => ?_
  have I55 := I54.adds A55
  clear I54 A55
  simp [W.av, W.cs, numW, splice, I55.a, I55.b, I55.c, I55.d, I55.e]
  refine mainOf_calls (to := kn28) (.inr ⟨_, _, rfl, (.cons (.inr ⟨true, rfl⟩) (.cons (.inr ⟨true, rfl⟩) .nil))⟩) fun v S56 hm28 A56 => ?_
  obtain ⟨fv28, rfl, hf28⟩ := hm28
  have e28 := hf28.one
  have I56 := I55.adds A56
  clear I55 A56
  simp [splice, I56.a, I56.b, I56.c, I56.d, I56.e, e28]
  refine numberW_calls fun S57 A57 => ?_
  have I57 := I56.adds A57
  clear I56 A57
  simp [W.av, W.cs, numW, splice, I57.a, I57.b, I57.c, I57.d, I57.e]
  refine mainOf_calls (to := kn29) (.inr ⟨_, _, rfl, (.cons (.inr ⟨true, rfl⟩) (.cons (.inr ⟨true, rfl⟩) .nil))⟩) fun v S58 hm29 A58 => ?_
  obtain ⟨fv29, rfl, hf29⟩ := hm29
  have e29 := hf29.one
  have I58 := I57.adds A58
  clear I57 A58
  simp [splice, I58.a, I58.b, I58.c, I58.d, I58.e, e29]
  refine mainOf_calls (to := []) (.inl ⟨rfl, rfl⟩) fun v S59 hm30 A59 => ?_
  obtain ⟨fv30, rfl, hf30⟩ := hm30
  have e30 := hf30.one
  have I59 := I58.adds A59
  clear I58 A59
  simp [splice, I59.a, I59.b, I59.c, I59.d, I59.e, e30]
  refine loop_calls fun v S60 hm31 A60 => ?_
  obtain ⟨fv31, rfl, hf31⟩ := hm31
  have e31 := hf31.one
  have I60 := I59.adds A60
  clear I59 A60
  simp [splice, I60.a, I60.b, I60.c, I60.d, I60.e, e0, e1, e2, e3, e4, e5, e6, e7, e8, e9, e10, e11, e12, e13, e14, e15, e16, e17, e18, e19, e20, e21, e22, e23, e24, e25, e26, e27, e28, e29, e30, e31]
  exact kn_loop V (.cons ⟨fv0, rfl, hf0⟩ (.cons ⟨fv1, rfl, hf1⟩ (.cons ⟨fv2, rfl, hf2⟩ (.cons ⟨fv3, rfl, hf3⟩ (.cons ⟨fv4, rfl, hf4⟩ (.cons ⟨fv5, rfl, hf5⟩ (.cons ⟨fv6, rfl, hf6⟩ (.cons ⟨fv7, rfl, hf7⟩ (.cons ⟨fv8, rfl, hf8⟩ (.cons ⟨fv9, rfl, hf9⟩ (.cons ⟨fv10, rfl, hf10⟩ (.cons ⟨fv11, rfl, hf11⟩ (.cons ⟨fv12, rfl, hf12⟩ (.cons ⟨fv13, rfl, hf13⟩ (.cons ⟨fv14, rfl, hf14⟩ (.cons ⟨fv15, rfl, hf15⟩ (.cons ⟨fv16, rfl, hf16⟩ (.cons ⟨fv17, rfl, hf17⟩ (.cons ⟨fv18, rfl, hf18⟩ (.cons ⟨fv19, rfl, hf19⟩ (.cons ⟨fv20, rfl, hf20⟩ (.cons ⟨fv21, rfl, hf21⟩ (.cons ⟨fv22, rfl, hf22⟩ (.cons ⟨fv23, rfl, hf23⟩ (.cons ⟨fv24, rfl, hf24⟩ (.cons ⟨fv25, rfl, hf25⟩ (.cons ⟨fv26, rfl, hf26⟩ (.cons ⟨fv27, rfl, hf27⟩ (.cons ⟨fv28, rfl, hf28⟩ (.cons ⟨fv29, rfl, hf29⟩ (.cons ⟨fv30, rfl, hf30⟩ (.cons ⟨fv31, rfl, hf31⟩ .nil)))))))))))))))))))))))))))))))) rfl rfl rfl rfl rfl h
end Go.Proofs.YthifgodgfhbnfaaDoor
