/- Parts of the proof of the row WasmRuns: contracts of functions, each under the conditions that its theorem names. -/
import Derived.Test.YthifgodgfhbnfaaGreatDoorZB
import Derived.Test.YthifgodgfhbnfaaGreatDoorZA
import Derived.Test.YthifgodgfhbnfaaGreatDoorAbsB
import Derived.Test.YthifgodgfhbnfaaGreatDoorTie
import Derived.ProofKit
import Derived.OpenShut
import Derived.ChangeOld
import Derived.ChangeSame
import Derived.ChangeVars
import Derived.Test.YthifgodgfhbnfaaGreatDoorShelf
import Derived.Lib.LaidTab
import Derived.LaidLaws
import Derived.LaidHandle
import Derived.ShapedOpen
import Derived.Test.YthifgodgfhbnfaaGreatDoorCards
set_option linter.unusedSimpArgs false
set_option linter.unusedVariables false
set_option linter.unusedSimpArgs false
set_option linter.unusedVariables false
namespace Go.Proofs.YthifgodgfhbnfaaGreatDoor
open Go Go.Abs
section
variable {G : Env} {fs : List F} {mm mn : Int} {σ0 σ : AS} {xo mo fo : Nat} {L T D : List Nat} {x : Mach} {r : Fr} {R : Out → AS → Prop}
set_option maxRecDepth 100000 in
set_option maxHeartbeats 2000000 in
theorem list_rounds (V : Vars G) {N : Nat} {Dp : Int} {rec : RunR} (hrec : ListOk G fs mm mn N Dp rec) (hbd : RBd N Dp rec) (hD0 : 0 ≤ Dp) (hD2 : Dp ≤ 2 ^ 62) (hfs : OkFs fs) {k : Nat} {deep : Int} (h0 : 0 ≤ deep) (hd : deep + 1 ≤ Dp) {height : Nat} {rv : AV} {all : List W} (hrv : RepL rv all) (hall : all.length ≤ 2 ^ 38) (hnum : ∀ w ∈ all, w.n ≤ 2 ^ 63 - 1) :
  ∀ (ws : List W) (pre : List W), all = pre ++ ws → ∀ {x1 : Mach} {r1 : Fr} {τ : AS} {a : Nat → AV}, XF fs mm mn σ0 xo mo fo L T x1 r1 τ → Bd N x1 r1 → instrsW fs rec k deep height ws x1 r1 ≠ .bad →
   a 0 = .ptr xo 0 → a 1 = .ptr fo 0 → a 3 = .int .i64 deep → a 9 = .int .i64 (height : Int) → a 25 = rv → a 26 = .int .i64 (all.length : Int) → a 27 = .int .i64 (pre.length : Int) →
   (∀ o x' r' σ', instrsW fs rec k deep height ws x1 r1 = .ok o x' r' → XF fs mm mn σ0 xo mo fo L T x' r' σ' → R (.ret (.int .i64 o)) σ') →
   (∀ s c x' σ', instrsW fs rec k deep height ws x1 r1 = .over s c x' → XO fs mm mn σ0 xo mo (fo :: L) T x' σ' → R (.panic (overV s c)) σ') →
   ARounds Tryz.prog G 82 pc38_l1 (ablock 0 (athen (avc Tryz.prog G 82 pc38_r1 (afin Tryz.prog [ResultVar.tmp 8] R)) (afin Tryz.prog [ResultVar.tmp 8] R))) (ws.length + 1) a τ
 | [], pre, hall2, x1, r1, τ, a, hx, hb, hw, a0, a1, a3, a9, a25, a26, a27, hR, hO => by
  have hl : all.length = pre.length := by rw [hall2]; simp
  simp [pc38_l1, pc38_r1, a0, a1, a3, a9, a25, a26, a27, hl]
  exact hR _ _ _ _ rfl hx
 | w :: ws, pre, hall2, x1, r1, τ, a, hx, hb, hw, a0, a1, a3, a9, a25, a26, a27, hR, hO => by
  obtain ⟨wop, wty, wn, wbody, wother, wname⟩ := w
  have hl : pre.length < all.length := by rw [hall2]; simp
  have hget : all[pre.length] = (⟨wop, wty, wn, wbody, wother, wname⟩ : W) := by simp [hall2]
  obtain ⟨b, hix⟩ := hrv.at hl
  rw [hget] at hix
  have hwn := hnum (⟨wop, wty, wn, wbody, wother, wname⟩ : W) (by rw [hall2]; simp)
  obtain ⟨gfv, giv, gov, go1, g1, g2, g3, hgf, hgi, hgo, gne, _⟩ := hx.xcells
  have hlts := hx.lts
  have hxo : xo ≠ τ.no := by omega
  simp only [instrsW] at hw hR hO
  have hxo' : τ.no ≠ xo := by omega
  have A : Adds τ ((τ.newO [.int .i64 0, .int .i64 0, .int .i64 0, .int .i64 0, .int .i64 0, .str []]).setO τ.no [.int .i64 wop, .int .i64 wty, .int .i64 wn, .int .i64 wbody, .int .i64 wother, .str wname]) := (Adds.refl τ).newO.setO (Nat.le_refl _)
  have wst : IntKind.wrap .i64 (x1.steps - 1) = x1.steps - 1 ∨ x1.steps < 1 := by
   by_cases h : x1.steps < 1
   ·exact .inr h
   ·left; have := hb.stack; have := hb.n; rw [wrap_i64] <;> omega
  by_cases hs : x1.steps < 1
  ·simp [hs] at hO
   simp [pc38_l1, a0, a1, a3, a9, a25, a26, a27, hl, hix, W.av, W.cs, splice, hxo, go1, g1, g2, g3, hs]
   exact hO _ _ _ _ rfl rfl rfl (hx.adds A).stop
  ·have w1 : IntKind.wrap .i64 (x1.steps - 1) = x1.steps - 1 := by rcases wst with h | h; exact h; exact absurd h hs
   rw [if_neg hs] at hw hR hO
   have hb1 := hb.one (by omega)
   have hx2 : XF fs mm mn σ0 xo mo fo L T { x1 with steps := x1.steps - 1 } r1 (((τ.newO [.int .i64 0, .int .i64 0, .int .i64 0, .int .i64 0, .int .i64 0, .str []]).setO τ.no [.int .i64 wop, .int .i64 wty, .int .i64 wn, .int .i64 wbody, .int .i64 wother, .str wname]).setO xo [gfv, .int .i64 mm, .int .i64 mn, giv, .int .i64 (x1.steps - 1), .slm mo 0 1 x1.memory.length, gov, .int .i64 x1.calls]) :=
    (hx.adds A).setX (σ1 := (τ.newO [.int .i64 0, .int .i64 0, .int .i64 0, .int .i64 0, .int .i64 0, .str []]).setO τ.no [.int .i64 wop, .int .i64 wty, .int .i64 wn, .int .i64 wbody, .int .i64 wother, .str wname]) (by simp [hxo]; exact go1) rfl rfl (Nat.le_refl _) (fun _ _ _ => rfl) hgi (hgo.keep A.nf fun g hg => rfl) fun k hk => .inl hk
   -- behind the instruction
   have w3 : IntKind.wrap .i64 ((pre.length : Int) + 1) = ((pre.length + 1 : Nat) : Int) := by rw [wrap_i64] <;> omega
   have w4 : IntKind.wrap .i64 (deep + 1) = deep + 1 := by rw [wrap_i64] <;> omega
   have fin : ∀ {o : Int} {x2 : Mach} {r2 : Fr} {σ2 : AS} {b : Nat → AV}, execW fs rec k deep (⟨wop, wty, wn, wbody, wother, wname⟩ : W) { x1 with steps := x1.steps - 1 } r1 = .ok o x2 r2 → XF fs mm mn σ0 xo mo fo L T x2 r2 σ2 → o = -1 → b 0 = .ptr xo 0 → b 1 = .ptr fo 0 → b 3 = .int .i64 deep → b 9 = .int .i64 (height : Int) → b 25 = rv → b 26 = .int .i64 (all.length : Int) → b 27 = .int .i64 ((pre.length + 1 : Nat) : Int) →
     ARounds Tryz.prog G 82 pc38_l1 (ablock 0 (athen (avc Tryz.prog G 82 pc38_r1 (afin Tryz.prog [ResultVar.tmp 8] R)) (afin Tryz.prog [ResultVar.tmp 8] R))) (ws.length + 1) b σ2 := by
    intro o x2 r2 σ2 b e hx3 ho b0 b1 b3 b9 b25 b26 b27
    rw [e] at hw hR hO
    simp only [ho, if_true] at hw hR hO
    have hbd2 := (exec_bd hbd hfs hD0 hD2 hwn hd hb1 e).1.bd
    exact list_rounds V hrec hbd hD0 hD2 hfs h0 hd hrv hall hnum ws (pre ++ [(⟨wop, wty, wn, wbody, wother, wname⟩ : W)]) (by rw [hall2]; simp) hx3 hbd2 hw b0 b1 b3 b9 b25 b26 (by rw [b27]; simp) hR hO
   have hok : ¬ okW deep (⟨wop, wty, wn, wbody, wother, wname⟩ : W) = false := fun e => by
    have : execW fs rec k deep (⟨wop, wty, wn, wbody, wother, wname⟩ : W) { x1 with steps := x1.steps - 1 } r1 = .bad := by unfold execW; rw [if_pos e]
    rw [this] at hw; exact hw rfl
   by_cases hA : wop = 11 ∨ wop = 12 ∨ wop = 13
   ·have hex : execW fs rec k deep (⟨wop, wty, wn, wbody, wother, wname⟩ : W) { x1 with steps := x1.steps - 1 } r1 = aroundW rec k (⟨wop, wty, wn, wbody, wother, wname⟩ : W) (deep + 1) { x1 with steps := x1.steps - 1 } r1 := by unfold execW; rw [if_neg hok, if_pos hA]
    have hne : aroundW rec k (⟨wop, wty, wn, wbody, wother, wname⟩ : W) (deep + 1) { x1 with steps := x1.steps - 1 } r1 ≠ .bad := fun e => by rw [hex, e] at hw; exact hw rfl
    rcases hA with hop | hop | hop
    ·subst hop
     simp [pc38_l1, a0, a1, a3, a9, a25, a26, a27, hl, hix, W.av, W.cs, splice, hxo, hxo', go1, g1, g2, g3, hs, w1, w4]
     refine around_calls (w := ⟨11, wty, wn, wbody, wother, wname⟩) hrec hbd hx2 hb1.bd (by omega) hd hne (fun o x2 r2 σ2 e hx3 => ?_) (fun s c x2 σ2 e ho => ?_)
     ·by_cases ho : o = -1
      ·simp [-ARounds_succ, ho, a0, a1, a3, a9, a25, a26, a27, w3]
       refine fin (hex.trans e) hx3 ho ?_ ?_ ?_ ?_ ?_ ?_ ?_ <;> simp [a0, a1, a3, a9, a25, a26]
      ·rw [hex, e] at hw hR
       simp only [if_neg ho] at hw hR
       by_cases hh : r2.stack.length < height
       ·rw [if_pos hh] at hw; exact absurd rfl hw
       rw [if_neg hh] at hR
       obtain ⟨pv, lv, tv, cv, sv, fo1, e1, e2, e3, e4, e5, hsv, _, _, _⟩ := hx3.cells
       rcases hsv with ⟨hs0, rfl⟩ | ⟨q, rfl, q1, q2⟩
       ·have hh0 : height = 0 := by rw [hs0] at hh; simp at hh; exact hh
        subst hh0
        simp [-ARounds_succ, ho, a0, a1, a3, a9, a25, a26, a27, fo1, e1, e2, e3, e4, splice]
        exact hR _ _ _ _ rfl (hx3.setFr (σ1 := σ2) (st' := r2.stack.take 0) (res' := r2.result) fo1 rfl rfl (Nat.le_refl _) (fun _ _ _ => rfl) (.inl ⟨by simp, rfl⟩) fun k hk => .inl hk)
       ·simp [-ARounds_succ, ho, a0, a1, a3, a9, a25, a26, a27, fo1, e1, e2, e3, e4, splice]
        refine ⟨by omega, hR _ _ _ _ rfl (hx3.setFr (σ1 := σ2) (st' := r2.stack.take height) (res' := r2.result) fo1 rfl rfl (Nat.le_refl _) (fun _ _ _ => rfl) (.inr ⟨q, by rw [List.map_take], q1, q2⟩) fun k hk => .inl hk)⟩
     ·rw [hex, e] at hO
      simp
      exact hO _ _ _ _ rfl ho
    ·subst hop
     simp [pc38_l1, a0, a1, a3, a9, a25, a26, a27, hl, hix, W.av, W.cs, splice, hxo, hxo', go1, g1, g2, g3, hs, w1, w4]
     refine around_calls (w := ⟨12, wty, wn, wbody, wother, wname⟩) hrec hbd hx2 hb1.bd (by omega) hd hne (fun o x2 r2 σ2 e hx3 => ?_) (fun s c x2 σ2 e ho => ?_)
     ·by_cases ho : o = -1
      ·simp [-ARounds_succ, ho, a0, a1, a3, a9, a25, a26, a27, w3]
       refine fin (hex.trans e) hx3 ho ?_ ?_ ?_ ?_ ?_ ?_ ?_ <;> simp [a0, a1, a3, a9, a25, a26]
      ·rw [hex, e] at hw hR
       simp only [if_neg ho] at hw hR
       by_cases hh : r2.stack.length < height
       ·rw [if_pos hh] at hw; exact absurd rfl hw
       rw [if_neg hh] at hR
       obtain ⟨pv, lv, tv, cv, sv, fo1, e1, e2, e3, e4, e5, hsv, _, _, _⟩ := hx3.cells
       rcases hsv with ⟨hs0, rfl⟩ | ⟨q, rfl, q1, q2⟩
       ·have hh0 : height = 0 := by rw [hs0] at hh; simp at hh; exact hh
        subst hh0
        simp [-ARounds_succ, ho, a0, a1, a3, a9, a25, a26, a27, fo1, e1, e2, e3, e4, splice]
        exact hR _ _ _ _ rfl (hx3.setFr (σ1 := σ2) (st' := r2.stack.take 0) (res' := r2.result) fo1 rfl rfl (Nat.le_refl _) (fun _ _ _ => rfl) (.inl ⟨by simp, rfl⟩) fun k hk => .inl hk)
       ·simp [-ARounds_succ, ho, a0, a1, a3, a9, a25, a26, a27, fo1, e1, e2, e3, e4, splice]
        refine ⟨by omega, hR _ _ _ _ rfl (hx3.setFr (σ1 := σ2) (st' := r2.stack.take height) (res' := r2.result) fo1 rfl rfl (Nat.le_refl _) (fun _ _ _ => rfl) (.inr ⟨q, by rw [List.map_take], q1, q2⟩) fun k hk => .inl hk)⟩
     ·rw [hex, e] at hO
      simp
      exact hO _ _ _ _ rfl ho
    ·subst hop
     simp [pc38_l1, a0, a1, a3, a9, a25, a26, a27, hl, hix, W.av, W.cs, splice, hxo, hxo', go1, g1, g2, g3, hs, w1, w4]
     refine around_calls (w := ⟨13, wty, wn, wbody, wother, wname⟩) hrec hbd hx2 hb1.bd (by omega) hd hne (fun o x2 r2 σ2 e hx3 => ?_) (fun s c x2 σ2 e ho => ?_)
     ·by_cases ho : o = -1
      ·simp [-ARounds_succ, ho, a0, a1, a3, a9, a25, a26, a27, w3]
       refine fin (hex.trans e) hx3 ho ?_ ?_ ?_ ?_ ?_ ?_ ?_ <;> simp [a0, a1, a3, a9, a25, a26]
      ·rw [hex, e] at hw hR
       simp only [if_neg ho] at hw hR
       by_cases hh : r2.stack.length < height
       ·rw [if_pos hh] at hw; exact absurd rfl hw
       rw [if_neg hh] at hR
       obtain ⟨pv, lv, tv, cv, sv, fo1, e1, e2, e3, e4, e5, hsv, _, _, _⟩ := hx3.cells
       rcases hsv with ⟨hs0, rfl⟩ | ⟨q, rfl, q1, q2⟩
       ·have hh0 : height = 0 := by rw [hs0] at hh; simp at hh; exact hh
        subst hh0
        simp [-ARounds_succ, ho, a0, a1, a3, a9, a25, a26, a27, fo1, e1, e2, e3, e4, splice]
        exact hR _ _ _ _ rfl (hx3.setFr (σ1 := σ2) (st' := r2.stack.take 0) (res' := r2.result) fo1 rfl rfl (Nat.le_refl _) (fun _ _ _ => rfl) (.inl ⟨by simp, rfl⟩) fun k hk => .inl hk)
       ·simp [-ARounds_succ, ho, a0, a1, a3, a9, a25, a26, a27, fo1, e1, e2, e3, e4, splice]
        refine ⟨by omega, hR _ _ _ _ rfl (hx3.setFr (σ1 := σ2) (st' := r2.stack.take height) (res' := r2.result) fo1 rfl rfl (Nat.le_refl _) (fun _ _ _ => rfl) (.inr ⟨q, by rw [List.map_take], q1, q2⟩) fun k hk => .inl hk)⟩
     ·rw [hex, e] at hO
      simp
      exact hO _ _ _ _ rfl ho
   ·by_cases hB : wop = 14 ∨ wop = 15 ∨ wop = 16
    ·have hex : execW fs rec k deep (⟨wop, wty, wn, wbody, wother, wname⟩ : W) { x1 with steps := x1.steps - 1 } r1 = outW (⟨wop, wty, wn, wbody, wother, wname⟩ : W) deep { x1 with steps := x1.steps - 1 } r1 := by unfold execW; rw [if_neg hok, if_neg hA, if_pos hB]
     have hne : outW (⟨wop, wty, wn, wbody, wother, wname⟩ : W) deep { x1 with steps := x1.steps - 1 } r1 ≠ .bad := fun e => by rw [hex, e] at hw; exact hw rfl
     rcases hB with hop | hop | hop
     ·subst hop
      simp [pc38_l1, a0, a1, a3, a9, a25, a26, a27, hl, hix, W.av, W.cs, splice, hxo, hxo', go1, g1, g2, g3, hs, w1, w4]
      refine out_calls (w := ⟨14, wty, wn, wbody, wother, wname⟩) hx2 hb1.bd hne (fun o x2 r2 σ2 e hx3 => ?_)
      by_cases ho : o = -1
      ·simp [-ARounds_succ, ho, a0, a1, a3, a9, a25, a26, a27, w3]
       refine fin (hex.trans e) hx3 ho ?_ ?_ ?_ ?_ ?_ ?_ ?_ <;> simp [a0, a1, a3, a9, a25, a26]
      ·rw [hex, e] at hw hR
       simp only [if_neg ho] at hw hR
       by_cases hh : r2.stack.length < height
       ·rw [if_pos hh] at hw; exact absurd rfl hw
       rw [if_neg hh] at hR
       obtain ⟨pv, lv, tv, cv, sv, fo1, e1, e2, e3, e4, e5, hsv, _, _, _⟩ := hx3.cells
       rcases hsv with ⟨hs0, rfl⟩ | ⟨q, rfl, q1, q2⟩
       ·have hh0 : height = 0 := by rw [hs0] at hh; simp at hh; exact hh
        subst hh0
        simp [-ARounds_succ, ho, a0, a1, a3, a9, a25, a26, a27, fo1, e1, e2, e3, e4, splice]
        exact hR _ _ _ _ rfl (hx3.setFr (σ1 := σ2) (st' := r2.stack.take 0) (res' := r2.result) fo1 rfl rfl (Nat.le_refl _) (fun _ _ _ => rfl) (.inl ⟨by simp, rfl⟩) fun k hk => .inl hk)
       ·simp [-ARounds_succ, ho, a0, a1, a3, a9, a25, a26, a27, fo1, e1, e2, e3, e4, splice]
        refine ⟨by omega, hR _ _ _ _ rfl (hx3.setFr (σ1 := σ2) (st' := r2.stack.take height) (res' := r2.result) fo1 rfl rfl (Nat.le_refl _) (fun _ _ _ => rfl) (.inr ⟨q, by rw [List.map_take], q1, q2⟩) fun k hk => .inl hk)⟩
     ·subst hop
      simp [pc38_l1, a0, a1, a3, a9, a25, a26, a27, hl, hix, W.av, W.cs, splice, hxo, hxo', go1, g1, g2, g3, hs, w1, w4]
      refine out_calls (w := ⟨15, wty, wn, wbody, wother, wname⟩) hx2 hb1.bd hne (fun o x2 r2 σ2 e hx3 => ?_)
      by_cases ho : o = -1
      ·simp [-ARounds_succ, ho, a0, a1, a3, a9, a25, a26, a27, w3]
       refine fin (hex.trans e) hx3 ho ?_ ?_ ?_ ?_ ?_ ?_ ?_ <;> simp [a0, a1, a3, a9, a25, a26]
      ·rw [hex, e] at hw hR
       simp only [if_neg ho] at hw hR
       by_cases hh : r2.stack.length < height
       ·rw [if_pos hh] at hw; exact absurd rfl hw
       rw [if_neg hh] at hR
       obtain ⟨pv, lv, tv, cv, sv, fo1, e1, e2, e3, e4, e5, hsv, _, _, _⟩ := hx3.cells
       rcases hsv with ⟨hs0, rfl⟩ | ⟨q, rfl, q1, q2⟩
       ·have hh0 : height = 0 := by rw [hs0] at hh; simp at hh; exact hh
        subst hh0
        simp [-ARounds_succ, ho, a0, a1, a3, a9, a25, a26, a27, fo1, e1, e2, e3, e4, splice]
        exact hR _ _ _ _ rfl (hx3.setFr (σ1 := σ2) (st' := r2.stack.take 0) (res' := r2.result) fo1 rfl rfl (Nat.le_refl _) (fun _ _ _ => rfl) (.inl ⟨by simp, rfl⟩) fun k hk => .inl hk)
       ·simp [-ARounds_succ, ho, a0, a1, a3, a9, a25, a26, a27, fo1, e1, e2, e3, e4, splice]
        refine ⟨by omega, hR _ _ _ _ rfl (hx3.setFr (σ1 := σ2) (st' := r2.stack.take height) (res' := r2.result) fo1 rfl rfl (Nat.le_refl _) (fun _ _ _ => rfl) (.inr ⟨q, by rw [List.map_take], q1, q2⟩) fun k hk => .inl hk)⟩
     ·subst hop
      simp [pc38_l1, a0, a1, a3, a9, a25, a26, a27, hl, hix, W.av, W.cs, splice, hxo, hxo', go1, g1, g2, g3, hs, w1, w4]
      refine out_calls (w := ⟨16, wty, wn, wbody, wother, wname⟩) hx2 hb1.bd hne (fun o x2 r2 σ2 e hx3 => ?_)
      by_cases ho : o = -1
      ·simp [-ARounds_succ, ho, a0, a1, a3, a9, a25, a26, a27, w3]
       refine fin (hex.trans e) hx3 ho ?_ ?_ ?_ ?_ ?_ ?_ ?_ <;> simp [a0, a1, a3, a9, a25, a26]
      ·rw [hex, e] at hw hR
       simp only [if_neg ho] at hw hR
       by_cases hh : r2.stack.length < height
       ·rw [if_pos hh] at hw; exact absurd rfl hw
       rw [if_neg hh] at hR
       obtain ⟨pv, lv, tv, cv, sv, fo1, e1, e2, e3, e4, e5, hsv, _, _, _⟩ := hx3.cells
       rcases hsv with ⟨hs0, rfl⟩ | ⟨q, rfl, q1, q2⟩
       ·have hh0 : height = 0 := by rw [hs0] at hh; simp at hh; exact hh
        subst hh0
        simp [-ARounds_succ, ho, a0, a1, a3, a9, a25, a26, a27, fo1, e1, e2, e3, e4, splice]
        exact hR _ _ _ _ rfl (hx3.setFr (σ1 := σ2) (st' := r2.stack.take 0) (res' := r2.result) fo1 rfl rfl (Nat.le_refl _) (fun _ _ _ => rfl) (.inl ⟨by simp, rfl⟩) fun k hk => .inl hk)
       ·simp [-ARounds_succ, ho, a0, a1, a3, a9, a25, a26, a27, fo1, e1, e2, e3, e4, splice]
        refine ⟨by omega, hR _ _ _ _ rfl (hx3.setFr (σ1 := σ2) (st' := r2.stack.take height) (res' := r2.result) fo1 rfl rfl (Nat.le_refl _) (fun _ _ _ => rfl) (.inr ⟨q, by rw [List.map_take], q1, q2⟩) fun k hk => .inl hk)⟩
    ·have n1 : wop ≠ 11 ∧ wop ≠ 12 ∧ wop ≠ 13 := by simpa using hA
     have n2 : wop ≠ 14 ∧ wop ≠ 15 ∧ wop ≠ 16 := by simpa using hB
     have hne : plainW fs rec (⟨wop, wty, wn, wbody, wother, wname⟩ : W) { x1 with steps := x1.steps - 1 } r1 ≠ .bad := fun e => by
      unfold execW at hw; rw [if_neg hok, if_neg hA, if_neg hB, e] at hw; exact hw rfl
     simp [pc38_l1, a0, a1, a3, a9, a25, a26, a27, hl, hix, W.av, W.cs, splice, hxo, hxo', go1, g1, g2, g3, hs, w1, w4, n1, n2]
     refine plainX_calls (w := ⟨wop, wty, wn, wbody, wother, wname⟩) V hrec hbd hD0 hfs hwn hx2 hb1 hne (fun x2 r2 σ2 e hx3 => ?_) (fun s c x2 σ2 e ho => ?_)
     ·simp [-ARounds_succ, a0, a1, a3, a9, a25, a26, a27, w3]
      refine fin (o := -1) (by unfold execW; rw [if_neg hok, if_neg hA, if_neg hB, e]) hx3 rfl ?_ ?_ ?_ ?_ ?_ ?_ ?_ <;> simp [a0, a1, a3, a9, a25, a26]
     ·have e2 : execW fs rec k deep (⟨wop, wty, wn, wbody, wother, wname⟩ : W) { x1 with steps := x1.steps - 1 } r1 = .over s c x2 := by unfold execW; rw [if_neg hok, if_neg hA, if_neg hB, e]
      rw [e2] at hO
      simp
      exact hO _ _ _ _ rfl ho
end
end Go.Proofs.YthifgodgfhbnfaaGreatDoor
set_option linter.unusedSimpArgs false
set_option linter.unusedVariables false
namespace Go.Proofs.YthifgodgfhbnfaaGreatDoor
open Go Go.Abs
theorem list_ok {G : Env} (V : Vars G) {fs : List F} (hfs : OkFs fs) {mm mn : Int} {N : Nat} : ∀ (k : Nat) (D : Int), 0 ≤ D → D + k ≤ 2 ^ 62 → ListOk G fs mm mn N D (runL fs k)
 | 0, D, _, _ => by
  intro h hb h0 hd hw
  exact absurd rfl hw
 | k + 1, D, hD, hDk => by
  rename_i σ0 σ xo mo fo L T x r at_ deep R
  intro h hb h0 hd hw hR hO
  refine calls38 rfl ?_
  simp only [runL] at hw hR hO
  by_cases ha : at_ < 0
  ·rw [if_pos ha] at hw; exact absurd rfl hw
  rw [if_neg ha] at hw hR hO
  cases hws : r.fn.lists[at_.toNat]? with
  | none => rw [hws] at hw; exact absurd rfl hw
  | some ws =>
  rw [hws] at hw hR hO
  simp only at hw hR hO
  obtain ⟨hi, hie⟩ := List.getElem?_eq_some_iff.1 hws
  obtain ⟨pv, lv, tv, cv, sv, fo1, e1, e2, e3, e4, e5, hsv, htv, _, _⟩ := h.cells
  obtain ⟨b, rv, hrv, hix⟩ := htv.at hi
  rw [hie] at hrv
  have ea : ((at_.toNat : Nat) : Int) = at_ := by omega
  rw [ea] at hix
  have sl := hsv.len
  have rl := hrv.len
  have r1 := hrv.one
  have hmem := List.mem_of_getElem? hws
  simp [pc38, fo1, e1, e2, e3, e4, e5, sl, hix, rl, r1]
  refine aloop_rounds (ws.length + 1) ?_
  refine list_rounds V (list_ok V hfs k (D + 1) (by omega) (by push_cast at hDk; omega)) (runL_bd hfs k (D + 1) (by omega) (by push_cast at hDk; omega)) (by omega) (by push_cast at hDk; omega) hfs h0 (by omega) hrv (hb.fn.rows _ hmem) (hb.fn.nums _ hmem) ws [] rfl h hb hw ?_ ?_ ?_ ?_ ?_ ?_ ?_ hR hO <;> simp
end Go.Proofs.YthifgodgfhbnfaaGreatDoor
set_option linter.unusedSimpArgs false
set_option linter.unusedVariables false
namespace Go.Proofs.YthifgodgfhbnfaaGreatDoor
open Go Go.Abs
theorem check_memory {m : M} (h : checkE m = .ok ()) : 0 ≤ m.memory ∧ m.memory ≤ 4096 := by
 unfold checkE at h
 split at h
 ·cases h
 ·rename_i q
  simpa using q
theorem check_main {m : M} (h : checkE m = .ok ()) : 0 ≤ m.main ∧ ∃ g, m.funcs[m.main.toNat]? = some g ∧ g.type = 1 ∧ g.params.length = 0 := by
 have hm : mainB m = true := by
  unfold checkE at h
  split at h
  ·cases h
  ·split at h
   ·cases h
   ·split at h
    ·assumption
    ·cases h
 unfold mainB at hm
 simp only [Bool.and_eq_true, decide_eq_true_eq] at hm
 obtain ⟨h0, h1⟩ := hm
 refine ⟨h0, ?_⟩
 cases hg : m.funcs[m.main.toNat]? with
 | none => rw [hg] at h1; cases h1
 | some g =>
  rw [hg] at h1
  simp only [Bool.and_eq_true, decide_eq_true_eq] at h1
  exact ⟨g, rfl, h1.1, h1.2⟩
theorem flat_rep (n : Nat) (k : IntKind) (v : Int) : flat (List.replicate n (AV.int k v)) = List.replicate n (AV.int k v) := by
 induction n with
 | zero => rfl
 | succ n ih => simp only [List.replicate_succ, flat, List.flatMap_cons] at ih ⊢; rw [ih]; rfl
theorem amake_bytes {G : Env} {n : Int} (h0 : 0 ≤ n) (h1 : n ≤ 4096) {σ : AS} {K : AV → AS → Prop} : amake Tryz.prog 51 (.int .i64 n) (.int .i64 n) σ K = K (.slm σ.no 0 1 n.toNat) (σ.newO (List.replicate n.toNat (.int .u8 0))) := by
 refine propext ⟨fun h => ?_, fun h => ?_⟩
 ·obtain ⟨sz, bs, z, e1, e2, e3, e4, e5, _, _, _, _, h⟩ := h
  rw [t_el51] at e1
  rw [t_ez51] at e3
  cases e1; cases e3
  rw [flat_rep] at h
  exact h
 ·refine ⟨1, 1, _, t_el51, t_eb51, t_ez51, rfl, rfl, rfl, h0, by omega, by omega, ?_⟩
  rw [flat_rep]
  exact h
set_option maxHeartbeats 1000000 in
theorem run_calls {G : Env} (V : Vars G) {m : M} {mv iv : AV} {input : List Int} {steps : Int} {σ : AS} {R : Out → AS → Prop} (hm : MV mv m) (hc : checkE m = .ok ()) (hfs : OkFs m.funcs) (hrn : Rng m.funcs) (hin : ∀ v ∈ input, -(2 ^ 63) ≤ v ∧ v < 2 ^ 63) (hi : IntsV iv input) (hil : input.length ≤ 2 ^ 38) (hs : steps ≤ 2 ^ 38)
  (hR : ∀ ov out st code σ', runM m input steps (steps.toNat + 1) = some (out, st, code) → IntsV ov out → Adds σ σ' → R (.ret (.agg [ov, .int .i64 st, .int .i64 code])) σ') : ACalls Tryz.prog G 9 [mv, iv, .int .i64 steps] σ R := by
 refine freezing ?_
 refine acalls_recover2 (px := pc9_x) (px2 := pc9_yx) (pz := pc9_yz) (k := 21) (py := pc21_h) (n := 32) (nk := 18) (t := 17) (d0 := 4) (d1 := 2) (res := [.cell 6 33]) mixed Tryz.func9 rfl rfl rfl rfl (by kernel_rfl) (by kernel_rfl) (by kernel_rfl) (by simp) rfl rfl rfl rfl rfl rfl (by decide) Tryz.func21 rfl (by kernel_rfl) rfl rfl rfl rfl rfl rfl rfl rfl rfl (by kernel_rfl) (by decide) (by decide) (by decide) ?_
 obtain ⟨fsv, rfl, hfsv⟩ := hm
 have f1 := hfsv.one
 have i1 := hi.one
 obtain ⟨m0, m1⟩ := check_memory hc
 obtain ⟨mn0, g, hg, hgt, hgp⟩ := check_main hc
 obtain ⟨out, st, code, he, _, hout⟩ := runM_sound hc hrn input hin steps (steps.toNat + 1) (by omega)
 have hgm : m.funcs[m.main.toNat]? = some g := hg
 have hlt : m.main.toNat < m.funcs.length := (List.getElem?_eq_some_iff.1 hg).1
 obtain ⟨bb, gv, hgv, hix⟩ := hfsv.at hlt
 have hge : m.funcs[m.main.toNat] = g := (List.getElem?_eq_some_iff.1 hg).2
 rw [hge] at hgv
 rw [Int.toNat_of_nonneg mn0] at hix
 obtain ⟨gpv, glv, gtv, rfl, hgpv, hglv, hgtv⟩ := hgv
 have g1 := hgpv.one
 have g2 := hglv.one
 have g3 := hgtv.one
 have hgv : FV (.agg [.str g.name, gpv, glv, .int .i64 g.type, gtv]) g := ⟨gpv, glv, gtv, rfl, hgpv, hglv, hgtv⟩
 have hgo : OkF g := hfs g (List.mem_of_getElem? hg)
 have hcallw : callW (runL m.funcs (steps.toNat + 1)) ⟨input, steps, List.replicate m.memory.toNat 0, [], 0⟩ g [] ⟨g, [], [], 0⟩ ≠ .bad := by
  intro e
  unfold runM at he
  rw [if_neg (by omega), hg] at he
  simp only at he
  rw [e] at he
  cases he
 have hov : ∀ s c x', callW (runL m.funcs (steps.toNat + 1)) ⟨input, steps, List.replicate m.memory.toNat 0, [], 0⟩ g [] ⟨g, [], [], 0⟩ = .over s c x' → runM m input steps (steps.toNat + 1) = some (x'.out, s, c) := fun s c x' e => by
  unfold runM
  rw [if_neg (by omega), hg]
  simp only
  rw [e]
 have hok : ∀ v x' r', callW (runL m.funcs (steps.toNat + 1)) ⟨input, steps, List.replicate m.memory.toNat 0, [], 0⟩ g [] ⟨g, [], [], 0⟩ = .ok v x' r' → runM m input steps (steps.toNat + 1) = some (x'.out, 1, v) := fun v x' r' e => by
  unfold runM
  rw [if_neg (by omega), hg]
  simp only
  rw [e]
 have fin : ∀ (τ σ' : AS) (xo mo ro : Nat) (x' : Mach) (ov : AV) (s c : Int), Adds σ τ → σ.no ≤ xo → σ.no ≤ mo → σ.no ≤ ro → XM m.funcs m.memory m.main τ xo mo [] [] x' ov σ' → runM m input steps (steps.toNat + 1) = some (x'.out, s, c) → FrzOr R (.ret (.agg [ov, .int .i64 s, .int .i64 c])) (σ'.setO ro [ov, .int .i64 s, .int .i64 c]) := by
  intro τ σ' xo mo ro x' ov s c A hx hmo hr hm e
  have A2 : Adds σ (σ'.setO ro [ov, .int .i64 s, .int .i64 c]) := by
   have h1 := hm.no; have h2 := hm.nf; have h3 := A.no; have h4 := A.nf
   refine ⟨by simp; omega, by simp; omega, fun o ho => ?_, fun f hf => ?_⟩
   ·have : o ≠ ro := by omega
    simp [this]
    rw [hm.obj o (by omega) (by omega) (by omega) (by simp)]; exact A.obj o ho
   ·simp
    rw [hm.fam f (by omega) (by simp)]; exact A.fam f hf
  rcases hm.own with ⟨h1, rfl⟩ | ⟨q, rfl, h1, h2⟩
  ·exact .inl (hR _ _ _ _ _ e (.inl ⟨h1, rfl⟩) A2)
  ·have hq : τ.nf ≤ q := by
    rcases hm.ownT q (by simp [famL]) with h | h
    ·simp at h
    ·exact h
   refine .inr ⟨_, q, fun _ => false, rfl, by simpa using h2, ?_⟩
   have hI : IntsV (.sl (.stat false) 1 (x'.out.map (.int .i64))) x'.out := .inr ⟨_, rfl⟩
   have := hR _ _ _ _ ((σ'.setO ro [.sl (.fam q false) 1 (x'.out.map (.int .i64)), .int .i64 s, .int .i64 c]).frz q fun _ => false) e hI (A2.frz (by have := A.nf; omega) fun _ _ => rfl)
   simpa [Function.comp_def] using this
 have key : ∀ (a : Nat → AV) (τ : AS) (caps : List AV) (xo mo vo po ro : Nat), caps = [.ptr vo 0, .ptr ro 0] → a 3 = .ptr po 0 → a 6 = .ptr ro 0 → a 7 = .ptr vo 0 → τ.objs po = some [fsv, .int .i64 m.memory, .int .i64 m.main] → τ.objs ro = some [.nilsl, .int .i64 0, .int .i64 0] → τ.objs vo = some [.ptr xo 0] →
   τ.objs xo = some [fsv, .int .i64 m.memory, .int .i64 m.main, iv, .int .i64 steps, .slm mo 0 1 m.memory.toNat, .nilsl, .int .i64 0] → τ.objs mo = some (List.replicate m.memory.toNat (.int .u8 0)) → Adds σ τ → (po < τ.no ∧ ro < τ.no ∧ vo < τ.no ∧ xo < τ.no ∧ mo < τ.no) → (σ.no ≤ xo ∧ σ.no ≤ mo ∧ σ.no ≤ ro) →
   (xo ≠ mo ∧ vo ≠ xo ∧ vo ≠ mo ∧ ro ≠ xo ∧ ro ≠ mo ∧ ro ≠ vo) → avc Tryz.prog G 32 pc9_yz (aq (AHandle Tryz.prog G 18 pc21_h 4 2 caps [.cell 6 33] (FrzOr R))) a τ := by
  intro a τ caps xo mo vo po ro hcaps a3 a6 a7 op orr ov ox om A lts ges nes
  obtain ⟨l1, l2, l3, l4, l5⟩ := lts
  obtain ⟨q1, q2, q3⟩ := ges
  obtain ⟨n1, n2, n3, n4, n5, n6⟩ := nes
  subst hcaps
  have hM : XM m.funcs m.memory m.main τ xo mo [] [] ⟨input, steps, List.replicate m.memory.toNat 0, [], 0⟩ .nilsl τ :=
   ⟨Nat.le_refl _, Nat.le_refl _, fun _ _ _ _ _ => rfl, fun _ _ _ => rfl, l4, l5, n1, by simp, ⟨fsv, iv, by simpa using ox, hfsv, hi⟩, .inl ⟨rfl, rfl⟩, by simp [famL], by simpa using om⟩
  simp [pc9_yz, a3, a7, op, ov, f1, hix, splice, g1, g2, g3]
  refine call_calls (N := 2 ^ 38) (list_ok V hfs (steps.toNat + 1) 0 (Int.le_refl _) (by omega)) (runL_bd hfs (steps.toNat + 1) 0 (Int.le_refl _) (by omega)) (Int.le_refl _) hM (Nat.le_refl _) (by simp only; omega) (by simp; omega) (Int.le_refl _) (by simp; omega) hil hgo hgv (.inr (.inl ⟨rfl, rfl⟩)) (by simp) (by simp [famL]) (by simp [famL]) hcallw (fun v x' r' σ' e hx => ?_) (fun s c x' σ' e hx => ?_)
  ·obtain ⟨xov, hm⟩ := hx
   have o1 := hm.own.one
   obtain ⟨fv, iv', ho, _, _⟩ := hm.mach
   have hv := (hm.obj vo l3 n2 n3 (by simp)).trans ov
   have hr := (hm.obj ro l2 n4 n5 (by simp)).trans orr
   have hfin := fin τ σ' xo mo ro x' xov 1 v A q1 q2 q3 hm (hok _ _ _ e)
   simp [a6, a7, hv, ho, hr, o1, splice]
   simp [AHandle, pc21_h, splice, a6]
   exact hfin
  ·obtain ⟨xov, hm⟩ := hx
   have o1 := hm.own.one
   obtain ⟨fv, iv', ho, _, _⟩ := hm.mach
   have hv := (hm.obj vo l3 n2 n3 (by simp)).trans ov
   have hr := (hm.obj ro l2 n4 n5 (by simp)).trans orr
   have hl := hm.no
   have A3 : Adds σ' ((σ'.newO [.int .i64 0, .int .i64 0]).setO σ'.no [.int .i64 s, .int .i64 c]) := (Adds.refl σ').newO.setO (Nat.le_refl _)
   have hfin := fin τ _ xo mo ro x' xov s c A q1 q2 q3 (hm.adds A3) (hov _ _ _ e)
   have y1 : vo ≠ σ'.no := by omega
   have y2 : ro ≠ σ'.no := by omega
   have y3 : xo ≠ σ'.no := by omega
   simp
   simp [AHandle, pc21_h, overV, splice, hide, a6, hv, ho, hr, o1, y1, y2, y3]
   exact hfin
 simp [pc9_x]
 have z2 : ¬ σ.no = σ.no + 1 + 1 := by omega
 have z3 : ¬ σ.no = σ.no + 1 + 1 + 1 := by omega
 have z4 : ¬ σ.no = σ.no + 1 + 1 + 1 + 1 := by omega
 have z5 : ¬ σ.no + 1 = σ.no + 1 + 1 + 1 := by omega
 have z6 : ¬ σ.no + 1 = σ.no + 1 + 1 + 1 + 1 := by omega
 have z7 : ¬ σ.no + 1 + 1 = σ.no + 1 + 1 + 1 + 1 := by omega
 simp [pc9_yx, f1, i1, splice, amake_bytes (G := G) m0 m1, z2, z3, z4]
 refine ⟨key _ _ _ (σ.no + 1 + 1 + 1) (σ.no + 1 + 1) (σ.no + 1 + 1 + 1 + 1) σ.no (σ.no + 1) rfl ?_ ?_ ?_ ?_ ?_ ?_ ?_ ?_ ?_ ?_ ?_ ?_, key _ _ _ (σ.no + 1 + 1 + 1 + 1) (σ.no + 1 + 1) (σ.no + 1 + 1 + 1) σ.no (σ.no + 1) rfl ?_ ?_ ?_ ?_ ?_ ?_ ?_ ?_ ?_ ?_ ?_ ?_, key _ _ _ (σ.no + 1 + 1 + 1 + 1) (σ.no + 1 + 1 + 1) (σ.no + 1 + 1) σ.no (σ.no + 1) rfl ?_ ?_ ?_ ?_ ?_ ?_ ?_ ?_ ?_ ?_ ?_ ?_⟩
 all_goals first | (simp; done) | (simp; omega) | (simp [z2, z3, z4, z5, z6, z7]; done) | exact ((Adds.refl σ).newO.newO.newO.newO.newO).setO (by omega) | omega
end Go.Proofs.YthifgodgfhbnfaaGreatDoor
set_option linter.unusedSimpArgs false
set_option linter.unusedVariables false
namespace Go.Proofs.YthifgodgfhbnfaaGreatDoor
open Go Go.Abs
def numW (t n : Int) : W := ⟨1, t, n, 0, 0, []⟩
def F12 (to : To) : F := ⟨[109, 97, 105, 110], [], [1, 1, 2, 2], 1, to⟩
def M12 (to : To) : M := ⟨[F12 to], 16, 0⟩
theorem small12 {to : To} (h1 : to.length ≤ 100000) (h2 : ∀ l ∈ to, l.length ≤ 100000) (h3 : ∀ l ∈ to, ∀ w ∈ l, w.n ≤ 2 ^ 63 - 1) : Small (M12 to) ∧ OkFs (M12 to).funcs := by
 have e : ∀ f ∈ (M12 to).funcs, f = F12 to := fun f hf => by simpa [M12] using hf
 refine ⟨⟨by simp [M12], fun f hf => ?_, fun f hf => ?_, fun f hf => ?_, fun f hf => ?_, fun f hf => ?_⟩, fun f hf => ?_⟩
 all_goals rw [e f hf]
 ·simp [F12]
 ·simp [F12]
 ·simp only [F12]; omega
 ·intro l hl; have := h2 l hl; omega
 ·exact h3
 ·exact ⟨by simp [F12], by simp [F12], by simp only [F12]; omega, fun l hl => by have := h2 l hl; omega, h3⟩
theorem numberW_calls {G : Env} {t n : Int} {σ : AS} {R : Out → AS → Prop} (h : ∀ σ', Adds σ σ' → R (.ret (numW t n).av) σ') : ACalls Tryz.prog G 16 [.int .i64 t, .int .i64 n] σ R := by
 refine calls16 rfl ?_
 simp [pc16, splice]
 exact h _ .mk1
theorem mainOf_calls {G : Env} {v : AV} {to : To} {σ : AS} {R : Out → AS → Prop} (hv : ListsV v to) (h : ∀ v' σ', MV v' (M12 to) → Adds σ σ' → R (.ret v') σ') : ACalls Tryz.prog G 32 [v] σ R := by
 refine calls32 rfl ?_
 have v1 := hv.one
 have := h (.agg [.sl (.stat true) 5 [.agg [.str [109, 97, 105, 110], .nilsl, .sl (.stat true) 1 [.int .i64 1, .int .i64 1, .int .i64 2, .int .i64 2], .int .i64 1, v]], .int .i64 16, .int .i64 0]) ((σ.newO [.nilsl, .int .i64 0, .int .i64 0]).setO σ.no [.sl (.stat true) 5 [.agg [.str [109, 97, 105, 110], .nilsl, .sl (.stat true) 1 [.int .i64 1, .int .i64 1, .int .i64 2, .int .i64 2], .int .i64 1, v]], .int .i64 16, .int .i64 0]) ⟨_, rfl, .inr ⟨_, _, rfl, .cons ⟨_, _, _, rfl, .inl ⟨rfl, rfl⟩, .inr ⟨_, rfl⟩, hv⟩ .nil⟩⟩ .mk1
 simpa [pc32, splice, v1] using this
theorem body_calls {G : Env} {v : AV} {l : List W} {σ : AS} {R : Out → AS → Prop} (hv : RepL v l) (h : ∀ v' σ', MV v' (M12 [l]) → Adds σ σ' → R (.ret v') σ') : ACalls Tryz.prog G 15 [v] σ R := by
 refine calls15 rfl ?_
 have v1 := hv.one
 simp [pc15, splice, v1]
 refine mainOf_calls (to := [l]) (.inr ⟨_, _, rfl, .cons hv .nil⟩) fun v' σ' hm A => ?_
 obtain ⟨fv, rfl, hfs⟩ := hm
 have f1 := hfs.one
 have h1 : (σ.newO [AV.nilsl, AV.int IntKind.i64 0, AV.int IntKind.i64 0]).no = σ.no + 1 := by simp
 have hno := A.no
 have ho := A.obj σ.no (by simp)
 simp at ho
 simp [f1, ho, splice]
 exact h _ _ ⟨_, rfl, hfs⟩ (((Adds.refl σ).newO.trans A).setO (Nat.le_refl _))
theorem sameRun_calls {G : Env} {va vb : AV} {p q : List Int} {s c t d : Int} {σ : AS} {R : Out → AS → Prop} (ha : IntsV va p) (hb : IntsV vb q) (hl : p.length ≤ 2 ^ 40) (h : ∀ σ', Adds σ σ' → R (.ret (.bool (decide (s = t ∧ c = d ∧ p = q)))) σ') :
  ACalls Tryz.prog G 10 [.agg [va, .int .i64 s, .int .i64 c], .agg [vb, .int .i64 t, .int .i64 d]] σ R := by
 refine calls10 rfl ?_
 have a1 := ha.one
 have b1 := hb.one
 have A : Adds σ ((σ.newO [va, .int .i64 s, .int .i64 c]).newO [vb, .int .i64 t, .int .i64 d]) := (Adds.refl σ).newO.newO
 have k := h _ A
 by_cases h1 : s = t
 ·by_cases h2 : c = d
  ·simp [h1, h2] at k
   simp [pc10, a1, b1, h1, h2]
   refine sameInts_calls ha hb hl ?_
   simp
   exact k
  ·simp [h1, h2] at k
   simp [pc10, a1, b1, h1, h2]
   exact k
 ·simp [h1] at k
  simp [pc10, a1, b1, h1]
  exact k
def w17 : W := numW 1 7
theorem known12_check : checkE (M12 [[w17]]) = .ok () := by rfl
theorem known12_rng : Rng (M12 [[w17]]).funcs := by unfold Rng; decide
theorem known12_empty : errOf (checkE (M12 [[]])) = 14 := by rfl
theorem known12_one : runM (M12 [[w17]]) [] 1 2 = some ([], 1, 7) := by rfl
theorem known12_none : runM (M12 [[w17]]) [] 0 1 = some ([], 3, 0) := by rfl
theorem known12_calls {G : Env} (V : Vars G) {σ : AS} {R : Out → AS → Prop} (h : ∀ σ', Adds σ σ' → R (.ret (.bool true)) σ') : ACalls Tryz.prog G 6 [] σ R := by
 refine calls6 rfl ?_
 obtain ⟨sm, of⟩ := small12 (to := [[w17]]) (by simp) (by simp) (by simp [w17, numW])
 obtain ⟨sm0, _⟩ := small12 (to := [[]]) (by simp) (by simp) (by simp)
 simp [pc6]
 refine numberW_calls fun σ1 A1 => ?_
 simp [W.av, W.cs, numW]
 refine body_calls (l := [w17]) (.inr ⟨true, rfl⟩) fun v σ2 hv A2 => ?_
 obtain ⟨fv, rfl, hfs⟩ := hv
 have f1 := hfs.one
 have hv : MV (.agg [fv, .int .i64 (M12 [[w17]]).memory, .int .i64 (M12 [[w17]]).main]) (M12 [[w17]]) := ⟨fv, rfl, hfs⟩
 simp [splice, f1]
 have hm1 : ((σ2.newO [AV.nilsl, AV.int IntKind.i64 0, AV.int IntKind.i64 0]).setO σ2.no [fv, AV.int IntKind.i64 (M12 [[w17]]).memory, AV.int IntKind.i64 (M12 [[w17]]).main]).objs σ2.no = some [fv, .int .i64 (M12 [[w17]]).memory, .int .i64 (M12 [[w17]]).main] := by simp
 have hno1 : ((σ2.newO [AV.nilsl, AV.int IntKind.i64 0, AV.int IntKind.i64 0]).setO σ2.no [fv, AV.int IntKind.i64 (M12 [[w17]]).memory, AV.int IntKind.i64 (M12 [[w17]]).main]).no = σ2.no + 1 := by simp
 have A3 : Adds σ2 ((σ2.newO [AV.nilsl, AV.int IntKind.i64 0, AV.int IntKind.i64 0]).setO σ2.no [fv, AV.int IntKind.i64 (M12 [[w17]]).memory, AV.int IntKind.i64 (M12 [[w17]]).main]) := (Adds.refl σ2).newO.setO (Nat.le_refl _)
 generalize (σ2.newO [AV.nilsl, AV.int IntKind.i64 0, AV.int IntKind.i64 0]).setO σ2.no [fv, AV.int IntKind.i64 (M12 [[w17]]).memory, AV.int IntKind.i64 (M12 [[w17]]).main] = σ3 at *
 refine run_calls V hv known12_check of known12_rng (by simp) (input := []) (steps := 1) (.inl ⟨rfl, rfl⟩) (by simp) (by omega) fun ov out st code σ4 he ho A4 => ?_
 rw [show runM (M12 [[w17]]) [] 1 ((1 : Int).toNat + 1) = some ([], 1, 7) from known12_one] at he
 obtain ⟨rfl, rfl, rfl⟩ : [] = out ∧ 1 = st ∧ 7 = code := by simpa using he
 have o1 := ho.one
 have hm2 := (A4.obj _ (by omega)).trans hm1
 have hn2 := A4.no
 have hne : σ2.no ≠ σ4.no := by omega
 simp [splice, o1, hm2, f1, hne]
 have hm3 : ((σ4.newO [AV.nilsl, AV.int IntKind.i64 0, AV.int IntKind.i64 0]).setO σ4.no [ov, AV.int IntKind.i64 1, AV.int IntKind.i64 7]).objs σ2.no = some [fv, .int .i64 (M12 [[w17]]).memory, .int .i64 (M12 [[w17]]).main] := by simp [hne, hm2]
 have hr3 : ((σ4.newO [AV.nilsl, AV.int IntKind.i64 0, AV.int IntKind.i64 0]).setO σ4.no [ov, AV.int IntKind.i64 1, AV.int IntKind.i64 7]).objs σ4.no = some [ov, .int .i64 1, .int .i64 7] := by simp
 have hno3 : ((σ4.newO [AV.nilsl, AV.int IntKind.i64 0, AV.int IntKind.i64 0]).setO σ4.no [ov, AV.int IntKind.i64 1, AV.int IntKind.i64 7]).no = σ4.no + 1 := by simp
 have A5 : Adds σ4 ((σ4.newO [AV.nilsl, AV.int IntKind.i64 0, AV.int IntKind.i64 0]).setO σ4.no [ov, AV.int IntKind.i64 1, AV.int IntKind.i64 7]) := (Adds.refl σ4).newO.setO (Nat.le_refl _)
 generalize (σ4.newO [AV.nilsl, AV.int IntKind.i64 0, AV.int IntKind.i64 0]).setO σ4.no [ov, AV.int IntKind.i64 1, AV.int IntKind.i64 7] = σ5 at *
 refine run_calls V hv known12_check of known12_rng (by simp) (input := []) (steps := 0) (.inl ⟨rfl, rfl⟩) (by simp) (by omega) fun ov' out st code σ6 he ho' A6 => ?_
 rw [show runM (M12 [[w17]]) [] 0 ((0 : Int).toNat + 1) = some ([], 3, 0) from known12_none] at he
 obtain ⟨rfl, rfl, rfl⟩ : [] = out ∧ 3 = st ∧ 0 = code := by simpa using he
 have o2 := ho'.one
 have hm4 := (A6.obj _ (by omega)).trans hm3
 have hr4 := (A6.obj _ (by omega)).trans hr3
 have hn6 := A6.no
 have hne2 : σ2.no ≠ σ6.no := by omega
 have hne4 : σ4.no ≠ σ6.no := by omega
 simp [splice, o2, hm4, f1, hne2, hne4, hr4]
 have hr6 : ((σ6.newO [AV.nilsl, AV.int IntKind.i64 0, AV.int IntKind.i64 0]).setO σ6.no [ov', AV.int IntKind.i64 3, AV.int IntKind.i64 0]).objs σ6.no = some [ov', .int .i64 3, .int .i64 0] := by simp
 have hr5 : ((σ6.newO [AV.nilsl, AV.int IntKind.i64 0, AV.int IntKind.i64 0]).setO σ6.no [ov', AV.int IntKind.i64 3, AV.int IntKind.i64 0]).objs σ4.no = some [ov, .int .i64 1, .int .i64 7] := by simp [hne4, hr4]
 have hno5 : ((σ6.newO [AV.nilsl, AV.int IntKind.i64 0, AV.int IntKind.i64 0]).setO σ6.no [ov', AV.int IntKind.i64 3, AV.int IntKind.i64 0]).no = σ6.no + 1 := by simp
 have A7 : Adds σ6 ((σ6.newO [AV.nilsl, AV.int IntKind.i64 0, AV.int IntKind.i64 0]).setO σ6.no [ov', AV.int IntKind.i64 3, AV.int IntKind.i64 0]) := (Adds.refl σ6).newO.setO (Nat.le_refl _)
 generalize (σ6.newO [AV.nilsl, AV.int IntKind.i64 0, AV.int IntKind.i64 0]).setO σ6.no [ov', AV.int IntKind.i64 3, AV.int IntKind.i64 0] = σ7 at *
 refine check_calls V sm hv fun σ8 A8 => ?_
 have hr8 := (A8.obj _ (by omega)).trans hr6
 have hr9 := (A8.obj _ (by omega)).trans hr5
 rw [known12_check]
 simp [errOf, hr8, hr9, splice]
 refine body_calls (l := []) (.inl ⟨rfl, rfl⟩) fun v σ9 hv0 A9 => ?_
 simp
 refine check_calls V sm0 hv0 fun σ10 A10 => ?_
 rw [known12_empty]
 simp
 exact h _ (((((((((A1.trans A2).trans A3).trans A4).trans A5).trans A6).trans A7).trans A8).trans A9).trans A10)
end Go.Proofs.YthifgodgfhbnfaaGreatDoor
set_option linter.unusedSimpArgs false
set_option linter.unusedVariables false
namespace Go.Proofs.YthifgodgfhbnfaaGreatDoor.Rf
open Go Go.Abs Go.Proofs.YthifgodgfhbnfaaGreatDoor
def marks : List Int := [7001, 7014, 7027, 7040, 7053]
theorem mark_at {i : Nat} (h : i < 5) : marks[i]? = some (7001 + 13 * (i : Int)) := by
 match i, h with
 | 0, _ => rfl
 | 1, _ => rfl
 | 2, _ => rfl
 | 3, _ => rfl
 | 4, _ => rfl
section
variable {G : Env} {σ : AS} {R : Out → AS → Prop}
theorem mark_calls {i : Nat} (hi : i < 5) (h : R (.ret (.int .i64 (7001 + 13 * (i : Int)))) σ) : ACalls Tryz.prog G 20 [.int .i64 (i : Int)] σ R := by
 refine calls20 rfl ?_
 have w1 : IntKind.wrap .i64 (13 * (i : Int)) = 13 * (i : Int) := by rw [wrap_i64] <;> omega
 have w2 : IntKind.wrap .i64 (7001 + 13 * (i : Int)) = 7001 + 13 * (i : Int) := by rw [wrap_i64] <;> omega
 simp [pc20, w1, w2]
 exact h
def LtI (l : List Int) (σ : AS) (a : Nat → AV) (τ : AS) : Prop := ∃ i : Nat, i ≤ 5 ∧ a 4 = .int .i64 (i : Int) ∧ OutG τ σ.nf 1 (a 3) ((l ++ marks.take i).map (.int .i64)) ∧ Adds σ τ
theorem lent_calls {v : AV} {l : List Int} (hv : IntsV v l) (hl : l.length ≤ 2 ^ 38) (h : ∀ v' σ', IntsV v' (l ++ marks) → Adds σ σ' → R (.ret v') σ') : ACalls Tryz.prog G 8 [v] σ R := by
 refine freezing (calls8 rfl ?_)
 have v1 := hv.one
 simp [pc8, v1]
 refine copyIntsF_calls hv (by omega) (fun σ1 hn A => ?_) (fun σ1 g A g1 g2 g3 => ?_)
 ·simp
  refine aloop (LtI l σ) (MU 4 6) ⟨0, by omega, by simp, .inl ⟨by simp [hn], by simp⟩, A⟩ fun a τ hI => ?_
  obtain ⟨i, hi, a4, hO, hA⟩ := hI
  by_cases hlt : i < 5
  ·have hlt' : (i : Int) < 5 := by omega
   have w1 : IntKind.wrap .i64 ((i : Int) + 1) = ((i + 1 : Nat) : Int) := by rw [wrap_i64] <;> omega
   have ts := take_snoc (mark_at hlt)
   have hml : (l ++ marks.take i).length ≤ 2 ^ 38 + 5 := by simp; omega
   have hgn := hA.nf
   rcases hO with ⟨he, h3⟩ | ⟨g', h3, h4, h5, h6⟩
   ·have he' : l ++ marks.take i = [] := by simpa using he
    simp [pc8_l1, a4, hlt']
    refine mark_calls hlt ?_
    simp [h3, a4, w1]
    refine ⟨⟨i + 1, by omega, by simp, .inr ⟨τ.nf, ?_, hA.nf, by simp, by simp⟩, hA.newF⟩, ?_⟩
    ·rw [ts, ← List.append_assoc, he']; simp
    ·simp only [MU, a4]; simp; omega
   ·simp [pc8_l1, a4, hlt']
    refine mark_calls hlt ?_
    simp [h3, a4, w1, h6]
    refine ⟨by simp at hml; omega, ⟨i + 1, by omega, by simp, .inr ⟨τ.nf, ?_, hgn, by simp, by simp⟩, ?_⟩, ?_⟩
    ·rw [ts, ← List.append_assoc]; simp
    ·exact ⟨by simpa using hA.no, by simp; omega, fun o ho => by simpa using hA.obj o ho, fun f hf => by
      have : f ≠ g' := by omega
      simp [this]
      rw [if_neg (by omega)]
      exact hA.fam f hf⟩
    ·simp only [MU, a4]; simp; omega
  ·have hie : i = 5 := by omega
   subst hie
   have htk : marks.take 5 = marks := rfl
   rw [htk] at hO
   rcases hO with ⟨he, h3⟩ | ⟨g', h3, h4, h5, h6⟩
   ·simp [marks] at he
   ·simp [pc8_l1, pc8_r1, a4, h3]
    refine .froze g' (fun _ => false) h6 ?_
    have := h (.sl (.stat false) 1 ((l ++ marks).map (.int .i64))) (τ.frz g' fun _ => false) (.inr ⟨_, rfl⟩) (hA.frz h4 fun _ _ => rfl)
    simpa [Function.comp_def] using this
 ·simp
  refine aloop (LtI l σ) (MU 4 6) ⟨0, by omega, by simp, .inr ⟨g, by simp [marks], g1, g2, g3⟩, A⟩ fun a τ hI => ?_
  obtain ⟨i, hi, a4, hO, hA⟩ := hI
  by_cases hlt : i < 5
  ·have hlt' : (i : Int) < 5 := by omega
   have w1 : IntKind.wrap .i64 ((i : Int) + 1) = ((i + 1 : Nat) : Int) := by rw [wrap_i64] <;> omega
   have ts := take_snoc (mark_at hlt)
   have hml : (l ++ marks.take i).length ≤ 2 ^ 38 + 5 := by simp; omega
   have hgn := hA.nf
   rcases hO with ⟨he, h3⟩ | ⟨g', h3, h4, h5, h6⟩
   ·have he' : l ++ marks.take i = [] := by simpa using he
    simp [pc8_l1, a4, hlt']
    refine mark_calls hlt ?_
    simp [h3, a4, w1]
    refine ⟨⟨i + 1, by omega, by simp, .inr ⟨τ.nf, ?_, hA.nf, by simp, by simp⟩, hA.newF⟩, ?_⟩
    ·rw [ts, ← List.append_assoc, he']; simp
    ·simp only [MU, a4]; simp; omega
   ·simp [pc8_l1, a4, hlt']
    refine mark_calls hlt ?_
    simp [h3, a4, w1, h6]
    refine ⟨by simp at hml; omega, ⟨i + 1, by omega, by simp, .inr ⟨τ.nf, ?_, hgn, by simp, by simp⟩, ?_⟩, ?_⟩
    ·rw [ts, ← List.append_assoc]; simp
    ·exact ⟨by simpa using hA.no, by simp; omega, fun o ho => by simpa using hA.obj o ho, fun f hf => by
      have : f ≠ g' := by omega
      simp [this]
      rw [if_neg (by omega)]
      exact hA.fam f hf⟩
    ·simp only [MU, a4]; simp; omega
  ·have hie : i = 5 := by omega
   subst hie
   have htk : marks.take 5 = marks := rfl
   rw [htk] at hO
   rcases hO with ⟨he, h3⟩ | ⟨g', h3, h4, h5, h6⟩
   ·simp [marks] at he
   ·simp [pc8_l1, pc8_r1, a4, h3]
    refine .froze g' (fun _ => false) h6 ?_
    have := h (.sl (.stat false) 1 ((l ++ marks).map (.int .i64))) (τ.frz g' fun _ => false) (.inr ⟨_, rfl⟩) (hA.frz h4 fun _ _ => rfl)
    simpa [Function.comp_def] using this
def KpI (va vb : AV) (σ : AS) (a : Nat → AV) (τ : AS) : Prop := ∃ i : Nat, i ≤ 5 ∧ a 0 = va ∧ a 1 = vb ∧ a 6 = .int .i64 (i : Int) ∧ OutG τ σ.nf 1 (a 5) ((marks.take i).map (.int .i64)) ∧ Adds σ τ
theorem kept_calls {va vb : AV} {l : List Int} (ha : IntsV va (l ++ marks)) (hb : IntsV vb l) (hl : l.length ≤ 2 ^ 38) (h : ∀ σ', Adds σ σ' → R (.ret (.bool true)) σ') : ACalls Tryz.prog G 13 [va, vb] σ R := by
 refine calls13 rfl ?_
 have b1 := hb.one
 have b2 := hb.len
 rcases ha with ⟨e, _⟩ | ⟨b, rfl⟩
 ·simp [marks] at e
 have hml : (l ++ marks).length = l.length + 5 := by simp [marks]
 have w1 : IntKind.wrap .i64 ((l.length : Int) + 5) = (l.length : Int) + 5 := by rw [wrap_i64] <;> omega
 have hmk : marks.length = 5 := rfl
 have tk : List.take l.length (List.map (AV.int .i64) l ++ List.map (AV.int .i64) marks) = List.map (AV.int .i64) l := by simp
 have dr : List.drop l.length (List.map (AV.int .i64) l ++ List.map (AV.int .i64) marks) = List.map (AV.int .i64) marks := by simp
 have tk2 : List.take ((l.length : Int) + 5).toNat (List.map (AV.int .i64) l ++ List.map (AV.int .i64) marks) = List.map (AV.int .i64) l ++ List.map (AV.int .i64) marks := List.take_of_length_le (by simp [hmk]; omega)
 have ha' : ∀ b', IntsV (.sl (.stat b') 1 (List.map (AV.int .i64) l)) l := fun b' => .inr ⟨b', rfl⟩
 simp [pc13, b1, b2, w1, hmk, tk]
 refine ⟨by omega, sameInts_calls (ha' _) hb (by omega) ?_⟩
 simp
 refine aloop (KpI (.sl (.stat b) 1 (List.map (AV.int .i64) l ++ List.map (AV.int .i64) marks)) vb σ) (MU 6 6) ⟨0, by omega, by simp, by simp, by simp, .inl ⟨by simp, by simp⟩, .refl _⟩ fun a τ hI => ?_
 obtain ⟨i, hi, a0, a1, a6, hO, hA⟩ := hI
 by_cases hlt : i < 5
 ·have hlt' : (i : Int) < 5 := by omega
  have w1 : IntKind.wrap .i64 ((i : Int) + 1) = ((i + 1 : Nat) : Int) := by rw [wrap_i64] <;> omega
  have ts := take_snoc (mark_at hlt)
  have hmi : (marks.take i).length ≤ 5 := by simp; omega
  have hgn := hA.nf
  rcases hO with ⟨he, h3⟩ | ⟨g', h3, h4, h5, h6⟩
  ·have he' : marks.take i = [] := by simpa using he
   simp [pc13_l1, a6, hlt']
   refine mark_calls hlt ?_
   simp [h3, a6, w1]
   refine ⟨⟨i + 1, by omega, by simp [a0], by simp [a1], by simp, .inr ⟨τ.nf, ?_, hA.nf, by simp, by simp⟩, hA.newF⟩, ?_⟩
   ·rw [ts, he']; simp
   ·simp only [MU, a6]; simp; omega
  ·simp [pc13_l1, a6, hlt']
   refine mark_calls hlt ?_
   simp [h3, a6, w1, h6]
   refine ⟨by simp at hmi; omega, ⟨i + 1, by omega, by simp [a0], by simp [a1], by simp, .inr ⟨τ.nf, ?_, hgn, by simp, by simp⟩, ?_⟩, ?_⟩
   ·rw [ts]; simp
   ·exact ⟨by simpa using hA.no, by simp; omega, fun o ho => by simpa using hA.obj o ho, fun f hf => by
     have : f ≠ g' := by omega
     simp [this]
     rw [if_neg (by omega)]
     exact hA.fam f hf⟩
   ·simp only [MU, a6]; simp; omega
 ·have hie : i = 5 := by omega
  subst hie
  have htk : marks.take 5 = marks := rfl
  rw [htk] at hO
  rcases hO with ⟨he, h3⟩ | ⟨g', h3, h4, h5, h6⟩
  ·simp [marks] at he
  ·simp [pc13_l1, pc13_r1, a0, a1, a6, h3, b2, tk2, dr, hmk]
   refine ⟨by omega, Al.eqInts_calls (σ := τ) (l := marks) (.inr ⟨.stat _, rfl, trivial⟩) (.inr ⟨_, rfl, h5, h6⟩) (by simp [marks]) fun σ' A => ?_⟩
   simp
   exact h _ (hA.trans A)
end
end Go.Proofs.YthifgodgfhbnfaaGreatDoor.Rf
set_option linter.unusedSimpArgs false
set_option linter.unusedVariables false
namespace Go.Proofs.YthifgodgfhbnfaaGreatDoor.Rf
open Go Go.Abs Go.Proofs.YthifgodgfhbnfaaGreatDoor
theorem nameE_true {a n : Int} {named named' : List Bool} (h : nameE a named n = .ok named') {i : Nat} (hi : named'[i]? = some true) : named[i]? = some true ∨ (i : Int) = n := by
 unfold nameE at h
 split at h
 ·rename_i hc
  cases h
  by_cases hin : n.toNat = i
  ·right; omega
  ·left; rwa [List.getElem?_set_ne hin] at hi
 ·cases h
theorem namesE_true {a : Int} : ∀ {ns : List Int} {named named' : List Bool}, namesE a ns named = .ok named' → ∀ {i : Nat}, named'[i]? = some true → named[i]? = some true ∨ (i : Int) ∈ ns
 | [], named, named', h, i, hi => by rw [namesE] at h; cases h; exact .inl hi
 | n :: ns, named, named', h, i, hi => by
  rw [namesE] at h
  split at h
  ·cases h
  ·rename_i nm hnm
   rcases namesE_true h hi with h1 | h1
   ·rcases nameE_true hnm h1 with h2 | h2
    ·exact .inl h2
    ·exact .inr (by simp [h2])
   ·exact .inr (by simp [h1])
theorem rowE_true {a : Int} : ∀ {r : List W} {named named' : List Bool}, rowE a r named = .ok named' → ∀ {i : Nat}, named'[i]? = some true → named[i]? = some true ∨ ∃ w ∈ r, (i : Int) ∈ namesL w
 | [], named, named', h, i, hi => by rw [rowE] at h; cases h; exact .inl hi
 | w :: r, named, named', h, i, hi => by
  rw [rowE] at h
  split at h
  ·cases h
  ·rename_i nm hnm
   rcases rowE_true h hi with h1 | ⟨w', h1, h2⟩
   ·rcases namesE_true hnm h1 with h2 | h2
    ·exact .inl h2
    ·exact .inr ⟨w, by simp, h2⟩
   ·exact .inr ⟨w', by simp [h1], h2⟩
theorem rowsE_true : ∀ {ls : To} {k : Nat} {named named' : List Bool}, rowsE k ls named = .ok named' → ∀ {i : Nat}, named'[i]? = some true → named[i]? = some true ∨ ∃ (j : Nat) (r : List W), ls[j]? = some r ∧ ∃ w ∈ r, (i : Int) ∈ namesL w
 | [], k, named, named', h, i, hi => by rw [rowsE] at h; cases h; exact .inl hi
 | r :: ls, k, named, named', h, i, hi => by
  rw [rowsE] at h
  split at h
  ·cases h
  ·rename_i nm hnm
   rcases rowsE_true h hi with h1 | ⟨j, r', h1, h2⟩
   ·rcases rowE_true hnm h1 with h2 | h2
    ·exact .inl h2
    ·exact .inr ⟨0, r, rfl, h2⟩
   ·exact .inr ⟨j + 1, r', by simpa using h1, h2⟩
theorem nameE_ln {a n : Int} {named named' : List Bool} (h : nameE a named n = .ok named') : named'.length = named.length := by
 unfold nameE at h
 split at h
 ·cases h; simp
 ·cases h
theorem namesE_ln {a : Int} : ∀ {ns : List Int} {named named' : List Bool}, namesE a ns named = .ok named' → named'.length = named.length
 | [], named, named', h => by rw [namesE] at h; cases h; rfl
 | n :: ns, named, named', h => by
  rw [namesE] at h
  split at h
  ·cases h
  ·rename_i nm hnm
   rw [namesE_ln h, nameE_ln hnm]
theorem rowE_ln {a : Int} : ∀ {r : List W} {named named' : List Bool}, rowE a r named = .ok named' → named'.length = named.length
 | [], named, named', h => by rw [rowE] at h; cases h; rfl
 | w :: r, named, named', h => by
  rw [rowE] at h
  split at h
  ·cases h
  ·rename_i nm hnm
   rw [rowE_ln h, namesE_ln hnm]
theorem rowsE_ln : ∀ {ls : To} {k : Nat} {named named' : List Bool}, rowsE k ls named = .ok named' → named'.length = named.length
 | [], k, named, named', h => by rw [rowsE] at h; cases h; rfl
 | r :: ls, k, named, named', h => by
  rw [rowsE] at h
  split at h
  ·cases h
  ·rename_i nm hnm
   rw [rowsE_ln h, rowE_ln hnm]
theorem listsE_named {ls : To} (h : listsE ls = .ok ()) {i : Nat} (hi : i + 1 < ls.length) : ∃ (j : Nat) (r : List W), ls[j]? = some r ∧ ∃ w ∈ r, (i : Int) ∈ namesL w := by
 unfold listsE at h
 split at h
 ·cases h
 split at h
 ·cases h
 rename_i nm hnm
 split at h
 ·rename_i hall
  rw [List.all_eq_true] at hall
  have hlen : nm.length = ls.length := by
   have := (rowsE_ln hnm)
   simpa using this
  have h1 : nm[i]? = some true := by
   have h2 := hall (nm[i]'(by omega)) (List.mem_iff_getElem.2 ⟨i, by simp; omega, by simp⟩)
   rw [List.getElem?_eq_getElem (by omega)]
   simpa using h2
  rcases rowsE_true hnm h1 with h2 | h2
  ·rw [List.getElem?_replicate] at h2
   split at h2 <;> simp at h2
  ·exact h2
 ·cases h
theorem instrsE_each {fs : List F} {ls : List Int} {ty deep : Int} {look : Look} : ∀ {ws : List W} {s s' : St}, instrsE fs ls ty deep look ws s = .ok s' → ∀ w ∈ ws, ∃ s0 s1, instrE fs ls ty deep look w s0 = .ok s1
 | [], _, _, _, w, hw => by simp at hw
 | v :: ws, s, s', h, w, hw => by
  rw [instrsE] at h
  split at h
  ·cases h
  ·rename_i s1 h1
   rcases List.mem_cons.1 hw with rfl | hw
   ·exact ⟨s, s1, h1⟩
   ·exact instrsE_each h w hw
theorem instrE_form {fs : List F} {ls : List Int} {ty deep : Int} {look : Look} {w : W} {s s' : St} (h : instrE fs ls ty deep look w s = .ok s') : formB w = true ∧ ∀ n ∈ namesL w, look n (deep + 1) = .ok () := by
 unfold instrE at h
 split at h
 ·cases h
 rename_i hf
 refine ⟨by simpa using hf, fun n hn => ?_⟩
 split at h
 ·cases h
 by_cases h1 : w.op = 11 ∨ w.op = 12
 ·rw [if_pos h1] at h
  unfold namesL at hn
  rw [if_pos (by omega)] at hn
  simp at hn
  subst hn
  cases hl : look w.body (deep + 1) with
  | ok u => rfl
  | error e => rw [hl] at h; cases h
 rw [if_neg h1] at h
 by_cases h2 : w.op = 13
 ·rw [if_pos h2] at h
  split at h
  ·cases h
  cases hl : look w.body (deep + 1) with
  | error e => rw [hl] at h; cases h
  | ok u =>
   rw [hl] at h
   simp only at h
   unfold namesL at hn
   by_cases ho : w.other < 0
   ·rw [if_pos (by omega)] at hn
    simp at hn
    subst hn
    exact hl
   ·rw [if_neg (by omega), if_pos h2] at hn
    rw [if_pos (by omega)] at h
    simp at hn
    rcases hn with rfl | rfl
    ·exact hl
    ·cases hl2 : look w.other (deep + 1) with
     | ok u => rfl
     | error e => rw [hl2] at h; cases h
 ·unfold namesL at hn
  rw [if_neg (by omega), if_neg h2] at hn
  simp at hn
theorem lookE_form {fs : List F} {ls : List Int} {ty : Int} {lists : To} {k : Nat} {at_ deep : Int} (h : lookE fs ls ty lists (k + 1) at_ deep = .ok ()) : ∀ w ∈ lists.getD at_.toNat [], formB w = true ∧ ∀ n ∈ namesL w, lookE fs ls ty lists k n (deep + 1) = .ok () := by
 rw [lookE] at h
 split at h
 ·cases h
 ·rename_i s' hs
  intro w hw
  obtain ⟨s0, s1, h1⟩ := instrsE_each hs w hw
  exact instrE_form h1
theorem seen {fs : List F} {ls : List Int} {ty : Int} {lists : To} (hl : listsE lists = .ok ()) (h : lookE fs ls ty lists lists.length ((lists.length : Int) - 1) 0 = .ok ()) : ∀ (d i : Nat), i + d + 1 = lists.length → ∃ (k : Nat) (deep : Int), lookE fs ls ty lists k (i : Int) deep = .ok () := by
 intro d
 induction d using Nat.strongRecOn with
 | _ d ih =>
  intro i hi
  by_cases h0 : d = 0
  ·subst h0
   refine ⟨lists.length, 0, ?_⟩
   have : (i : Int) = (lists.length : Int) - 1 := by omega
   rw [this]; exact h
  ·obtain ⟨j, r, h1, w, h2, h3⟩ := listsE_named hl (i := i) (by omega)
   obtain ⟨_, ha, _⟩ := listsE_ok hl
   have hj := (ha j r h1 _ (List.mem_flatMap.2 ⟨w, h2, h3⟩)).2
   have hjl : j < lists.length := (List.getElem?_eq_some_iff.1 h1).1
   obtain ⟨k, deep, hk⟩ := ih (lists.length - 1 - j) (by omega) j (by omega)
   cases k with
   | zero => rw [lookE] at hk; cases hk
   | succ k =>
    have hg : lists.getD (j : Int).toNat [] = r := by rw [Int.toNat_natCast, List.getD_eq_getElem?_getD, h1]; rfl
    have := lookE_form hk w (by rw [hg]; exact h2)
    exact ⟨k, deep + 1, this.2 _ h3⟩
theorem forms_of {fs : List F} {f : F} (h : functionE fs f = .ok ()) : ∀ l ∈ f.lists, ∀ w ∈ l, formB w = true := by
 have hl := functionE_lists h
 unfold functionE at h
 split at h
 ·cases h
 rw [hl] at h
 simp only at h
 intro l hlm w hw
 obtain ⟨i, hi, e⟩ := List.getElem_of_mem hlm
 obtain ⟨k, deep, hk⟩ := seen hl h (f.lists.length - 1 - i) i (by omega)
 cases k with
 | zero => rw [lookE] at hk; cases hk
 | succ k =>
  have hg : f.lists.getD (i : Int).toNat [] = l := by rw [Int.toNat_natCast, List.getD_eq_getElem?_getD, List.getElem?_eq_getElem hi, e]; rfl
  exact (lookE_form hk w (by rw [hg]; exact hw)).1
theorem form_ty {w : W} (h : formB w = true) (h4 : w.op = 4) : w.ty = 1 ∨ w.ty = 2 := by
 unfold formB at h
 rw [if_neg (by omega), if_pos h4] at h
 simp [numberB] at h
 exact h.1
end Go.Proofs.YthifgodgfhbnfaaGreatDoor.Rf
set_option linter.unusedSimpArgs false
set_option linter.unusedVariables false
namespace Go.Proofs.YthifgodgfhbnfaaGreatDoor.Rf
open Go Go.Abs Go.Proofs.YthifgodgfhbnfaaGreatDoor
structure BView (fs : List F) (mm mn : Int) (xo : Nat) (σ0 : AS) (O : List Nat) (x : Ma) (σ : AS) (fsv iv ov : AV) (mo co : Nat) (Lo : List Nat) : Prop where
 ox : σ.objs xo = some [fsv, .int .i64 mm, .int .i64 mn, iv, .slm mo 0 1 x.memory.length, .slm co 0 4 x.calls.length, ov, .int .i64 x.status, .int .i64 x.code]
 hfs : FsV fsv fs
 hi : IntsV iv x.input
 om : σ.objs mo = some (bytesV x.memory)
 hov : LocV σ ov x.out Lo
 ne : xo ≠ mo ∧ xo ∉ Lo ∧ mo ∉ Lo ∧ xo < σ.no ∧ mo < σ.no ∧ ∀ p ∈ Lo, p < σ.no
 up : ∀ (σ' : AS) (x' : Ma) (iv' ov' : AV) (Lo' : List Nat), x'.calls = x.calls → σ.no ≤ σ'.no → σ.nf ≤ σ'.nf → (∀ f, f < σ.nf → σ'.F f = σ.F f) → (∀ o, o < σ.no → o ≠ xo → o ≠ mo → o ∉ Lo → σ'.objs o = σ.objs o) →
  σ'.objs xo = some [fsv, .int .i64 mm, .int .i64 mn, iv', .slm mo 0 1 x'.memory.length, .slm co 0 4 x.calls.length, ov', .int .i64 x'.status, .int .i64 x'.code] → IntsV iv' x'.input → σ'.objs mo = some (bytesV x'.memory) → LocV σ' ov' x'.out Lo' → Lo'.Nodup → (∀ p ∈ Lo', p < σ'.no ∧ (p ∈ Lo ∨ σ.no ≤ p)) →
  RM fs mm mn xo σ0 O x' σ'
section
variable {G : Env} {fs : List F} {mm mn : Int} {xo : Nat} {σ0 σ : AS} {O : List Nat} {x : Ma} {cs : List Cl} {c : Cl} {R : Out → AS → Prop} {fsv iv ov : AV} {mo co : Nat} {Lo : List Nat}
theorem RM.bview (h : RM fs mm mn xo σ0 O x σ) : ∃ fsv iv ov mo co Lo, BView fs mm mn xo σ0 O x σ fsv iv ov mo co Lo := by
 have h0 := h
 obtain ⟨_, _, _, _, P, ⟨fsv, iv, mo, co, ov, Lo, rows, junk, a1, a2, a3, a4, a5, a6, a7, a8, a9, a10⟩, h6⟩ := h
 subst a8
 have hnd := a9
 rw [List.nodup_cons, List.nodup_cons, List.nodup_cons] at hnd
 obtain ⟨g1, g2, g3, g4⟩ := hnd
 simp only [List.mem_cons, List.mem_append, not_or] at g1 g2 g3
 have hd := nodup_mid (A := []) (B := Lo) (C := objsR rows) (by simpa using g4)
 refine ⟨fsv, iv, ov, mo, co, Lo, ⟨a1, a2, a3, a4, a5, ⟨g1.1, g1.2.2.1, g2.2.1, a10 xo (by simp), a10 mo (by simp), fun p hp => a10 p (by simp [hp])⟩, ?_⟩⟩
 intro σ' x' iv' ov' Lo' hc n1 n2 hf ho hx hi hm hl hnd' hp'
 have kc : σ'.objs co = σ.objs co := ho co (a10 co (by simp)) (fun e => g1.2.1 e.symm) (fun e => g2.1 e.symm) g3.1
 have kR : ∀ o ∈ objsR rows, σ'.objs o = σ.objs o := fun o hq => ho o (a10 o (by simp [hq])) (fun e => g1.2.2.2 (e ▸ hq)) (fun e => g2.2.2 (e ▸ hq)) (fun hh => hd.2.2.2 o hh hq)
 have kp : ∀ p ∈ Lo', p ∉ xo :: mo :: co :: objsR rows := fun p hp hh => by
  rcases (hp' p hp).2 with h | h
  ·simp only [List.mem_cons] at hh
   rcases hh with rfl | rfl | rfl | hh
   ·exact g1.2.2.1 h
   ·exact g2.2.1 h
   ·exact g3.1 h
   ·exact hd.2.2.2 p h hh
  ·have : p < σ.no := a10 p (by simp only [List.mem_cons, List.mem_append] at hh ⊢; rcases hh with h | h | h | h <;> simp [h])
   omega
 refine h0.to (P := xo :: mo :: co :: (Lo ++ objsR rows)) (P' := xo :: mo :: co :: (Lo' ++ objsR rows)) h6 n1 n2 hf (fun o q hq => ho o q (fun e => hq (by simp [e])) (fun e => hq (by simp [e])) (fun hh => hq (by simp [hh]))) ⟨fsv, iv', mo, co, ov', Lo', rows, junk, ?_, a2, hi, hm, hl, kc.trans a6, ?_, rfl, ?_, ?_⟩ (fun p hp => ?_)
 ·rw [hx, hc]
 ·rw [hc]; exact rows_keep a7 kR
 ·have hA : (xo :: mo :: co :: objsR rows).Nodup := a9.sublist (List.Sublist.cons_cons _ (List.Sublist.cons_cons _ (List.Sublist.cons_cons _ (List.sublist_append_right _ _))))
  have hB : (Lo' ++ (xo :: mo :: co :: objsR rows)).Nodup := by
   rw [List.nodup_append]
   exact ⟨hnd', hA, fun a ha b hb e => kp a ha (e ▸ hb)⟩
  refine (List.Perm.nodup_iff ?_).1 hB
  exact (List.perm_append_comm_assoc Lo' [xo, mo, co] (objsR rows)) |>.trans (by simp)
 ·intro p hp
  simp only [List.mem_cons, List.mem_append] at hp
  have old : p ∈ xo :: mo :: co :: (Lo ++ objsR rows) → p < σ'.no := fun h => by have := a10 p h; omega
  rcases hp with h | h | h | h | h
  ·exact old (by simp [h])
  ·exact old (by simp [h])
  ·exact old (by simp [h])
  ·exact (hp' p h).1
  ·exact old (by simp [h])
 ·simp only [List.mem_cons, List.mem_append] at hp ⊢
  rcases hp with h | h | h | h | h
  ·simp [h]
  ·simp [h]
  ·simp [h]
  ·rcases (hp' p h).2 with h | h <;> simp [h]
  ·simp [h]
theorem ends_calls {s cd : Int} (h : RM fs mm mn xo σ0 O x σ) (hR : ∀ σ', RM fs mm mn xo σ0 O (x.ends s cd) σ' → R (.ret (.tuple [])) σ') : ACalls Tryz.prog G 27 [.ptr xo 0, .int .i64 s, .int .i64 cd] σ R := by
 refine calls27 rfl ?_
 obtain ⟨fsv, iv, ov, mo, co, Lo, V⟩ := h.bview
 have v1 := V.ox
 have s1 := V.hfs.one
 have s2 := V.hi.one
 have s3 := V.hov.one
 obtain ⟨n1, n2, n3, n4, n5, n6⟩ := V.ne
 simp [pc27, v1, splice]
 refine hR _ (V.up _ (x.ends s cd) iv ov Lo rfl (by simp) (by simp) (fun _ _ => rfl) (fun o _ h1 h2 h3 => by simp [h1]) (by simp [Ma.ends]) V.hi (by simp [Ma.ends, Ne.symm n1]; exact V.om) (V.hov.keep fun o ho => ?_) ?_ fun p hp => ⟨by simpa using n6 p hp, .inl hp⟩)
 ·have : o ≠ xo := fun e => n2 (e ▸ ho)
  simp [this]
 ·rcases V.hov with ⟨_, _, h⟩ | ⟨o, _, _, h⟩ <;> simp [h]
end
end Go.Proofs.YthifgodgfhbnfaaGreatDoor.Rf
set_option linter.unusedSimpArgs false
set_option linter.unusedVariables false
namespace Go.Proofs.YthifgodgfhbnfaaGreatDoor.Rf
open Go Go.Abs Go.Proofs.YthifgodgfhbnfaaGreatDoor
section
variable {G : Env} {fs : List F} {mm mn : Int} {xo : Nat} {σ0 σ : AS} {O : List Nat} {x : Ma} {cs : List Cl} {c : Cl} {R : Out → AS → Prop} {fsv iv ov : AV} {mo co : Nat} {Lo : List Nat}
theorem LocV.nodup {σ v l L} (h : LocV σ v l L) : L.Nodup := by
 rcases h with ⟨_, _, h⟩ | ⟨o, _, _, h⟩ <;> simp [h]
theorem BView.mem (V : BView fs mm mn xo σ0 O x σ fsv iv ov mo co Lo) {m : List UInt8} (hl : m.length = x.memory.length) : RM fs mm mn xo σ0 O { x with memory := m } (σ.setO mo (bytesV m)) := by
 obtain ⟨n1, n2, n3, n4, n5, n6⟩ := V.ne
 refine V.up _ { x with memory := m } iv ov Lo rfl (by simp) (by simp) (fun _ _ => rfl) (fun o _ h1 h2 h3 => by simp [h2]) (by simp [n1]; rw [V.ox, hl]) V.hi (by simp) (V.hov.keep fun o ho => ?_) V.hov.nodup fun p hp => ⟨by simpa using n6 p hp, .inl hp⟩
 have : o ≠ mo := fun e => n3 (e ▸ ho)
 simp [this]
theorem there_calls {at_ n : Int} (h : RM fs mm mn xo σ0 O x σ) (hat : inT 1 at_ = true) (hn : 1 ≤ n ∧ n ≤ 8) (hm : x.memory.length ≤ 2 ^ 40) (hf : (at_ < 0 ∨ (x.memory.length : Int) - n < at_) → ∀ σ', RM fs mm mn xo σ0 O (x.ends 2 3) σ' → R (.ret (.bool false)) σ')
  (ht : ¬ (at_ < 0 ∨ (x.memory.length : Int) - n < at_) → R (.ret (.bool true)) σ) : ACalls Tryz.prog G 90 [.ptr xo 0, .int .i64 at_, .int .i64 n] σ R := by
 refine calls90 rfl ?_
 obtain ⟨fsv, iv, ov, mo, co, Lo, V⟩ := h.bview
 have v1 := V.ox
 have hr := inT1 hat
 have w1 : IntKind.wrap .i64 (at_ + n) = at_ + n := by rw [wrap_i64] <;> omega
 by_cases h1 : at_ < 0
 ·simp [pc90, h1]
  refine ends_calls h fun σ' h' => ?_
  simp
  exact hf (.inl h1) _ h'
 ·by_cases h2 : (x.memory.length : Int) < at_ + n
  ·simp [pc90, h1, v1, w1, h2]
   refine ends_calls h fun σ' h' => ?_
   simp
   exact hf (.inr (by omega)) _ h'
  ·simp [pc90, h1, v1, w1, h2]
   exact ht (by omega)
theorem numOf_drop {l : List UInt8} {i : Nat} (h : i < l.length) : numOf (l.drop i) = (l[i].toNat : Int) + 256 * numOf (l.drop (i + 1)) := by
 rw [List.drop_eq_getElem_cons h]; rfl
theorem horner (X c : Int) : IntKind.i64.wrap (IntKind.i64.wrap (256 * IntKind.i64.wrap X) + c) = IntKind.i64.wrap (c + 256 * X) := by
 rw [wrap64_eq, wrap64_eq, wrap64_eq, wrap64_eq]; omega
theorem loadW_eq {l : List UInt8} (h : l.length = 1 ∨ l.length = 4 ∨ l.length = 8) : loadW l = wrapT (if l.length = 4 then 1 else if l.length = 1 then 3 else 2) (IntKind.i64.wrap (numOf l)) := by
 have hr : 0 ≤ numOf l ∧ numOf l < 2 ^ (8 * l.length) := by
  clear h
  induction l with
  | nil => simp [numOf]
  | cons c r ih =>
   have := c.toNat_lt
   have e : (2 : Int) ^ (8 * (c :: r).length) = 256 * 2 ^ (8 * r.length) := by
    rw [List.length_cons, Nat.mul_add, Int.pow_add, Int.mul_comm]; rfl
   rw [e, numOf]
   generalize (2 : Int) ^ (8 * r.length) = P at *
   omega
 unfold loadW
 rcases h with h | h | h <;> rw [h] at hr ⊢ <;> simp [wrapT] <;> simp at hr
 ·rw [wrap64_eq, wrap8_eq]; split <;> split <;> split <;> omega
 ·rw [wrap64_eq, wrap32_eq]; split <;> split <;> split <;> omega
 ·rw [wrap64_eq]; split <;> split <;> omega
def LDI (xo : Nat) (l : List UInt8) (at_ n : Int) (a : Nat → AV) : Prop := ∃ j : Nat, j ≤ l.length ∧ a 0 = .ptr xo 0 ∧ a 1 = .int .i64 at_ ∧ a 2 = .int .i64 n ∧ a 6 = .int .i64 (IntKind.i64.wrap (numOf (l.drop j))) ∧ a 7 = .int .i64 ((j : Int) - 1)
set_option maxHeartbeats 1000000 in
theorem load_calls {at_ n : Int} (h : RM fs mm mn xo σ0 O x σ) (hc : x.calls = cs ++ [c]) (hb1 : cs.length ≤ 40) (hb2 : c.stack.length ≤ 2 ^ 40) (hat : inT 1 at_ = true) (hn : n = 1 ∨ n = 4 ∨ n = 8) (hm : x.memory.length ≤ 2 ^ 40)
  (hf : (at_ < 0 ∨ (x.memory.length : Int) - n < at_) → ∀ σ', RM fs mm mn xo σ0 O (x.ends 2 3) σ' → R (.ret (.tuple [])) σ')
  (ht : ¬ (at_ < 0 ∨ (x.memory.length : Int) - n < at_) → ∀ σ', RM fs mm mn xo σ0 O (x.setTop { c with stack := c.stack ++ [loadW ((x.memory.drop at_.toNat).take n.toNat)] }) σ' → R (.ret (.tuple [])) σ') : ACalls Tryz.prog G 61 [.ptr xo 0, .int .i64 at_, .int .i64 n] σ R := by
 refine calls61 rfl ?_
 simp [pc61]
 refine there_calls h hat (by omega) hm (fun q σ' h' => ?_) (fun q => ?_)
 ·simp
  exact hf q _ h'
 ·have ht2 := ht q
  clear hf ht
  obtain ⟨fsv, iv, ov, mo, co, Lo, V⟩ := h.bview
  have v1 := V.ox
  have v2 := V.om
  obtain ⟨p, hp⟩ := Int.eq_ofNat_of_zero_le (show 0 ≤ at_ by omega)
  obtain ⟨N, hN⟩ := Int.eq_ofNat_of_zero_le (show 0 ≤ n by omega)
  subst hp hN
  simp only [Int.toNat_natCast] at ht2
  have hl : ((x.memory.drop p).take N).length = N := by simp; omega
  have hget : ∀ i, i < N → x.memory[p + i]? = some (((x.memory.drop p).take N).getD i 0) := fun i hi => by
   rw [List.getD_eq_getElem?_getD, List.getElem?_take, if_pos hi, List.getElem?_drop]
   rw [List.getElem?_eq_getElem (by omega)]; rfl
  generalize (x.memory.drop p).take N = l at *
  have hlw := loadW_eq (l := l) (by omega)
  have w0 : IntKind.wrap .i64 ((N : Int) - 1) = (N : Int) - 1 := by rw [wrap_i64] <;> omega
  simp [w0]
  refine aloop (fun a τ => LDI xo l p N a ∧ τ = σ) (MD 7) ⟨⟨l.length, Nat.le_refl _, by simp, by simp, by simp, by simp [numOf]; decide, by simp [hl]⟩, rfl⟩ fun a τ hI => ?_
  obtain ⟨⟨j, hj, a0, a1, a2, a6, a7⟩, rfl⟩ := hI
  cases j with
  | zero =>
   simp only [List.drop_zero] at a6
   have fin : ∀ t : Int, t = (if l.length = 4 then 1 else if l.length = 1 then 3 else 2) → ACalls Tryz.prog G 60 [.int .i64 t, .int .i64 (IntKind.i64.wrap (numOf l))] τ fun o σ' => o = .ret (.int .i64 (loadW l)) ∧ σ' = τ := fun t e => by
    refine wrapI_calls (wrap64_range _) ⟨?_, rfl⟩
    rw [hlw, e]
   rw [hl] at fin
   by_cases n1 : N = 1
   ·subst n1
    simp [pc61_l1, pc61_r1, a0, a2, a6, a7]
    refine (fin 3 (by simp)).mono ?_
    rintro o σ' ⟨rfl, rfl⟩
    simp
    refine push_calls h hc hb1 hb2 fun σ' h' => ?_
    simp
    exact ht2 _ h'
   ·by_cases n4 : N = 4
    ·subst n4
     simp [pc61_l1, pc61_r1, a0, a2, a6, a7]
     refine (fin 1 (by simp)).mono ?_
     rintro o σ' ⟨rfl, rfl⟩
     simp
     refine push_calls h hc hb1 hb2 fun σ' h' => ?_
     simp
     exact ht2 _ h'
    ·have n8 : N = 8 := by omega
     subst n8
     simp [pc61_l1, pc61_r1, a0, a2, a6, a7]
     refine (fin 2 (by simp)).mono ?_
     rintro o σ' ⟨rfl, rfl⟩
     simp
     refine push_calls h hc hb1 hb2 fun σ' h' => ?_
     simp
     exact ht2 _ h'
  | succ i =>
   have e0 : ((i + 1 : Nat) : Int) - 1 = (i : Int) := by rw [Int.natCast_succ]; exact Int.add_sub_cancel (i : Int) 1
   have a7' : a 7 = .int .i64 (i : Int) := by rw [a7, e0]
   have hi : i < l.length := by omega
   have hg := hget i (by omega)
   have hgd : l.getD i 0 = l[i] := by rw [List.getD_eq_getElem?_getD, List.getElem?_eq_getElem hi]; rfl
   rw [hgd] at hg
   have hh := horner (numOf (l.drop (i + 1))) (l[i].toNat : Int)
   rw [← numOf_drop hi] at hh
   have w1 : IntKind.wrap .i64 ((p : Int) + (i : Int)) = ((p + i : Nat) : Int) := by rw [wrap_i64] <;> omega
   have w2 : IntKind.wrap .i64 ((i : Int) - 1) = (i : Int) - 1 := by rw [wrap_i64] <;> omega
   have hmi : (bytesV x.memory)[p + i]? = some (.int .u8 l[i].toNat) := by simp [bytesV, hg]
   have hpi : ((p : Int) + (i : Int)).toNat = p + i := by omega
   have w3 : IntKind.i64.wrap (l[i].toNat : Int) = (l[i].toNat : Int) := by
    have := l[i].toNat_lt
    rw [wrap_i64] <;> omega
   generalize l[i] = b at *
   simp [pc61_l1, a0, a1, a2, a6, a7', v1, v2, w1, w2, hmi, hpi, w3, hh]
   refine ⟨by omega, by omega, ⟨i, by omega, by simp [a0], by simp [a1], by simp [a2], by simp, by simp⟩, ?_⟩
   simp only [MD, a7']; simp
theorem natOf_byte {v : Int} {i : Nat} (h : i < 8) : ((natOf v / 2 ^ (8 * i)) % 256 : Nat) = (byteW v i).toNat := by
 have e := byteW_toNat v i
 have p : (0 : Int) ≤ 2 ^ (8 * i) := Int.le_of_lt (Int.pow_pos (by decide))
 rw [Int.fdiv_eq_ediv_of_nonneg _ p] at e
 have u8 : ∀ z : Int, IntKind.u8.wrap z = z % 256 := fun z => by simp [IntKind.wrap, IntKind.bits, IntKind.signed]
 rw [u8] at e
 have hn : (natOf v : Int) = v % 2 ^ 64 := Int.toNat_of_nonneg (Int.emod_nonneg _ (by decide))
 have : (((natOf v / 2 ^ (8 * i)) % 256 : Nat) : Int) = v / 2 ^ (8 * i) % 256 := by
  rw [Int.natCast_emod, Int.natCast_ediv, hn]
  rw [show (((2 ^ (8 * i) : Nat) : Int)) = 2 ^ (8 * i) by norm_cast]
  rcases i with _ | _ | _ | _ | _ | _ | _ | _ | i
  ·simp
  ·simp; omega
  ·simp; omega
  ·simp; omega
  ·simp; omega
  ·simp; omega
  ·simp; omega
  ·simp; omega
  ·omega
 omega
theorem BView.memB (V : BView fs mm mn xo σ0 O x σ fsv iv ov mo co Lo) {m : List UInt8} (hl : m.length = x.memory.length) : BView fs mm mn xo σ0 O { x with memory := m } (σ.setO mo (bytesV m)) fsv iv ov mo co Lo := by
 obtain ⟨n1, n2, n3, n4, n5, n6⟩ := V.ne
 have k : ∀ o, o ≠ mo → (σ.setO mo (bytesV m)).objs o = σ.objs o := fun o h => by simp [h]
 refine ⟨by rw [k xo n1, V.ox]; simp [hl], V.hfs, V.hi, by simp, V.hov.keep fun o ho => k o fun e => n3 (e ▸ ho), by simpa using V.ne, ?_⟩
 intro σ' x' iv' ov' Lo' h1 h2 h3 h4 h5 h6 h7 h8 h9 h10 h11
 exact V.up σ' x' iv' ov' Lo' h1 (by simpa using h2) (by simpa using h3) (fun f hf => by simpa using h4 f (by simpa using hf)) (fun o ho hx hm hL => (h5 o (by simpa using ho) hx hm hL).trans (k o hm)) h6 h7 h8 h9 h10 (fun p hp => by simpa using h11 p hp)
def SRI (fs : List F) (mm mn : Int) (xo : Nat) (σ0 : AS) (O : List Nat) (x : Ma) (at_ n : Nat) (v : Int) (fsv iv ov : AV) (mo co : Nat) (Lo : List Nat) (a : Nat → AV) (τ : AS) : Prop := ∃ i : Nat, i ≤ n ∧ a 0 = .ptr xo 0 ∧ a 1 = .int .i64 (at_ : Int) ∧ a 2 = .int .i64 (n : Int) ∧ a 8 = .int .u64 ((natOf v / 2 ^ (8 * i) : Nat) : Int) ∧ a 9 = .int .i64 (i : Int) ∧
 BView fs mm mn xo σ0 O { x with memory := writeW x.memory at_ v i } τ fsv iv ov mo co Lo ∧ RM fs mm mn xo σ0 O { x with memory := writeW x.memory at_ v i } τ
set_option maxHeartbeats 1000000 in
theorem store_calls {at_ n v : Int} (h : RM fs mm mn xo σ0 O x σ) (hat : inT 1 at_ = true) (hn : n = 1 ∨ n = 4 ∨ n = 8) (hm : x.memory.length ≤ 2 ^ 40)
  (hf : (at_ < 0 ∨ (x.memory.length : Int) - n < at_) → ∀ σ', RM fs mm mn xo σ0 O (x.ends 2 3) σ' → R (.ret (.tuple [])) σ')
  (ht : ¬ (at_ < 0 ∨ (x.memory.length : Int) - n < at_) → ∀ σ', RM fs mm mn xo σ0 O { x with memory := writeW x.memory at_.toNat v ((x.memory.drop at_.toNat).take n.toNat).length } σ' → R (.ret (.tuple [])) σ') : ACalls Tryz.prog G 62 [.ptr xo 0, .int .i64 at_, .int .i64 n, .int .i64 v] σ R := by
 refine calls62 rfl ?_
 simp [pc62]
 refine there_calls h hat (by omega) hm (fun q σ' h' => ?_) (fun q => ?_)
 ·simp
  exact hf q _ h'
 ·have ht2 := ht q
  clear hf ht
  obtain ⟨fsv, iv, ov, mo, co, Lo, V⟩ := h.bview
  obtain ⟨p, hp⟩ := Int.eq_ofNat_of_zero_le (show 0 ≤ at_ by omega)
  obtain ⟨N, hN⟩ := Int.eq_ofNat_of_zero_le (show 0 ≤ n by omega)
  subst hp hN
  simp only [Int.toNat_natCast] at ht2
  have hl : ((x.memory.drop p).take N).length = N := by simp; omega
  rw [hl] at ht2
  simp [natOf_eq]
  refine aloop (SRI fs mm mn xo σ0 O x p N v fsv iv ov mo co Lo) (MU 9 (N + 1)) ⟨0, by omega, by simp, by simp, by simp, by simp, by simp, by rw [writeW_zero]; exact V, by rw [writeW_zero]; exact h⟩ fun a τ hI => ?_
  obtain ⟨i, hi, a0, a1, a2, a8, a9, V', h'⟩ := hI
  by_cases hlt : i < N
  ·have v1 := V'.ox
   have v2 := V'.om
   have hwl : (writeW x.memory p v i).length = x.memory.length := writeW_length (by omega)
   have hb := natOf_byte (v := v) (i := i) (by omega)
   obtain ⟨Z, hZ⟩ : ∃ Z, Z = natOf v / 2 ^ (8 * (i + 1)) := ⟨_, rfl⟩
   have e3 : natOf v / 2 ^ (8 * (i + 1)) = (natOf v / 2 ^ (8 * i)) / 256 := by
    rw [Nat.mul_add, Nat.pow_add, ← Nat.div_div_eq_div_mul]
   have hlt64 : natOf v / 2 ^ (8 * i) < 2 ^ 64 := Nat.lt_of_le_of_lt (Nat.div_le_self _ _) (natOf_lt v)
   have nx : BView fs mm mn xo σ0 O { x with memory := writeW x.memory p v (i + 1) } (τ.setO mo (bytesV (writeW x.memory p v (i + 1)))) fsv iv ov mo co Lo ∧ RM fs mm mn xo σ0 O { x with memory := writeW x.memory p v (i + 1) } (τ.setO mo (bytesV (writeW x.memory p v (i + 1)))) := by
    have hl2 : (writeW x.memory p v (i + 1)).length = (writeW x.memory p v i).length := by rw [hwl, writeW_length (by omega)]
    exact ⟨V'.memB hl2, V'.mem hl2⟩
   have es : splice (bytesV (writeW x.memory p v i)) (p + i) [.int .u8 (byteW v i).toNat] = bytesV (writeW x.memory p v (i + 1)) := by
    rw [splice_one (by simp [bytesV, hwl]; omega), writeW_succ (by omega)]
    simp [bytesV, List.map_set]
   rw [← hZ] at e3
   generalize natOf v / 2 ^ (8 * i) = Y at *
   have e1 : ((Y : Int)).tdiv 256 = (Z : Int) := by
    rw [Int.tdiv_eq_ediv_of_nonneg (by omega), e3]; rfl
   have e2 : IntKind.u64.wrap (Z : Int) = (Z : Int) := u64_nat (by omega)
   have e4 : ((Y : Int)).tmod 256 = (((byteW v i).toNat : Nat) : Int) := by
    rw [Int.tmod_eq_emod_of_nonneg (by omega), ← hb]; rfl
   have e5 : IntKind.u8.wrap (((byteW v i).toNat : Nat) : Int) = (((byteW v i).toNat : Nat) : Int) := by
    have := (byteW v i).toNat_lt
    simp [IntKind.wrap, IntKind.bits, IntKind.signed]; omega
   have w1 : IntKind.wrap .i64 ((p : Int) + (i : Int)) = ((p + i : Nat) : Int) := by rw [wrap_i64] <;> omega
   have w3 : IntKind.wrap .i64 ((i : Int) + 1) = ((i + 1 : Nat) : Int) := by rw [wrap_i64] <;> omega
   have hpi : ((p : Int) + (i : Int)).toNat = p + i := by omega
   simp only at v1 v2
   rw [hwl] at v1
   generalize byteW v i = b at *
   simp [pc62_l1, a0, a1, a2, a8, a9, hlt, v1, v2, w1, w3, hpi, e1, e2, e4, e5]
   refine ⟨by omega, by omega, by simp [bytesV, hwl]; omega, ⟨i + 1, by omega, by simp [a0], by simp [a1], by simp [a2], by simp [← hZ], by simp, ?_⟩, ?_⟩
   ·rw [es]; exact nx
   ·simp only [MU, a9]; simp; omega
  ·have he : i = N := by omega
   subst he
   simp [pc62_l1, a2, a9]
   exact ht2 _ h'
end
end Go.Proofs.YthifgodgfhbnfaaGreatDoor.Rf
set_option linter.unusedSimpArgs false
set_option linter.unusedVariables false
namespace Go.Proofs.YthifgodgfhbnfaaGreatDoor.Rf
open Go Go.Abs Go.Proofs.YthifgodgfhbnfaaGreatDoor
def OwnOr (R : Out → AS → Prop) (o : Out) (σ' : AS) : Prop := R o σ' ∨ ∃ g fo j sz b cs xs, σ'.F g = .alive ∧ σ'.objs fo = some cs ∧ cs[j]? = some (.sl (.fam g b) sz xs) ∧ R o (σ'.own g fo (cs.set j (.slm σ'.no 0 sz xs.length)) (flat xs))
theorem owning {P : Program} {G : Env} {f : FuncId} {args : List AV} {σ : AS} {R : Out → AS → Prop} (h : ACalls P G f args σ (OwnOr R)) : ACalls P G f args σ R := ownAt h
theorem OwnOr.own {R : Out → AS → Prop} {o : Out} {σ' : AS} (g fo j sz : Nat) (b : Bool) (cs xs : List AV) (h1 : σ'.F g = .alive) (h2 : σ'.objs fo = some cs) (h3 : cs[j]? = some (.sl (.fam g b) sz xs)) (h4 : R o (σ'.own g fo (cs.set j (.slm σ'.no 0 sz xs.length)) (flat xs))) : OwnOr R o σ' := .inr ⟨g, fo, j, sz, b, cs, xs, h1, h2, h3, h4⟩
section
variable {G : Env} {fs : List F} {mm mn : Int} {xo : Nat} {σ0 σ : AS} {O : List Nat} {x : Ma} {cs : List Cl} {c : Cl} {R : Out → AS → Prop} {fsv iv ov : AV} {mo co : Nat} {Lo : List Nat} {cc : List AV} {lv sv opv : AV} {L1 L2 : List Nat}
theorem View.opened (V : View fs mm mn xo σ0 O x σ cs c fsv iv ov mo co cc lv sv opv L1 L2) {σ' : AS} {l' : List Opn} {j1 j2 : List AV} (h1 : σ'.no = σ.no + 1) (h2 : σ.nf ≤ σ'.nf) (h3 : ∀ f, f < σ.nf → σ'.F f = σ.F f) (h4 : ∀ o, o < σ.no → o ≠ co → o ∉ L2 → σ'.objs o = σ.objs o)
  (h5 : σ'.objs σ.no = some (oCs l' ++ j1)) (h6 : σ'.objs co = some (cc.take (cs.length * 4) ++ ([.int .i64 c.f, lv, sv, .slm σ.no 0 4 l'.length] ++ j2))) : RM fs mm mn xo σ0 O (x.setTop { c with opn := l' }) σ' := by
 obtain ⟨t1, t2, t3, t4, t5, t6, t7, t8, t9, t10, t11⟩ := V.tops
 refine V.up σ' _ { c with opn := l' } lv sv _ L1 [σ.no] j2 (by omega) h2 h3 (fun o q1 q2 q3 => h4 o q1 q2 fun e => q3 (by simp [e])) h6 rfl (V.hl.keep fun o ho => h4 o (t11 o (by simp [ho])) (fun e => t2 (by simp [← e, ho])) (t8 o ho)) V.hs (.inr ⟨σ.no, j1, rfl, h5, rfl⟩) ?_ fun p hp => ?_
 ·rw [List.nodup_append]
  refine ⟨(List.nodup_append.1 t7).1, by simp, fun a ha b hb e => ?_⟩
  have := t11 a (by simp [ha])
  simp at hb
  omega
 ·simp only [List.mem_append, List.mem_singleton] at hp
  rcases hp with hp | hp
  ·exact ⟨by have := t11 p (by simp [hp]); omega, .inl (by simp [hp])⟩
  ·exact ⟨by omega, .inr (by omega)⟩
theorem View.openOld (V : View fs mm mn xo σ0 O x σ cs c fsv iv ov mo co cc lv sv opv L1 L2) {σ' : AS} {l' : List Opn} {j2 : List AV} {v' : AV} (h1 : σ'.no = σ.no) (h2 : σ.nf ≤ σ'.nf) (h3 : ∀ f, f < σ.nf → σ'.F f = σ.F f) (h4 : ∀ o, o < σ.no → o ≠ co → o ∉ L2 → σ'.objs o = σ.objs o)
  (h5 : OpnV σ' v' l' L2) (h6 : σ'.objs co = some (cc.take (cs.length * 4) ++ ([.int .i64 c.f, lv, sv, v'] ++ j2))) : RM fs mm mn xo σ0 O (x.setTop { c with opn := l' }) σ' := by
 obtain ⟨t1, t2, t3, t4, t5, t6, t7, t8, t9, t10, t11⟩ := V.tops
 exact V.up σ' _ { c with opn := l' } lv sv _ L1 L2 j2 (by omega) h2 h3 (fun o q1 q2 q3 => h4 o q1 q2 fun e => q3 (by simp [e])) h6 rfl (V.hl.keep fun o ho => h4 o (t11 o (by simp [ho])) (fun e => t2 (by simp [← e, ho])) (t8 o ho)) V.hs h5 t7 fun p hp => ⟨by have := t11 p hp; omega, .inl hp⟩
theorem oCs_snoc (l : List Opn) (o : Opn) : oCs (l ++ [o]) = oCs l ++ oC o := by simp [oCs]
theorem oCs_length (l : List Opn) : (oCs l).length = l.length * 4 := by
 induction l with
 | nil => rfl
 | cons o l ih => simp only [oCs, List.flatMap_cons, List.length_append] at ih ⊢; rw [ih]; simp [oC]; omega
theorem View.open3 (V : View fs mm mn xo σ0 O x σ cs c fsv iv ov mo co cc lv sv opv L1 L2) (v : AV) : splice cc (cs.length * 4 + 3) [v] = cc.take (cs.length * 4) ++ ([.int .i64 c.f, lv, sv, v] ++ cc.drop (cs.length * 4 + 4)) := by
 obtain ⟨s1, s2⟩ := V.split
 conv => lhs; rw [s1]
 exact (splice_row s2).2.1
theorem View.open3' (V : View fs mm mn xo σ0 O x σ cs c fsv iv ov mo co cc lv sv opv L1 L2) (v : AV) : cc.take (cs.length * 4 + 3) ++ v :: cc.drop (cs.length * 4 + 3 + 1) = cc.take (cs.length * 4) ++ ([.int .i64 c.f, lv, sv, v] ++ cc.drop (cs.length * 4 + 4)) := by
 rw [← V.open3 v]; simp [splice]
theorem set_row {n : Nat} {p j : List AV} {a b d e v : AV} (h : p.length = n) : (p ++ ([a, b, d, e] ++ j)).set (n + 3) v = p ++ ([a, b, d, v] ++ j) ∧ (p ++ ([a, b, d, e] ++ j))[n + 3]? = some e := by
 subst h
 refine ⟨?_, ?_⟩
 ·rw [List.set_append_right _ _ (by omega)]; simp
 ·rw [List.getElem?_append_right (by omega)]; simp
theorem opens_calls {l : Int} {b : Bool} (h : RM fs mm mn xo σ0 O x σ) (hc : x.calls = cs ++ [c]) (hb1 : cs.length ≤ 40) (hb2 : c.stack.length ≤ 2 ^ 40) (hb3 : c.opn.length ≤ 2 ^ 40)
  (hR : ∀ σ', RM fs mm mn xo σ0 O (x.setTop { c with opn := c.opn ++ [⟨l, 0, c.stack.length, b⟩] }) σ' → R (.ret (.tuple [])) σ') : ACalls Tryz.prog G 24 [.ptr xo 0, .int .i64 l, .bool b] σ R := by
 refine owning (calls24 rfl ?_)
 obtain ⟨fsv, iv, ov, mo, co, cc, lv, sv, opv, L1, L2, V⟩ := h.view hc
 have v1 := V.ox
 have v2 := V.oc
 have v3 := V.c2
 have v4 := V.c3
 have v5 := V.len
 have s1 := V.hs.one
 have s2 := V.hs.len
 have w1 : IntKind.wrap .i64 (cs.length : Int) = (cs.length : Int) := by rw [wrap_i64] <;> omega
 obtain ⟨t1, t2, t3, t4, t5, t6, t7, t8, t9, t10, t11⟩ := V.tops
 rcases V.ho with ⟨ho, rfl, hL⟩ | ⟨oo, j, rfl, ho, hL⟩
 ·simp [pc24, v1, v2, v3, v4, w1, s1, s2, splice]
  have p2 := V.split.2
  refine ⟨by omega, by omega, ?_⟩
  simp only [V.open3']
  refine .own σ.nf co (cs.length * 4 + 3) 4 false _ _ (by simp) (by rw [setO_objs, upd_same]) (set_row (v := .nilp) p2).2 ?_
  rw [(set_row p2).1]
  rw [ho] at hR
  refine hR _ (V.opened (l' := [⟨l, 0, c.stack.length, b⟩]) (j1 := []) (j2 := cc.drop (cs.length * 4 + 4)) (by simp) (by simp) (fun f hf => ?_) (fun o q1 q2 q3 => ?_) ?_ ?_)
  ·simp; rw [if_neg (by omega), if_neg (by omega)]
  ·simp [q2]; intro e; omega
  ·simp [oCs, oC, flat]
  ·have : ¬ co = σ.no := by omega
   simp [this]
 ·have n1 : ¬ xo = oo := fun e => t3 (by simp [hL, e])
  have n2 : ¬ co = oo := fun e => t2 (by simp [hL, e])
  have n3 : ¬ xo = σ.no := by omega
  have n4 : ¬ co = σ.no := by omega
  have e1 : (oCs c.opn ++ j).take (c.opn.length * 4) = oCs c.opn := by rw [← oCs_length, List.take_left]
  have e2 := oCs_length c.opn
  simp [pc24, v1, v2, v3, v4, w1, s1, s2, ho, n1, n2, n3, n4, splice, -List.length_append]
  refine ⟨by omega, by omega, by rw [List.length_append, e2]; omega, by omega, by omega, .inl ?_⟩
  rw [V.open3', e1]
  refine hR _ (V.opened (l' := c.opn ++ [⟨l, 0, c.stack.length, b⟩]) (j1 := []) (j2 := cc.drop (cs.length * 4 + 4)) (by simp) (by simp; omega) (fun f hf => ?_) (fun o q1 q2 q3 => ?_) ?_ ?_)
  ·simp only [setO_F]; exact moveO_fam σ hf
  ·have q4 : o ≠ oo := fun e => q3 (by simp [hL, e])
   have q5 : o ≠ σ.no := by omega
   simp [q2, q4, q5]
  ·have q6 : ¬ σ.no = co := by omega
   simp [q6, oCs_snoc, oC, flat]
  ·simp
end
end Go.Proofs.YthifgodgfhbnfaaGreatDoor.Rf
set_option linter.unusedSimpArgs false
set_option linter.unusedVariables false
namespace Go.Proofs.YthifgodgfhbnfaaGreatDoor.Rf
open Go Go.Abs Go.Proofs.YthifgodgfhbnfaaGreatDoor
section
variable {G : Env} {fs : List F} {mm mn : Int} {xo : Nat} {σ0 σ : AS} {O : List Nat} {x : Ma} {cs : List Cl} {c : Cl} {R : Out → AS → Prop} {fsv iv ov : AV} {mo co : Nat} {Lo : List Nat} {cc : List AV} {lv sv opv : AV} {L1 L2 : List Nat}
theorem RSt.adds {σ1 : AS} {P : List Nat} (h : RSt fs mm mn xo x σ P) (A : Adds σ σ1) : RSt fs mm mn xo x σ1 P := by
 obtain ⟨fsv, iv, mo, co, ov, Lo, rows, junk, a1, a2, a3, a4, a5, a6, a7, a8, a9, a10⟩ := h
 have k : ∀ p ∈ P, σ1.objs p = σ.objs p := fun p hp => A.obj p (a10 p hp)
 have n1 := A.no
 subst a8
 exact ⟨fsv, iv, mo, co, ov, Lo, rows, junk, (k xo (by simp)).trans a1, a2, a3, (k mo (by simp)).trans a4, a5.keep fun o ho => k o (by simp [ho]), (k co (by simp)).trans a6, rows_keep a7 fun o ho => k o (by simp [ho]), rfl, a9, fun p hp => by have := a10 p hp; omega⟩
theorem RM.anchorAt {σ1 : AS} (h : RM fs mm mn xo σ0 O x σ) (A : Adds σ σ1) : ∃ O', RM fs mm mn xo σ1 O' x σ1 ∧ (∀ x' σ', RM fs mm mn xo σ1 O' x' σ' → RM fs mm mn xo σ0 O x' σ') ∧ ∀ p ∈ O', p < σ.no := by
 obtain ⟨h1, h2, h3, h4, P, hs, h6⟩ := h
 have hs1 := hs.adds A
 have hlt : ∀ p ∈ P, p < σ.no := by obtain ⟨_, _, _, _, _, _, _, _, _, _, _, _, _, _, _, _, _, a10⟩ := hs; exact a10
 have n1 := A.no
 have n2 := A.nf
 refine ⟨P, ⟨Nat.le_refl _, Nat.le_refl _, fun _ _ => rfl, fun _ _ _ => rfl, P, hs1, fun p hp => .inl hp⟩, fun x' σ' k => ?_, hlt⟩
 have k1 := k.no
 have k2 := k.nf
 refine ⟨by omega, by omega, fun f hf => ?_, fun o ho hn => ?_, ?_⟩
 ·rw [k.fam f (by omega), A.fam f (by omega), h3 f hf]
 ·rw [k.obj o (by omega) (fun hp => (h6 o hp).elim hn fun h => by omega), A.obj o (by omega), h4 o ho hn]
 ·obtain ⟨P', h7, h8⟩ := k.st
  refine ⟨P', h7, fun p hp => ?_⟩
  rcases h8 p hp with h | h
  ·exact h6 p h
  ·right; omega
theorem RM.dropc {n : Nat} {ml : Nat} {st cd : AV} (h : RM fs mm mn xo σ0 O x σ) (hc : x.calls = cs ++ [c]) (ho : σ.objs xo = some [fsv, .int .i64 mm, .int .i64 mn, iv, .slm mo 0 1 ml, .slm co 0 4 n, ov, st, cd]) :
  RM fs mm mn xo σ0 O { x with calls := cs } (σ.setO xo [fsv, .int .i64 mm, .int .i64 mn, iv, .slm mo 0 1 ml, .slm co 0 4 cs.length, ov, st, cd]) := by
 have h0 := h
 obtain ⟨_, _, _, _, P, ⟨fsv', iv', mo', co', ov', Lo, rows, junk, a1, a2, a3, a4, a5, a6, a7, a8, a9, a10⟩, h6⟩ := h
 rw [ho] at a1
 simp only [Option.some.injEq, List.cons.injEq, AV.slm.injEq] at a1
 obtain ⟨rfl, -, -, rfl, ⟨rfl, -, -, rfl⟩, ⟨rfl, -⟩, rfl, rfl, rfl, -⟩ := a1
 rw [hc] at a7
 obtain ⟨rs, r, rfl, b1, b2⟩ := All2.snoc_inv a7
 rw [cellsR_snoc] at a6
 rw [objsR_snoc] at a8
 subst a8
 have hnd := a9
 rw [List.nodup_cons, List.nodup_cons, List.nodup_cons] at hnd
 obtain ⟨g1, g2, g3, g4⟩ := hnd
 simp only [List.mem_cons, List.mem_append, not_or] at g1 g2 g3
 have k : ∀ o, o ≠ xo → (σ.setO xo [fsv, .int .i64 mm, .int .i64 mn, iv, .slm mo 0 1 x.memory.length, .slm co 0 4 cs.length, ov, .int .i64 x.status, .int .i64 x.code]).objs o = σ.objs o := fun o q => by simp [q]
 refine h0.to (P := xo :: mo :: co :: (Lo ++ (objsR rs ++ r.2))) (P' := xo :: mo :: co :: (Lo ++ objsR rs)) h6 (by simp) (by simp) (fun _ _ => rfl) (fun o _ q => k o fun e => q (by simp [e])) ⟨fsv, iv, mo, co, ov, Lo, rs, r.1 ++ junk, by simp, a2, a3, (k mo (fun e => g1.1 e.symm)).trans a4, a5.keep fun o q => k o fun e => g1.2.2.1 (e ▸ q), ?_, rows_keep b1 fun o q => k o fun e => g1.2.2.2.1 (e ▸ q), rfl, ?_, fun p hp => ?_⟩ fun p hp => ?_
 ·rw [k co (fun e => g1.2.1 e.symm), a6]; simp
 ·refine a9.sublist (List.Sublist.cons_cons _ (List.Sublist.cons_cons _ (List.Sublist.cons_cons _ ?_)))
  rw [← List.append_assoc]; exact List.sublist_append_left _ _
 ·refine a10 p ?_
  simp only [List.mem_cons, List.mem_append] at hp ⊢
  rcases hp with h | h | h | h | h <;> simp [h]
 ·left
  simp only [List.mem_cons, List.mem_append] at hp ⊢
  rcases hp with h | h | h | h | h <;> simp [h]
theorem fnAt_some {fs : List F} {n : Int} {g : F} (h : fnAt fs n = some g) : ∃ i : Nat, n = (i : Int) ∧ ∃ hi : i < fs.length, fs[i] = g := by
 unfold fnAt at h
 split at h
 ·cases h
 ·obtain ⟨hi, e⟩ := List.getElem?_eq_some_iff.1 h
  exact ⟨n.toNat, by omega, hi, e⟩
theorem calls_split {x : Ma} {c : Cl} (h : x.calls.getLast? = some c) : x.calls = x.calls.dropLast ++ [c] := by
 obtain ⟨ys, e⟩ := List.getLast?_eq_some_iff.1 h
 rw [e]; simp
theorem topK_at {α : Type} {x : Ma} {k : Cl → Option α} (hc : x.calls = cs ++ [c]) : topK x k = k c := by simp [topK, hc]
theorem setTop_calls {x : Ma} {c' : Cl} (hc : x.calls = cs ++ [c]) : (x.setTop c').calls = cs ++ [c'] := by simp [Ma.setTop, hc]
theorem pushS_at {x : Ma} {v : Int} (hc : x.calls = cs ++ [c]) : pushS x v = some (x.setTop { c with stack := c.stack ++ [v] }) := topK_at hc
theorem popS_at {α : Type} {x : Ma} {k : Int → Ma → Option α} {r : α} (hc : x.calls = cs ++ [c]) (h : popS x k = some r) : ∃ v, c.stack.getLast? = some v ∧ k v (x.setTop { c with stack := c.stack.dropLast }) = some r := by
 unfold popS at h
 rw [topK_at hc] at h
 cases hv : c.stack.getLast? with
 | none => rw [hv] at h; cases h
 | some v => rw [hv] at h; exact ⟨v, rfl, h⟩
structure MB (N : Nat) (x : Ma) : Prop where
 n : N ≤ 2 ^ 38
 calls : x.calls.length ≤ 32
 st : ∀ c ∈ x.calls, c.stack.length + x.calls.length ≤ N
 op : ∀ c ∈ x.calls, c.opn.length ≤ N
 lo : ∀ c ∈ x.calls, c.locals.length ≤ 2 ^ 40
 out : x.out.length ≤ N
 inp : x.input.length ≤ 2 ^ 38
 mem : x.memory.length ≤ 2 ^ 38
set_option maxHeartbeats 1000000 in
theorem returns_calls {N : Nat} {x' : Ma} (h : RM fs mm mn xo σ0 O x σ) (hb : MB N x) (hr : returnsS fs x = some x') (hR : ∀ σ', RM fs mm mn xo σ0 O x' σ' → R (.ret (.tuple [])) σ') : ACalls Tryz.prog G 40 [.ptr xo 0] σ R := by
 refine calls40 rfl ?_
 unfold returnsS topK at hr
 cases hl : x.calls.getLast? with
 | none => rw [hl] at hr; cases hr
 | some c =>
 rw [hl] at hr
 simp only at hr
 have hc := calls_split hl
 generalize hcs : x.calls.dropLast = cs at *
 have hlen : x.calls.length = cs.length + 1 := by rw [hc]; simp
 have b1 := hb.calls
 have b2 := hb.st c (by rw [hc]; simp)
 have b3 := hb.n
 cases hg : fnAt fs c.f with
 | none => rw [hg] at hr; cases hr
 | some g =>
 rw [hg] at hr
 simp only at hr
 obtain ⟨i, hci, hi, hgi⟩ := fnAt_some hg
 obtain ⟨fsv, iv, ov, mo, co, cc, lv, sv, opv, L1, L2, V⟩ := h.view hc
 have v1 := V.ox
 have v2 := V.oc
 have v3 := V.c0
 have f1 := V.hfs.one
 obtain ⟨bb, gv, hgv, hix⟩ := V.hfs.at hi
 rw [hgi] at hgv
 obtain ⟨pv, gl, tv, rfl, hpv, hgl, htv⟩ := hgv
 have p1 := hpv.one
 have p2 := hgl.one
 have p3 := htv.one
 rw [hci] at v3
 have w1 : IntKind.wrap .i64 (cs.length : Int) = (cs.length : Int) := by rw [wrap_i64] <;> omega
 obtain ⟨t1, t2, t3, t4, t5, t6, t7, t8, t9, t10, t11⟩ := V.tops
 have n1 : ¬ xo = σ.no := by omega
 have n2 : ¬ co = σ.no := by omega
 have A1 : Adds σ ((σ.newO [AV.str [], AV.nilsl, AV.nilsl, AV.int IntKind.i64 0, AV.nilsl]).setO σ.no [AV.str g.name, pv, gl, AV.int IntKind.i64 g.type, tv]) := (Adds.refl σ).newO.setO (Nat.le_refl _)
 have o1 : ((σ.newO [AV.str [], AV.nilsl, AV.nilsl, AV.int IntKind.i64 0, AV.nilsl]).setO σ.no [AV.str g.name, pv, gl, AV.int IntKind.i64 g.type, tv]).objs σ.no = some [AV.str g.name, pv, gl, AV.int IntKind.i64 g.type, tv] := by simp
 have n3 : σ.no < ((σ.newO [AV.str [], AV.nilsl, AV.nilsl, AV.int IntKind.i64 0, AV.nilsl]).setO σ.no [AV.str g.name, pv, gl, AV.int IntKind.i64 g.type, tv]).no := by simp
 have w0 : (cs.length : Int) < (cs.length : Int) + 1 := by omega
 simp [pc40, v1, v2, v3, w1, f1, hix, p1, p2, p3, splice, n1, n2, w0]
 generalize (σ.newO [AV.str [], AV.nilsl, AV.nilsl, AV.int IntKind.i64 0, AV.nilsl]).setO σ.no [AV.str g.name, pv, gl, AV.int IntKind.i64 g.type, tv] = σ1 at *
 obtain ⟨O', k, back, hlt⟩ := h.anchorAt A1
 have nO : σ.no ∉ O' := fun q => by have := hlt _ q; omega
 have hcase : ∀ (y : Ma), y.calls = cs → cs ≠ [] → ∃ cs2 c2, y.calls = cs2 ++ [c2] ∧ cs2.length ≤ 40 ∧ c2 ∈ cs := fun y hy hn => by
  obtain ⟨cs2, c2, e⟩ := List.eq_nil_or_concat cs |>.resolve_left hn
  refine ⟨cs2, c2, by rw [hy, e]; simp, ?_, by rw [e]; simp⟩
  have : cs.length = cs2.length + 1 := by rw [e]; simp
  omega
 by_cases ht : g.type = 0
 ·rw [if_neg (by simp [ht])] at hr
  unfold leaveS at hr
  simp only [hcs] at hr
  obtain ⟨fsv1, iv1, ov1, mo1, co1, cc1, lv1, sv1, opv1, L11, L21, V1⟩ := k.view hc
  have x1 := V1.ox
  have f2 := V1.hfs.one
  have i1 := V1.hi.one
  have o2 := V1.ov1
  have k3 := k.dropc hc x1
  simp [ht, x1, w1, f2, i1, o2, splice]
  refine ⟨by omega, ?_⟩
  have n4 : ¬ σ.no = xo := fun e => n1 e.symm
  by_cases hn : cs = []
  ·rw [if_pos hn] at hr
   cases hr
   have hd : decide (cs = []) = true := by simp [hn]
   simp only [hd]
   simp
   refine ends_calls k3 fun σ' h' => ?_
   simp
   exact hR _ (back _ _ h')
  ·rw [if_neg hn, if_neg (by simp [ht])] at hr
   cases hr
   have hd : decide (cs = []) = false := by simp [hn]
   simp only [hd]
   simp [n4, o1, ht]
   exact hR _ (back _ _ k3)
 ·rw [if_pos (by simp [ht])] at hr
  obtain ⟨v, hv, hr⟩ := popS_at hc hr
  simp [o1, ht]
  refine pop_calls k hc (by omega) (by omega) hv fun σ2 k2 => ?_
  have o2 := (k2.other n3 nO).trans o1
  have hc2 : (x.setTop { c with stack := c.stack.dropLast }).calls = cs ++ [{ c with stack := c.stack.dropLast }] := setTop_calls hc
  generalize hx2 : x.setTop { c with stack := c.stack.dropLast } = x2 at *
  unfold leaveS at hr
  have hdl : x2.calls.dropLast = cs := by rw [hc2]; simp
  simp only [hdl] at hr
  obtain ⟨fsv1, iv1, ov1, mo1, co1, cc1, lv1, sv1, opv1, L11, L21, V1⟩ := k2.view hc2
  have x1 := V1.ox
  have f2 := V1.hfs.one
  have i1 := V1.hi.one
  have o3 := V1.ov1
  have k3 := k2.dropc hc2 x1
  simp [x1, w1, f2, i1, o3, splice]
  refine ⟨by omega, ?_⟩
  have n4 : ¬ σ.no = xo := fun e => n1 e.symm
  by_cases hn : cs = []
  ·rw [if_pos hn] at hr
   cases hr
   have hd : decide (cs = []) = true := by simp [hn]
   simp only [hd]
   simp
   refine ends_calls k3 fun σ' h' => ?_
   simp
   exact hR _ (back _ _ h')
  ·rw [if_neg hn, if_pos (by simp [ht])] at hr
   have hd : decide (cs = []) = false := by simp [hn]
   simp only [hd]
   simp [n4, o2, ht]
   obtain ⟨cs2, c2, e2, e3, e4⟩ := hcase { x2 with calls := cs } rfl hn
   rw [pushS_at e2] at hr
   cases hr
   have hb4 := hb.st c2 (by rw [hc]; simp [e4])
   refine push_calls k3 e2 e3 (by omega) fun σ' h' => ?_
   simp
   exact hR _ (back _ _ h')
end
end Go.Proofs.YthifgodgfhbnfaaGreatDoor.Rf
set_option linter.unusedSimpArgs false
set_option linter.unusedVariables false
namespace Go.Proofs.YthifgodgfhbnfaaGreatDoor.Rf
open Go Go.Abs Go.Proofs.YthifgodgfhbnfaaGreatDoor
theorem oCs_at {l : List Opn} {p : Nat} {o : Opn} (h : l[p]? = some o) (j : List AV) : ((oCs l ++ j).drop (p * 4)).take 4 = oC o ∧ p * 4 + 4 ≤ (oCs l ++ j).length := by
 obtain ⟨hp, rfl⟩ := List.getElem?_eq_some_iff.1 h
 have e : oCs l = oCs (l.take p) ++ (oC l[p] ++ oCs (l.drop (p + 1))) := by
  have e0 : oCs l = oCs (l.take p ++ (l[p] :: l.drop (p + 1))) := by rw [← List.drop_eq_getElem_cons hp, List.take_append_drop]
  rw [e0]; unfold oCs; rw [List.flatMap_append, List.flatMap_cons]
 have hl : (oCs (l.take p)).length = p * 4 := by rw [oCs_length]; simp; omega
 have hlen := oCs_length l
 refine ⟨?_, by rw [List.length_append, hlen]; omega⟩
 rw [e, List.append_assoc, ← hl, List.drop_left, List.append_assoc]
 rfl
theorem oCs_take (l : List Opn) (p : Nat) (j : List AV) : ∃ j', oCs l ++ j = oCs (l.take p) ++ j' := by
 refine ⟨oCs (l.drop p) ++ j, ?_⟩
 have e0 : oCs l = oCs (l.take p ++ l.drop p) := by rw [List.take_append_drop]
 rw [e0]; unfold oCs; rw [List.flatMap_append, List.append_assoc]
theorem splice4 (a b c d e f g h : AV) : splice [a, b, c, d] 0 [e, f, g, h] = [e, f, g, h] := rfl
section
variable {G : Env} {fs : List F} {mm mn : Int} {xo : Nat} {σ0 σ : AS} {O : List Nat} {x : Ma} {cs : List Cl} {c : Cl} {R : Out → AS → Prop} {fsv iv ov : AV} {mo co : Nat} {Lo : List Nat} {cc : List AV} {lv sv opv : AV} {L1 L2 : List Nat}
theorem View.stackV (V : View fs mm mn xo σ0 O x σ cs c fsv iv ov mo co cc lv sv opv L1 L2) {st' : List Int} {sv' : AV} (h : IntsV sv' st') : View fs mm mn xo σ0 O (x.setTop { c with stack := st' }) (σ.setO co (splice cc (cs.length * 4 + 2) [sv'])) cs { c with stack := st' } fsv iv ov mo co (splice cc (cs.length * 4 + 2) [sv']) lv sv' opv L1 L2 := by
 obtain ⟨s1, s2⟩ := V.split
 obtain ⟨t1, t2, t3, t4, t5, t6, t7, t8, t9, t10, t11⟩ := V.tops
 have e : splice cc (cs.length * 4 + 2) [sv'] = cc.take (cs.length * 4) ++ ([.int .i64 c.f, lv, sv', opv] ++ cc.drop (cs.length * 4 + 4)) := by
  conv => lhs; rw [s1]
  exact (splice_row s2).1
 rw [e]
 have at_ : ∀ j, (cc.take (cs.length * 4) ++ ([AV.int .i64 c.f, lv, sv', opv] ++ cc.drop (cs.length * 4 + 4)))[cs.length * 4 + j]? = ([AV.int .i64 c.f, lv, sv', opv] ++ cc.drop (cs.length * 4 + 4))[j]? := fun j => by
  rw [List.getElem?_append_right (by omega)]
  congr 1
  omega
 have htk : (cc.take (cs.length * 4) ++ ([AV.int .i64 c.f, lv, sv', opv] ++ cc.drop (cs.length * 4 + 4))).take (cs.length * 4) = cc.take (cs.length * 4) := by
  conv => lhs; lhs; rw [← s2]
  exact List.take_left
 have k : ∀ o, o ≠ co → (σ.setO co (cc.take (cs.length * 4) ++ ([AV.int .i64 c.f, lv, sv', opv] ++ cc.drop (cs.length * 4 + 4)))).objs o = σ.objs o := fun o q => by simp [q]
 refine ⟨by rw [k xo t1, V.ox]; rfl, V.hfs, V.hi, V.ov1, by simp, by have := at_ 0; simpa using this, by have := at_ 1; simpa using this, by have := at_ 2; simpa using this, by have := at_ 3; simpa using this, by rw [List.length_append, s2]; simp, fun q => by rw [htk]; exact V.fz q, V.hl.keep fun o ho => k o fun e => t2 (by simp [← e, ho]), h, V.ho.keep fun o ho => k o fun e => t2 (by simp [← e, ho]), V.nd, by simpa using V.lt, ?_⟩
 intro σ' cc' c' lv' sv2 opv' L1' L2' j h1 h2 h3 h4 h5 h6 h7 h8 h9 h10 h11
 rw [htk] at h6
 have := V.up σ' cc' c' lv' sv2 opv' L1' L2' j (by simpa using h1) (by simpa using h2) (fun f hf => by simpa using h3 f (by simpa using hf)) (fun o q1 q2 q3 => (h4 o (by simpa using q1) q2 q3).trans (k o q2)) h5 h6 h7 h8 h9 h10 (fun p hp => by simpa using h11 p hp)
 simpa [Ma.setTop] using this
theorem View.adds (V : View fs mm mn xo σ0 O x σ cs c fsv iv ov mo co cc lv sv opv L1 L2) {σ1 : AS} (A : Adds σ σ1) : View fs mm mn xo σ0 O x σ1 cs c fsv iv ov mo co cc lv sv opv L1 L2 := by
 have n1 := A.no
 have n2 := A.nf
 have k : ∀ p ∈ xo :: mo :: co :: (L1 ++ L2), σ1.objs p = σ.objs p := fun p hp => A.obj p (V.lt p hp)
 refine ⟨(k xo (by simp)).trans V.ox, V.hfs, V.hi, V.ov1, (k co (by simp)).trans V.oc, V.c0, V.c1, V.c2, V.c3, V.len, V.fz, V.hl.keep fun o ho => k o (by simp [ho]), V.hs, V.ho.keep fun o ho => k o (by simp [ho]), V.nd, fun p hp => by have := V.lt p hp; omega, ?_⟩
 intro σ' cc' c' lv' sv2 opv' L1' L2' j h1 h2 h3 h4 h5 h6 h7 h8 h9 h10 h11
 exact V.up σ' cc' c' lv' sv2 opv' L1' L2' j (by omega) (by omega) (fun f hf => (h3 f (by omega)).trans (A.fam f hf)) (fun o q1 q2 q3 => (h4 o (by omega) q2 q3).trans (A.obj o q1)) h5 h6 h7 h8 h9 h10 (fun p hp => ⟨(h11 p hp).1, (h11 p hp).2.imp id fun h => by omega⟩)
theorem setTop2 (x : Ma) (a b : Cl) : (x.setTop a).setTop b = x.setTop b := by simp [Ma.setTop]
set_option maxRecDepth 10000 in
set_option maxHeartbeats 2000000 in
theorem branch_calls {N : Nat} {n : Int} {x' : Ma} (h : RM fs mm mn xo σ0 O x σ) (hb : MB N x) (hr : branchS fs x n = some x') (hR : ∀ σ', RM fs mm mn xo σ0 O x' σ' → R (.ret (.tuple [])) σ') : ACalls Tryz.prog G 42 [.ptr xo 0, .int .i64 n] σ R := by
 refine calls42 rfl ?_
 unfold branchS at hr
 cases hl : x.calls.getLast? with
 | none => simp [topK, hl] at hr
 | some c =>
 have hc := calls_split hl
 generalize hcs : x.calls.dropLast = cs at *
 rw [topK_at hc] at hr
 have hlen : x.calls.length = cs.length + 1 := by rw [hc]; simp
 have b1 := hb.calls
 have b2 := hb.st c (by rw [hc]; simp)
 have b3 := hb.n
 have b4 := hb.op c (by rw [hc]; simp)
 by_cases hn : n < 0 ∨ (c.opn.length : Int) - 1 < n
 ·rw [if_pos hn] at hr; cases hr
 rw [if_neg hn] at hr
 obtain ⟨fsv, iv, ov, mo, co, cc, lv, sv, opv, L1, L2, V⟩ := h.view hc
 rcases V.ho with ⟨ho, _⟩ | ⟨oo, j, rfl, ho, hL⟩
 ·rw [ho] at hn; simp at hn; omega
 obtain ⟨p, hp⟩ := Int.eq_ofNat_of_zero_le (show 0 ≤ (c.opn.length : Int) - 1 - n by omega)
 rw [hp] at hr
 have v1 := V.ox
 have v2 := V.oc
 have v3 := V.c2
 have v4 := V.c3
 have v5 := V.len
 have w0 : (cs.length : Int) < (cs.length : Int) + 1 := by omega
 have w1 : IntKind.wrap .i64 (cs.length : Int) = (cs.length : Int) := by rw [wrap_i64] <;> omega
 have w2 : IntKind.wrap .i64 ((c.opn.length : Int) - 1) = (c.opn.length : Int) - 1 := by rw [wrap_i64] <;> omega
 have w3 : IntKind.wrap .i64 ((c.opn.length : Int) - 1 - n) = (p : Int) := by rw [hp, wrap_i64] <;> omega
 by_cases hz : p = 0
 ·subst hz
  rw [if_pos (by rfl)] at hr
  simp [pc42, v1, v2, v4, w0, w1, w2, w3]
  refine returns_calls h hb hr fun σ' h' => ?_
  simp
  exact hR _ h'
 rw [if_neg (by omega)] at hr
 simp only [Int.toNat_natCast] at hr
 cases hop : c.opn[p]? with
 | none => rw [hop] at hr; cases hr
 | some o =>
 rw [hop] at hr
 simp only at hr
 by_cases hh : o.height < 0 ∨ (c.stack.length : Int) < o.height
 ·rw [if_pos hh] at hr; cases hr
 rw [if_neg hh] at hr
 obtain ⟨hi, hhi⟩ := Int.eq_ofNat_of_zero_le (show 0 ≤ o.height by omega)
 have hpl : p < c.opn.length := (List.getElem?_eq_some_iff.1 hop).1
 obtain ⟨q1, q2⟩ := oCs_at hop j
 obtain ⟨t1, t2, t3, t4, t5, t6, t7, t8, t9, t10, t11⟩ := V.tops
 have hoo : oo < σ.no := t11 oo (by simp [hL])
 have n1 : ¬ xo = σ.no := by omega
 have n2 : ¬ co = σ.no := by omega
 have n3 : ¬ oo = σ.no := by omega
 have n4 : ¬ xo = co := t1
 have n5 : ¬ oo = co := fun e => t2 (by simp [hL, e])
 have n6 : ¬ σ.no = co := by omega
 have n7 : ¬ σ.no = xo := by omega
 have r3 : ∀ v, (splice cc (cs.length * 4 + 2) [v])[cs.length * 4 + 3]? = some (.slm oo 0 4 c.opn.length) := fun v => by
  obtain ⟨s1, s2⟩ := V.split
  rw [s1, (splice_row s2).1]
  exact (set_row (v := .nilp) s2).2
 have r4 : ∀ v, (splice cc (cs.length * 4 + 2) [v]).length = cc.length := fun v => by simp [splice]; omega
 have hpz : ¬ (p : Int) = 0 := by omega
 have hpl' : (p : Int) < (c.opn.length : Int) := by omega
 have hpl2 : (p : Int) ≤ (c.opn.length : Int) := by omega
 have hf : c.stack.length ≤ 2 ^ 38 := by omega
 obtain ⟨j', hj'⟩ := oCs_take c.opn p j
 have tl : (c.opn.take p).length = p := by simp; omega
 have fin : ∀ (sv' : AV) (a b d e : AV), IntsV sv' (c.stack.take hi) → RM fs mm mn xo σ0 O (x.setTop { c with stack := c.stack.take hi, opn := c.opn.take p })
   ((((σ.newO [a, b, d, e]).setO σ.no (oC o)).setO co (splice cc (cs.length * 4 + 2) [sv'])).setO co (splice (splice cc (cs.length * 4 + 2) [sv']) (cs.length * 4 + 3) [.slm oo 0 4 p])) := fun sv' a b d e hsv => by
  have A1 : Adds σ ((σ.newO [a, b, d, e]).setO σ.no (oC o)) := (Adds.refl σ).newO.setO (Nat.le_refl _)
  have V2 := (V.adds A1).stackV hsv
  have e1 := V2.open3 (.slm oo 0 4 p)
  rw [e1]
  have := V2.openOld (σ' := (((σ.newO [a, b, d, e]).setO σ.no (oC o)).setO co (splice cc (cs.length * 4 + 2) [sv'])).setO co (splice (splice cc (cs.length * 4 + 2) [sv']) (cs.length * 4 + 3) [.slm oo 0 4 p])) (l' := c.opn.take p) (v' := .slm oo 0 4 p) (j2 := (splice cc (cs.length * 4 + 2) [sv']).drop (cs.length * 4 + 4)) (by simp) (by simp) (fun _ _ => rfl) (fun o' _ q _ => by simp [q]) (.inr ⟨oo, j', by rw [tl], ?_, hL⟩) (by rw [setO_objs, upd_same, e1])
  ·rw [setTop2, e1] at this
   exact this
  ·simp [n3, n5, ho]
   exact hj'
 have o7 : ∀ (σ3 : AS) , σ3.objs σ.no = some (oC o) → RM fs mm mn xo σ0 O (x.setTop { c with stack := c.stack.take hi, opn := c.opn.take p }) σ3 → True := fun _ _ _ => trivial
 rw [hhi] at hr
 simp only [Int.toNat_natCast] at hr
 rcases V.hs with ⟨hs, rfl⟩ | ⟨b, rfl⟩
 ·have g0 : hi = 0 := by rw [hs] at hh; simp at hh; omega
  subst g0
  have k := fun a b d e => fin .nilsl a b d e (.inl ⟨by simp, rfl⟩)
  simp [pc42, v1, v2, v3, v4, w0, w1, w2, w3, hz, hpz, ho, q1, q2, n1, n2, n3, n4, n5, n6, n7, r3, r4, oC, splice4, hpl', hpl2, hhi]
  refine ⟨by simpa using q2, by omega, by omega, ?_⟩
  cases hlo : o.loop with
  | false =>
   rw [hlo] at hr
   simp at hr
   subst hr
   simp
   exact hR _ (by simpa [oC, hhi, hlo] using k _ _ _ _)
  | true =>
   rw [hlo] at hr
   simp only [if_true] at hr
   unfold opensS at hr
   rw [topK_at (setTop_calls hc)] at hr
   simp at hr
   subst hr
   simp [n6, n7]
   refine opens_calls (by simpa [oC, hhi, hlo] using k _ _ _ _) (setTop_calls hc) (by omega) (by simp) (by simp; omega) fun σ' h' => ?_
   simp
   refine hR _ ?_
   rw [setTop2] at h'
   simpa [Ma.setTop] using h'
 ·have g1 : (hi : Int) ≤ (c.stack.length : Int) := by omega
  have k := fun bb a b d e => fin (.sl (.stat bb) 1 ((c.stack.take hi).map (.int .i64))) a b d e (.inr ⟨_, rfl⟩)
  simp [pc42, v1, v2, v3, v4, w0, w1, w2, w3, hz, hpz, ho, q1, q2, n1, n2, n3, n4, n5, n6, n7, r3, r4, oC, splice4, hpl', hpl2, hhi, g1]
  refine ⟨by simpa using q2, by omega, by omega, ?_⟩
  cases hlo : o.loop with
  | false =>
   rw [hlo] at hr
   simp at hr
   subst hr
   simp
   exact hR _ (by simpa [oC, hhi, hlo, List.map_take] using k _ _ _ _ _)
  | true =>
   rw [hlo] at hr
   simp only [if_true] at hr
   unfold opensS at hr
   rw [topK_at (setTop_calls hc)] at hr
   simp at hr
   subst hr
   simp [n6, n7]
   refine opens_calls (by simpa [oC, hhi, hlo, List.map_take] using k _ _ _ _ _) (setTop_calls hc) (by omega) (by simp; omega) (by simp; omega) fun σ' h' => ?_
   simp
   refine hR _ ?_
   rw [setTop2] at h'
   simpa [Ma.setTop] using h'
end
end Go.Proofs.YthifgodgfhbnfaaGreatDoor.Rf
set_option linter.unusedSimpArgs false
set_option linter.unusedVariables false
namespace Go.Proofs.YthifgodgfhbnfaaGreatDoor.Rf
open Go Go.Abs Go.Proofs.YthifgodgfhbnfaaGreatDoor
section
variable {G : Env} {fs : List F} {mm mn : Int} {xo : Nat} {σ0 σ : AS} {O : List Nat} {x : Ma} {cs : List Cl} {c : Cl} {R : Out → AS → Prop} {fsv iv ov : AV} {mo co : Nat} {Lo : List Nat} {cc : List AV} {lv sv opv : AV} {L1 L2 : List Nat}
theorem pop_calls' {v : Int} (h : RM fs mm mn xo σ0 O x σ) (hc : x.calls = cs ++ [c]) (hb1 : cs.length ≤ 40) (hb2 : c.stack.length ≤ 2 ^ 40) (hv : c.stack.getLast? = some v)
  (hR : ∀ σ', RM fs mm mn xo σ0 O (x.setTop { c with stack := c.stack.dropLast }) σ' → σ'.objs xo = σ.objs xo → R (.ret (.int .i64 v)) σ') : ACalls Tryz.prog G 41 [.ptr xo 0] σ R := by
 refine calls41 rfl ?_
 obtain ⟨fsv, iv, ov, mo, co, cc, lv, sv, opv, L1, L2, V⟩ := h.view hc
 have v1 := V.ox
 have v2 := V.oc
 have v3 := V.c2
 have v4 := V.len
 have t1 := V.tops.1
 obtain ⟨p1, p2, p3⟩ := last_ix hv
 rcases V.hs with ⟨hs, _⟩ | ⟨b, rfl⟩
 ·rw [hs] at hv; simp at hv
 have w1 : IntKind.wrap .i64 (cs.length : Int) = (cs.length : Int) := by rw [wrap_i64] <;> omega
 have w2 : IntKind.wrap .i64 ((c.stack.length : Int) - 1) = ((c.stack.length - 1 : Nat) : Int) := by rw [wrap_i64] <;> omega
 simp [pc41, v1, v2, v3, w1, w2, p2, p3]
 exact ⟨by omega, by omega, hR _ (V.stack (.inr ⟨_, by rw [List.map_dropLast]⟩)) (by simp [t1])⟩
theorem MB.pop {N : Nat} (h : MB N x) (hc : x.calls = cs ++ [c]) : MB N (x.setTop { c with stack := c.stack.dropLast }) := by
 have hs : (x.setTop { c with stack := c.stack.dropLast }).calls = cs ++ [{ c with stack := c.stack.dropLast }] := setTop_calls hc
 have hl : (x.setTop { c with stack := c.stack.dropLast }).calls.length = x.calls.length := by rw [hs, hc]; simp
 have hm : ∀ d ∈ (x.setTop { c with stack := c.stack.dropLast }).calls, ∃ e ∈ x.calls, d.stack.length ≤ e.stack.length ∧ d.opn = e.opn ∧ d.locals = e.locals := fun d hd => by
  rw [hs] at hd
  rcases List.mem_append.1 hd with hd | hd
  ·exact ⟨d, by rw [hc]; simp [hd], Nat.le_refl _, rfl, rfl⟩
  ·simp at hd; subst hd
   exact ⟨c, by rw [hc]; simp, by simp, rfl, rfl⟩
 refine ⟨h.n, by rw [hl]; exact h.calls, fun d hd => ?_, fun d hd => ?_, fun d hd => ?_, h.out, h.inp, h.mem⟩
 ·obtain ⟨e, he, h1, _⟩ := hm d hd
  have := h.st e he
  rw [hl]; omega
 ·obtain ⟨e, he, _, h2, _⟩ := hm d hd
  rw [h2]; exact h.op e he
 ·obtain ⟨e, he, _, _, h3⟩ := hm d hd
  rw [h3]; exact h.lo e he
theorem RM.addc {n ml : Nat} {st cd : AV} {σ' : AS} {co' : Nat} {f : Int} {ls : List Int} {Ll : List Nat} {j : List AV} (h : RM fs mm mn xo σ0 O x σ) (ho : σ.objs xo = some [fsv, .int .i64 mm, .int .i64 mn, iv, .slm mo 0 1 ml, .slm co 0 4 n, ov, st, cd]) (hoc : σ.objs co = some cc)
  (h1 : σ.no ≤ σ'.no) (h2 : σ.nf ≤ σ'.nf) (h3 : ∀ f, f < σ0.nf → σ'.F f = σ.F f) (h4 : ∀ o, o < σ.no → o ≠ xo → o ≠ co → σ'.objs o = σ.objs o)
  (h5 : σ'.objs xo = some [fsv, .int .i64 mm, .int .i64 mn, iv, .slm mo 0 1 ml, .slm co' 0 4 (n + 1), ov, st, cd]) (h6 : σ'.objs co' = some (cc.take (n * 4) ++ ([.int .i64 f, lv, .nilsl, .nilsl] ++ j))) (h7 : σ.no ≤ co' ∧ co' < σ'.no)
  (h8 : LocV σ' lv ls Ll) (h9 : ∀ p ∈ Ll, σ.no ≤ p ∧ p < σ'.no ∧ p ≠ co') : RM fs mm mn xo σ0 O { x with calls := x.calls ++ [⟨f, ls, [], []⟩] } σ' := by
 have h0 := h
 obtain ⟨_, _, _, _, P, ⟨fsv', iv', mo', co0, ov', Lo, rows, junk, a1, a2, a3, a4, a5, a6, a7, a8, a9, a10⟩, hP⟩ := h
 rw [ho] at a1
 simp only [Option.some.injEq, List.cons.injEq, AV.slm.injEq] at a1
 obtain ⟨rfl, -, -, rfl, ⟨rfl, -, -, rfl⟩, ⟨rfl, -, -, rfl⟩, rfl, rfl, rfl, -⟩ := a1
 rw [hoc] at a6
 cases a6
 subst a8
 have hnd := a9
 rw [List.nodup_cons, List.nodup_cons, List.nodup_cons] at hnd
 obtain ⟨g1, g2, g3, g4⟩ := hnd
 simp only [List.mem_cons, List.mem_append, not_or] at g1 g2 g3
 have hlen := cells_len a7
 have htk : (cellsR rows ++ junk).take (x.calls.length * 4) = cellsR rows := by rw [← hlen, List.take_left]
 rw [htk] at h6
 have hlx := a10 xo (by simp)
 have hlm := a10 mo (by simp)
 refine h0.to' (P := xo :: mo :: co :: (Lo ++ objsR rows)) (P' := xo :: mo :: co' :: (Lo ++ (objsR rows ++ Ll))) hP h1 h2 h3 (fun o q q2 => h4 o q (fun e => q2 (by simp [e])) (fun e => q2 (by simp [e]))) ⟨fsv, iv, mo, co', ov, Lo, rows ++ [([.int .i64 f, lv, .nilsl, .nilsl], Ll)], j, ?_, a2, a3, ?_, ?_, ?_, ?_, ?_, ?_, fun p hp => ?_⟩ fun p hp => ?_
 ·rw [h5]; simp
 ·rw [h4 mo hlm (fun e => g1.1 e.symm) g2.1]; exact a4
 ·exact a5.keep fun o q => h4 o (a10 o (by simp [q])) (fun e => g1.2.2.1 (e ▸ q)) (fun e => g3.1 (e ▸ q))
 ·rw [h6, cellsR_snoc]; simp
 ·exact All2.snoc (rows_keep a7 fun o q => h4 o (a10 o (by simp [q])) (fun e => g1.2.2.2 (e ▸ q)) (fun e => g3.2 (e ▸ q))) ⟨lv, .nilsl, .nilsl, Ll, [], rfl, h8, .inl ⟨rfl, rfl⟩, .inl ⟨rfl, rfl, rfl⟩, by simp⟩
 ·rw [objsR_snoc]
 ·have hA : (xo :: mo :: (Lo ++ objsR rows)).Nodup := a9.sublist (List.Sublist.cons_cons _ (List.Sublist.cons_cons _ (List.sublist_cons_self _ _)))
  have hltA : ∀ p ∈ xo :: mo :: (Lo ++ objsR rows), p < σ.no := fun p hp => a10 p (by simp only [List.mem_cons, List.mem_append] at hp ⊢; rcases hp with h | h | h | h <;> simp [h])
  have hB : ((xo :: mo :: (Lo ++ objsR rows)) ++ (co' :: Ll)).Nodup := by
   rw [List.nodup_append]
   refine ⟨hA, List.nodup_cons.2 ⟨fun hh => (h9 co' hh).2.2 rfl, h8.nodup⟩, fun a ha b hb e => ?_⟩
   have := hltA a ha
   rcases List.mem_cons.1 hb with hb | hb
   ·omega
   ·have := h9 b hb; omega
  refine (List.Perm.nodup_iff ?_).1 hB
  simp only [List.cons_append]
  refine List.Perm.cons _ (List.Perm.cons _ ?_)
  rw [← List.append_assoc]
  exact List.perm_middle
 ·simp only [List.mem_cons, List.mem_append] at hp
  have old : p ∈ xo :: mo :: co :: (Lo ++ objsR rows) → p < σ'.no := fun h => by have := a10 p h; omega
  rcases hp with h | h | h | h | h | h
  ·exact old (by simp [h])
  ·exact old (by simp [h])
  ·omega
  ·exact old (by simp [h])
  ·exact old (by simp [h])
  ·exact (h9 p h).2.1
 ·simp only [List.mem_cons, List.mem_append] at hp ⊢
  rcases hp with h | h | h | h | h | h
  ·simp [h]
  ·simp [h]
  ·right; omega
  ·simp [h]
  ·simp [h]
  ·exact .inr (h9 p h).1
theorem bin_calls {N : Nat} {w : W} {x' : Ma} (h : RM fs mm mn xo σ0 O x σ) (hb : MB N x) (hc : x.calls = cs ++ [c]) (hty : w.ty = 1 ∨ w.ty = 2) (hr : binS x w = some x') (hR : ∀ σ', RM fs mm mn xo σ0 O x' σ' → R (.ret (.tuple [])) σ') : ACalls Tryz.prog G 59 [.ptr xo 0, w.av] σ R := by
 refine calls59 rfl ?_
 obtain ⟨wop, wty, wn, wbody, wother, wname⟩ := w
 unfold binS at hr
 simp only at hty
 obtain ⟨b, hv1, hr⟩ := popS_at hc hr
 have hc1 := setTop_calls (c' := { c with stack := c.stack.dropLast }) hc
 obtain ⟨a, hv2, hr⟩ := popS_at hc1 hr
 have hc2 := setTop_calls (c' := { c with stack := c.stack.dropLast.dropLast }) hc1
 simp only at hr hv2
 rw [setTop2] at hr hc2
 have hlen : x.calls.length = cs.length + 1 := by rw [hc]; simp
 have b1 := hb.calls
 have b2 := hb.st c (by rw [hc]; simp)
 have b3 := hb.n
 have A1 : Adds σ (σ.newO [.int .i64 wop, .int .i64 wty, .int .i64 wn, .int .i64 wbody, .int .i64 wother, .str wname]) := (Adds.refl σ).newO
 have o1 : (σ.newO [.int .i64 wop, .int .i64 wty, .int .i64 wn, .int .i64 wbody, .int .i64 wother, .str wname]).objs σ.no = some [.int .i64 wop, .int .i64 wty, .int .i64 wn, .int .i64 wbody, .int .i64 wother, .str wname] := by simp
 have n3 : σ.no < (σ.newO [.int .i64 wop, .int .i64 wty, .int .i64 wn, .int .i64 wbody, .int .i64 wother, .str wname]).no := by simp
 simp [pc59, W.av, W.cs, splice]
 generalize σ.newO [.int .i64 wop, .int .i64 wty, .int .i64 wn, .int .i64 wbody, .int .i64 wother, .str wname] = σ1 at *
 obtain ⟨O', k, back, hlt⟩ := h.anchorAt A1
 have nO : σ.no ∉ O' := fun q => by have := hlt _ q; omega
 refine pop_calls k hc (by omega) (by omega) hv1 fun σ2 k2 => ?_
 simp
 refine pop_calls k2 hc1 (by omega) (by simp; omega) hv2 fun σ3 k3 => ?_
 rw [setTop2] at k3
 have o3 := (k3.other n3 nO).trans o1
 simp
 refine signs_calls ?_
 simp [o3]
 refine signI_calls ?_
 rcases sign_place wname with ⟨e1, e2⟩ | ⟨j, e1, e2, e3, e4⟩
 ·rw [if_pos e2] at hr; cases hr
 rw [if_neg e4] at hr
 by_cases hin : (inT wty a && inT wty b) = false
 ·rw [if_pos hin] at hr; cases hr
 rw [if_neg hin] at hr
 simp at hin
 have hia : inT wty a = true := by
  cases q : inT wty a with
  | true => rfl
  | false => simp [q] at hin
 have hib : inT wty b = true := by
  cases q : inT wty b with
  | true => rfl
  | false => simp [q] at hin
 simp [e1, o3, e3]
 refine binI_calls hty hia hib ?_
 simp
 by_cases ht : (binW wty (signOf signs wname) a b).2 = 0
 ·rw [if_neg (by simpa using ht), pushS_at hc2] at hr
  cases hr
  simp [ht]
  refine push_calls k3 hc2 (by omega) (by simp; omega) fun σ4 k4 => ?_
  simp
  exact hR _ (back _ _ k4)
 ·rw [if_pos ht] at hr
  cases hr
  simp [ht]
  refine ends_calls k3 fun σ4 k4 => ?_
  simp
  exact hR _ (back _ _ k4)
end
end Go.Proofs.YthifgodgfhbnfaaGreatDoor.Rf
set_option linter.unusedSimpArgs false
set_option linter.unusedVariables false
namespace Go.Proofs.YthifgodgfhbnfaaGreatDoor.Rf
open Go Go.Abs Go.Proofs.YthifgodgfhbnfaaGreatDoor
def ArgsV (base : Nat) (τ : AS) (v : AV) (l : List Int) : Prop := (l = [] ∧ v = .nilsl) ∨ ∃ q b, v = .sl (.fam q b) 1 (l.map (.int .i64)) ∧ base ≤ q ∧ q < τ.nf ∧ τ.F q = .alive ∧ l ≠ []
theorem flat_ints (l : List Int) : flat (l.map (AV.int .i64)) = l.map (AV.int .i64) := by
 induction l with
 | nil => rfl
 | cons a l ih => simp only [flat, List.map_cons, List.flatMap_cons] at ih ⊢; rw [ih]; rfl
section
variable {G : Env} {fs : List F} {mm mn : Int} {xo : Nat} {σ0 σ : AS} {O : List Nat} {x : Ma} {cs : List Cl} {c : Cl} {R : Out → AS → Prop} {fsv iv ov : AV} {mo co : Nat} {Lo : List Nat} {cc : List AV} {lv sv opv : AV} {L1 L2 : List Nat}
theorem openc_calls {n ml : Nat} {st cd : AV} {τ3 : AS} {co' : Nat} {f l : Int} {ls : List Int} {j : List AV} (h : RM fs mm mn xo σ0 O x σ) (hn : n = x.calls.length) (hb : n ≤ 40) (ho : σ.objs xo = some [fsv, .int .i64 mm, .int .i64 mn, iv, .slm mo 0 1 ml, .slm co 0 4 n, ov, st, cd]) (hoc : σ.objs co = some cc) (hcl : n * 4 ≤ cc.length)
  (h1 : σ.no ≤ τ3.no) (h2 : σ.nf ≤ τ3.nf) (h3 : ∀ f, f < σ0.nf → τ3.F f = σ.F f) (h4 : ∀ o, o < σ.no → o ≠ xo → o ≠ co → τ3.objs o = σ.objs o)
  (h5 : τ3.objs xo = some [fsv, .int .i64 mm, .int .i64 mn, iv, .slm mo 0 1 ml, .slm co' 0 4 (n + 1), ov, st, cd]) (h6 : τ3.objs co' = some (cc.take (n * 4) ++ ([.int .i64 f, lv, .nilsl, .nilsl] ++ j))) (h7 : σ.no ≤ co' ∧ co' < τ3.no) (hxl : xo < σ.no)
  (hv : ArgsV σ0.nf τ3 lv ls) (hR : ∀ x' σ', opensS { x with calls := x.calls ++ [⟨f, ls, [], []⟩] } l false = some x' → RM fs mm mn xo σ0 O x' σ' → R (.ret (.tuple [])) σ') : ACalls Tryz.prog G 24 [.ptr xo 0, .int .i64 l, .bool false] τ3 R := by
 have hop : opensS { x with calls := x.calls ++ [⟨f, ls, [], []⟩] } l false = some (({ x with calls := x.calls ++ [⟨f, ls, [], []⟩] } : Ma).setTop { (⟨f, ls, [], []⟩ : Cl) with opn := [] ++ [⟨l, 0, 0, false⟩] }) := topK_at rfl
 have fin : ∀ σ', RM fs mm mn xo σ0 O { x with calls := x.calls ++ [⟨f, ls, [], []⟩] } σ' → ACalls Tryz.prog G 24 [.ptr xo 0, .int .i64 l, .bool false] σ' R := fun σ' k =>
  opens_calls k (cs := x.calls) rfl (by omega) (by simp) (by simp) fun σ2 k2 => hR _ _ hop k2
 rcases hv with ⟨hl, rfl⟩ | ⟨q, b, rfl, hq0, hq1, hq2, hne⟩
 ·exact fin _ (h.addc ho hoc h1 h2 h3 h4 h5 h6 h7 (.inl ⟨hl, rfl, rfl⟩) (by simp))
 ·have hlt : (cc.take (n * 4)).length = n * 4 := by simp; omega
  have e1 : (cc.take (n * 4) ++ ([AV.int .i64 f, .sl (.fam q b) 1 (ls.map (.int .i64)), .nilsl, .nilsl] ++ j))[n * 4 + 1]? = some (.sl (.fam q b) 1 (ls.map (.int .i64))) := by
   rw [List.getElem?_append_right (by omega), hlt]; simp
  have e2 : (cc.take (n * 4) ++ ([AV.int .i64 f, .sl (.fam q b) 1 (ls.map (.int .i64)), .nilsl, .nilsl] ++ j)).set (n * 4 + 1) (.slm τ3.no 0 1 (ls.map (AV.int .i64)).length) = cc.take (n * 4) ++ ([AV.int .i64 f, .slm τ3.no 0 1 ls.length, .nilsl, .nilsl] ++ j) := by
   rw [List.set_append_right _ _ (by omega), hlt]; simp
  refine ACalls.own hq2 h6 e1 ?_
  rw [e2]
  have c1 : ¬ co' = τ3.no := by omega
  have c2 : ¬ xo = τ3.no := by omega
  have c3 : ¬ xo = co' := by omega
  refine fin _ (h.addc (σ' := τ3.own q co' (cc.take (n * 4) ++ ([AV.int .i64 f, .slm τ3.no 0 1 ls.length, .nilsl, .nilsl] ++ j)) (flat (ls.map (AV.int .i64)))) (j := j) (lv := .slm τ3.no 0 1 ls.length) (Ll := [τ3.no]) (co' := co') (f := f) (ls := ls) ho hoc (by simp; omega) (by simp; omega) (fun f hf => ?_) (fun o q1 q2 q3 => ?_) (by simp [c2, c3, h5]) (by simp [c1]) (by simp; omega) (.inr ⟨τ3.no, rfl, by simp [flat_ints], rfl⟩) (by simp; omega))
  ·simp; rw [if_neg (by omega)]; exact h3 f hf
  ·have c4 : ¬ o = τ3.no := by omega
   have c5 : ¬ o = co' := by omega
   simp [c4, c5]; exact h4 o q1 q2 q3
def CAI (fs : List F) (mm mn : Int) (xo : Nat) (σ1 : AS) (O' : List Nat) (N : Nat) (cs : List Cl) (f : Int) (np : Nat) (k : List Int → Ma → Option Ma) (x' : Ma) (to : Nat) (a : Nat → AV) (τ : AS) : Prop :=
 ∃ (i : Nat) (args : List Int) (y : Ma) (c : Cl), args.length = i ∧ i ≤ np ∧ a 0 = .ptr xo 0 ∧ a 1 = .int .i64 f ∧ a 4 = .ptr to 0 ∧ ArgsV σ1.nf τ (a 5) args ∧ a 6 = .int .i64 (i : Int) ∧ RM fs mm mn xo σ1 O' y τ ∧ MB N y ∧ y.calls = cs ++ [c] ∧ popsS (np - i) y args k = some x'
theorem MB.setTopc {N : Nat} {y : Ma} (h : MB N y) (hc : y.calls = cs ++ [c]) : cs.length ≤ 31 ∧ c.stack.length ≤ 2 ^ 38 ∧ y.calls.length = cs.length + 1 := by
 have hl : y.calls.length = cs.length + 1 := by rw [hc]; simp
 have h1 := h.calls
 have h2 := h.st c (by rw [hc]; simp)
 have h3 := h.n
 omega
set_option maxHeartbeats 2000000 in
theorem call_calls {N : Nat} {f : Int} {x' : Ma} (h : RM fs mm mn xo σ0 O x σ) (hb : MB N x) (hc : x.calls = cs ++ [c]) (hfs : ∀ g ∈ fs, g.params.length ≤ 2 ^ 38 ∧ g.locals.length ≤ 2 ^ 38 ∧ g.lists.length ≤ 2 ^ 38) (hr : callS fs x f = some x')
  (hR : ∀ σ', RM fs mm mn xo σ0 O x' σ' → R (.ret (.tuple [])) σ') : ACalls Tryz.prog G 91 [.ptr xo 0, .int .i64 f] σ R := by
 refine calls91 rfl ?_
 unfold callS at hr
 cases hg : fnAt fs f with
 | none => rw [hg] at hr; cases hr
 | some g =>
 rw [hg] at hr
 simp only at hr
 obtain ⟨fi, hci, hi, hgi⟩ := fnAt_some hg
 subst hci
 obtain ⟨gb1, gb2, gb3⟩ := hfs g (hgi ▸ List.getElem_mem hi)
 obtain ⟨fsv, iv, ov, mo, co, cc, lv, sv, opv, L1, L2, V⟩ := h.view hc
 have v1 := V.ox
 have f1 := V.hfs.one
 obtain ⟨bb, gv, hgv, hix⟩ := V.hfs.at hi
 rw [hgi] at hgv
 obtain ⟨pv, gl, tv, rfl, hpv, hgl, htv⟩ := hgv
 have p1 := hpv.one
 have p2 := hgl.one
 have p3 := htv.one
 have p4 := hpv.len
 have p5 := hgl.len
 have p6 := htv.len
 have n1 : ¬ xo = σ.no := by have := V.tops; omega
 have A1 : Adds σ ((σ.newO [AV.str [], AV.nilsl, AV.nilsl, AV.int IntKind.i64 0, AV.nilsl]).setO σ.no [AV.str g.name, pv, gl, AV.int IntKind.i64 g.type, tv]) := (Adds.refl σ).newO.setO (Nat.le_refl _)
 have o1 : ((σ.newO [AV.str [], AV.nilsl, AV.nilsl, AV.int IntKind.i64 0, AV.nilsl]).setO σ.no [AV.str g.name, pv, gl, AV.int IntKind.i64 g.type, tv]).objs σ.no = some [AV.str g.name, pv, gl, AV.int IntKind.i64 g.type, tv] := by simp
 have n3 : σ.no < ((σ.newO [AV.str [], AV.nilsl, AV.nilsl, AV.int IntKind.i64 0, AV.nilsl]).setO σ.no [AV.str g.name, pv, gl, AV.int IntKind.i64 g.type, tv]).no := by simp
 simp [pc91, v1, f1, hix, p1, p2, p3, splice, n1]
 generalize (σ.newO [AV.str [], AV.nilsl, AV.nilsl, AV.int IntKind.i64 0, AV.nilsl]).setO σ.no [AV.str g.name, pv, gl, AV.int IntKind.i64 g.type, tv] = σ1 at *
 obtain ⟨O', k, back, hlt⟩ := h.anchorAt A1
 have nO : σ.no ∉ O' := fun q => by have := hlt _ q; omega
 refine aloop (CAI fs mm mn xo σ1 O' N cs fi g.params.length _ x' σ.no) (MU 6 (g.params.length + 1)) ⟨0, [], x, c, rfl, by omega, by simp, by simp, by simp, .inl ⟨rfl, by simp⟩, by simp, k, hb, hc, by simpa using hr⟩ fun a τ hI => ?_
 obtain ⟨i, args, y, d, hal, hin, a0, a1, a4, a5, a6, ky, mb, hd, hp⟩ := hI
 obtain ⟨m1, m2, m3⟩ := mb.setTopc hd
 have o2 := (ky.other n3 nO).trans o1
 by_cases hlt2 : i < g.params.length
 ·obtain ⟨m, hm⟩ : ∃ m, g.params.length - i = m + 1 := ⟨g.params.length - i - 1, by omega⟩
  rw [hm, popsS] at hp
  obtain ⟨v, hv, hp⟩ := popS_at hd hp
  have hlt3 : (i : Int) < (g.params.length : Int) := by omega
  have w1 : IntKind.wrap .i64 ((i : Int) + 1) = ((i + 1 : Nat) : Int) := by rw [wrap_i64] <;> omega
  simp [pc91_l1, a0, a1, a4, a6, o2, p4, hlt3]
  obtain ⟨O2, k2, back2, x2, lt2⟩ := ky.anchor
  refine pop_calls k2 hd (by omega) (by omega) hv fun σ3 k3 => ?_
  have hm1 : m = g.params.length - (i + 1) := by omega
  have fin : ∀ (v5 : AV) (τ' : AS) (b : Nat → AV), Adds σ3 τ' → b 0 = .ptr xo 0 → b 1 = .int .i64 (fi : Int) → b 4 = .ptr σ.no 0 → b 5 = v5 → ArgsV σ1.nf τ' v5 (v :: args) → b 6 = .int .i64 (((i + 1 : Nat)) : Int) →
    CAI fs mm mn xo σ1 O' N cs fi g.params.length (fun args x => if 32 ≤ x.calls.length then some (x.ends 2 4) else opensS { x with calls := x.calls ++ [⟨fi, args ++ List.replicate g.locals.length 0, [], []⟩] } ((g.lists.length : Int) - 1) false) x' σ.no b τ' := fun v5 τ' b A b0 b1 b4 b5 hv5 b6 =>
   ⟨i + 1, v :: args, _, _, by simp [hal], by omega, b0, b1, b4, by rw [b5]; exact hv5, b6, (back2 _ _ k3).adds A, mb.pop hd, setTop_calls hd, by rw [← hm1]; exact hp⟩
  rcases a5 with ⟨ha, e5⟩ | ⟨q, qb, e5, q0, q1, q2, q4⟩
  ·simp [e5, a6, w1]
   subst ha
   have n5 := k3.nf
   have n6 := ky.nf
   refine ⟨fin (.sl (.fam σ3.nf true) 1 [.int .i64 v]) _ _ (Adds.refl σ3).newF (by simp [a0]) (by simp [a1]) (by simp [a4]) (by simp) (.inr ⟨σ3.nf, true, by simp, by omega, by simp, by simp, by simp⟩) (by simp), ?_⟩
   simp only [MU, a6]; simp; omega
  ·have q3 : σ3.F q = .alive := by rw [k3.fam q q1]; exact q2
   obtain ⟨u, us, rfl⟩ : ∃ u us, args = u :: us := by
    cases args with
    | nil => exact absurd rfl q4
    | cons u us => exact ⟨u, us, rfl⟩
   simp only [List.length_cons] at hal
   have q5 : ¬ q = σ3.nf := by have := k3.nf; omega
   simp [e5, a6, w1, q3, q5]
   have n5 := k3.nf
   have n6 := ky.nf
   refine ⟨by omega, fin (.sl (.fam (σ3.nf + 1) false) 1 (.int .i64 v :: .int .i64 u :: us.map (.int .i64))) _ _ ((Adds.refl σ3).newF.newF) (by simp [a0]) (by simp [a1]) (by simp [a4]) (by simp) (.inr ⟨σ3.nf + 1, false, by simp, by omega, by simp, by simp, by simp⟩) (by simp), ?_⟩
   simp only [MU, a6]; simp; omega
 ·have hie : i = g.params.length := by omega
  subst hie
  rw [Nat.sub_self, popsS] at hp
  obtain ⟨fsv1, iv1, ov1, mo1, co1, cc1, lv1, sv1, opv1, L11, L21, V1⟩ := ky.view hd
  have x1 := V1.ox
  have x2 := V1.oc
  have f2 := V1.hfs.one
  have i1 := V1.hi.one
  have o3 := V1.ov1
  simp [pc91_l1, pc91_r1, a0, a1, a4, a6, o2, p4, x1]
  by_cases h32 : 32 ≤ y.calls.length
  ·rw [if_pos h32] at hp
   cases hp
   have hd32 : (32 : Int) ≤ (cs.length : Int) + 1 := by omega
   simp [hd32, a0]
   refine ends_calls ky fun σ' h' => ?_
   simp
   exact hR _ (back _ _ h')
  ·rw [if_neg h32] at hp
   have hd32 : ¬ (32 : Int) ≤ (cs.length : Int) + 1 := by omega
   have hyl : y.calls.length = cs.length + 1 := m3
   have n5 := ky.nf
   obtain ⟨t1, t2, t3, t4, t5, t6, t7, t8, t9, t10, t11⟩ := V1.tops
   have d1 : ¬ xo = co1 := t1
   have d2 : ¬ xo = τ.no := by omega
   have d3 : ¬ co1 = xo := fun e => t1 e.symm
   have hcl : (cs.length + 1) * 4 ≤ cc1.length := by have := V1.len; omega
   have fin : ∀ (v5 : AV) (τ2 : AS) (R1 : Out → AS → Prop), RM fs mm mn xo σ1 O' y τ2 → τ2.objs = τ.objs → τ2.no = τ.no → ArgsV σ1.nf τ2 v5 (args ++ List.replicate g.locals.length 0) → (∀ σ', RM fs mm mn xo σ0 O x' σ' → R1 (.ret (.tuple [])) σ') →
     ACalls Tryz.prog G 24 [.ptr xo 0, .int .i64 ((g.lists.length : Int) - 1), .bool false] ((τ2.newF.moveO co1 (cc1.take ((cs.length + 1) * 4) ++ flat [.agg [.int .i64 (fi : Int), v5, .nilsl, .nilsl]])).setO xo [fsv1, .int .i64 mm, .int .i64 mn, iv1, .slm mo1 0 1 y.memory.length, .slm τ2.no 0 4 (cs.length + 1 + 1), ov1, .int .i64 y.status, .int .i64 y.code]) R1 := by
    intro v5 τ2 R1 k2 e1 e2 hv hR1
    have e3 : ¬ τ2.no = xo := by omega
    refine openc_calls (n := cs.length + 1) (cc := cc1) (co := co1) (co' := τ2.no) (lv := v5) (f := fi) (ls := args ++ List.replicate g.locals.length 0) (j := []) k2 hyl.symm (by omega) (by rw [e1]; exact x1) (by rw [e1]; exact x2) hcl (by simp <;> omega) (by simp <;> omega) (fun f hf => ?_) (fun o q1 q2 q3 => ?_) (by simp) (by simp [e3, flat]) (by simp) (by omega) ?_ fun x2' σ' ho hk => ?_
    ·have := k2.nf
     simp only [setO_F, moveO_fam (σ := τ2.newF) (f := f) (by simp; omega)]
     simp; intro e; omega
    ·simp [q2, q3]; intro e; omega
    ·rcases hv with h | ⟨q, b, h1, h2, h3, h4, h5⟩
     ·exact .inl h
     ·refine .inr ⟨q, b, h1, h2, by simp; omega, ?_, h5⟩
      rw [setO_F, moveO_fam _ (by simp; omega)]
      simp [h4]
    ·rw [hp] at ho
     cases ho
     exact hR1 _ (back _ _ hk)
   have w5 : IntKind.wrap .i64 ((g.lists.length : Int) - 1) = (g.lists.length : Int) - 1 := by rw [wrap_i64] <;> omega
   have d4 : ¬ σ.no = xo := fun e => n1 e.symm
   have d5 : ¬ σ.no = co1 := fun e => by
    have q1 := o2
    rw [e, x2] at q1
    have q2 := V1.c0
    have q3 := V1.len
    simp only [Option.some.injEq] at q1
    rw [q1] at q2 q3
    simp at q3
    have hz : cs = [] := List.length_eq_zero_iff.1 (by omega)
    rw [hz] at q2
    simp at q2
   have d6 : ¬ σ.no = τ.no := by have := ky.no; omega
   simp [hd32, a0, a1, a4, o2, p5, p6]
   refine ⟨by omega, ?_⟩
   have hlp : args.length ≤ 2 ^ 38 := by omega
   rcases a5 with ⟨ha, e5⟩ | ⟨q, b, e5, q0, q1, q2, q4⟩
   ·rw [e5]
    cases hm : g.locals.length with
    | zero =>
     rw [hm] at fin
     simp [a0, a1, a4, o2, p5, p6, x1, x2, f2, i1, o3, splice, d1, d2, d3, d4, d5, d6, w5]
     refine ⟨by omega, by omega, fin .nilsl τ _ ky (by simp) (by simp) (.inl ⟨by simp [ha], rfl⟩) fun σ' h' => ?_⟩
     simp
     exact hR _ h'
    | succ m =>
     rw [hm] at fin gb2
     simp [a0, a1, a4, o2, p5, p6, x1, x2, f2, i1, o3, splice, d1, d2, d3, d4, d5, d6, w5, List.replicate_succ]
     refine ⟨by omega, by omega, by omega, fin (.sl (.fam τ.nf false) 1 (.int .i64 0 :: List.replicate m (.int .i64 0))) τ.newF _ (ky.adds (Adds.refl τ).newF) (by simp) (by simp) (.inr ⟨τ.nf, false, by simp [ha, List.replicate_succ], by omega, by simp, by simp, by simp⟩) fun σ' h' => ?_⟩
     simp
     exact hR _ h'
   ·rw [e5]
    have q5 : ¬ q = τ.nf := by omega
    cases b with
    | false =>
     simp [a0, a1, a4, o2, p5, p6, x1, x2, f2, i1, o3, splice, d1, d2, d3, d4, d5, d6, w5, List.replicate_succ, q2, q5]
     refine ⟨by omega, by omega, by omega, fin (.sl (.fam τ.nf false) 1 (args.map (.int .i64) ++ List.replicate g.locals.length (.int .i64 0))) ((τ.setF q .dead).newF) _ (ky.fams rfl rfl (by simp) fun f hf => by simp; rw [if_neg (by omega), if_neg (by omega)]) (by simp) (by simp) (.inr ⟨τ.nf, false, by simp, by omega, by simp, by simp, by simp [q4]⟩) fun σ' h' => ?_⟩
     simp
     exact hR _ h'
    | true =>
     cases hm : g.locals.length with
     | zero =>
      rw [hm] at fin
      simp [a0, a1, a4, o2, p5, p6, x1, x2, f2, i1, o3, splice, d1, d2, d3, d4, d5, d6, w5, List.replicate_succ, q2, q5]
      refine ⟨by omega, by omega, by omega, fin (.sl (.fam q true) 1 (args.map (.int .i64))) τ _ ky (by simp) (by simp) (.inr ⟨q, true, by simp, q0, q1, q2, by simpa using q4⟩) fun σ' h' => ?_⟩
      simp
      exact hR _ h'
     | succ m =>
      rw [hm] at fin gb2
      simp [a0, a1, a4, o2, p5, p6, x1, x2, f2, i1, o3, splice, d1, d2, d3, d4, d5, d6, w5, List.replicate_succ, q2, q5]
      refine ⟨by omega, by omega, by omega, fin (.sl (.fam τ.nf false) 1 (args.map (.int .i64) ++ .int .i64 0 :: List.replicate m (.int .i64 0))) τ.newF _ (ky.adds (Adds.refl τ).newF) (by simp) (by simp) (.inr ⟨τ.nf, false, by simp [List.replicate_succ], by omega, by simp, by simp, by simp⟩) fun σ' h' => ?_⟩
      simp
      exact hR _ h'
end
end Go.Proofs.YthifgodgfhbnfaaGreatDoor.Rf
set_option linter.unusedSimpArgs false
set_option linter.unusedVariables false
namespace Go.Proofs.YthifgodgfhbnfaaGreatDoor.Rf
open Go Go.Abs Go.Proofs.YthifgodgfhbnfaaGreatDoor
section
variable {G : Env} {fs : List F} {mm mn : Int} {xo : Nat} {σ0 σ : AS} {O : List Nat} {x : Ma} {cs : List Cl} {c : Cl} {R : Out → AS → Prop} {fsv iv ov : AV} {mo co : Nat} {Lo : List Nat} {cc : List AV} {lv sv opv : AV} {L1 L2 : List Nat}
theorem pop_view {v : Int} (V : View fs mm mn xo σ0 O x σ cs c fsv iv ov mo co cc lv sv opv L1 L2) (hb1 : cs.length ≤ 40) (hb2 : c.stack.length ≤ 2 ^ 40) (hv : c.stack.getLast? = some v)
  (hR : ∀ sv', IntsV sv' c.stack.dropLast → R (.ret (.int .i64 v)) (σ.setO co (splice cc (cs.length * 4 + 2) [sv']))) : ACalls Tryz.prog G 41 [.ptr xo 0] σ R := by
 refine calls41 rfl ?_
 have v1 := V.ox
 have v2 := V.oc
 have v3 := V.c2
 have v4 := V.len
 obtain ⟨p1, p2, p3⟩ := last_ix hv
 rcases V.hs with ⟨hs, _⟩ | ⟨b, rfl⟩
 ·rw [hs] at hv; simp at hv
 have w1 : IntKind.wrap .i64 (cs.length : Int) = (cs.length : Int) := by rw [wrap_i64] <;> omega
 have w2 : IntKind.wrap .i64 ((c.stack.length : Int) - 1) = ((c.stack.length - 1 : Nat) : Int) := by rw [wrap_i64] <;> omega
 simp [pc41, v1, v2, v3, w1, w2, p2, p3]
 exact ⟨by omega, by omega, hR _ (.inr ⟨_, by rw [List.map_dropLast]⟩)⟩
theorem View.setLoc (V : View fs mm mn xo σ0 O x σ cs c fsv iv ov mo co cc lv sv opv L1 L2) {lo n : Nat} {v : Int} (hlv : lv = .slm lo 0 1 c.locals.length) (hL : L1 = [lo]) (hn : n < c.locals.length) : RM fs mm mn xo σ0 O (x.setTop { c with locals := c.locals.set n v }) (σ.setO lo (splice (c.locals.map (.int .i64)) n [.int .i64 v])) := by
 obtain ⟨s1, s2⟩ := V.split
 obtain ⟨t1, t2, t3, t4, t5, t6, t7, t8, t9, t10, t11⟩ := V.tops
 have n1 : co ≠ lo := fun e => t2 (by simp [hL, ← e])
 have e : splice (c.locals.map (.int .i64)) n [.int .i64 v] = (c.locals.set n v).map (.int .i64) := by rw [splice_one (by simpa using hn), List.map_set]
 rw [e]
 have hlo : lo ∈ L1 ++ L2 := by simp [hL]
 refine V.up _ cc { c with locals := c.locals.set n v } lv sv opv L1 L2 (cc.drop (cs.length * 4 + 4)) (by simp) (by simp) (fun _ _ => rfl) (fun o _ _ q => ?_) (by simp [n1]; exact V.oc) s1 (.inr ⟨lo, by simp [hlv], by simp, hL⟩) V.hs (V.ho.keep fun o ho => ?_) t7 fun p hp => ⟨by simpa using t11 p hp, .inl hp⟩
 ·have : o ≠ lo := fun e => q (e ▸ hlo)
  simp [this]
 ·have : o ≠ lo := fun e => t8 lo (by simp [hL]) (e ▸ ho)
  simp [this]
set_option maxHeartbeats 2000000 in
theorem calls_calls {N : Nat} {n : Int} {x' : Ma} (h : RM fs mm mn xo σ0 O x σ) (hb : MB N x) (hc : x.calls = cs ++ [c]) (hfs : ∀ g ∈ fs, g.params.length ≤ 2 ^ 38 ∧ g.locals.length ≤ 2 ^ 38 ∧ g.lists.length ≤ 2 ^ 38) (hn63 : n < 2 ^ 63) (hr : callsS fs x n = some x')
  (hR : ∀ σ', RM fs mm mn xo σ0 O x' σ' → R (.ret (.tuple [])) σ') : ACalls Tryz.prog G 63 [.ptr xo 0, .int .i64 n] σ R := by
 refine owning (calls63 rfl ?_)
 unfold callsS at hr
 obtain ⟨m1, m2, m3⟩ := hb.setTopc hc
 have bi := hb.inp
 have bo := hb.out
 have bn := hb.n
 by_cases n0 : n = 0
 ·subst n0
  rw [if_pos rfl] at hr
  obtain ⟨fsv, iv, ov, mo, co, Lo, B⟩ := h.bview
  have x1 := B.ox
  have f1 := B.hfs.one
  have i1 := B.hi.one
  have i2 := B.hi.len
  have o1 := B.hov.one
  cases hi : x.input with
  | nil =>
   rw [hi] at hr i2
   simp only at hr
   rw [pushS_at hc] at hr
   cases hr
   simp at i2
   simp [pc63, x1, i1, i2]
   refine push_calls h hc (by omega) (by omega) fun σ' h' => ?_
   simp
   exact .inl (hR _ h')
  | cons v l =>
   rw [hi] at hr i2
   simp only at hr
   have hci : ({ x with input := l } : Ma).calls = cs ++ [c] := hc
   rw [pushS_at hci] at hr
   cases hr
   rcases hi ▸ B.hi with ⟨q, _⟩ | ⟨b, rfl⟩
   ·cases q
   have n1 := B.ne
   have k : ∀ b', RM fs mm mn xo σ0 O { x with input := l } (σ.setO xo [fsv, .int .i64 mm, .int .i64 mn, .sl (.stat b') 1 (l.map (.int .i64)), .slm mo 0 1 x.memory.length, .slm co 0 4 x.calls.length, ov, .int .i64 x.status, .int .i64 x.code]) := fun b' => by
    obtain ⟨n1, n2, n3, n4, n5, n6⟩ := B.ne
    refine B.up _ { x with input := l } (.sl (.stat b') 1 (l.map (.int .i64))) ov Lo rfl (by simp) (by simp) (fun _ _ => rfl) (fun o _ h1 h2 h3 => by simp [h1]) (by simp) (.inr ⟨_, rfl⟩) (by simp [Ne.symm n1]; exact B.om) (B.hov.keep fun o ho => ?_) B.hov.nodup fun p hp => ⟨by simpa using n6 p hp, .inl hp⟩
    have : o ≠ xo := fun e => n2 (e ▸ ho)
    simp [this]
   have hl1 : (l.length : Int) + 1 ≤ 2 ^ 38 := by rw [hi] at bi; simp at bi; omega
   have e0 : List.take l.length (l.map (AV.int .i64)) = l.map (.int .i64) := List.take_of_length_le (by simp)
   simp [pc63, x1, f1, o1, splice]
   rw [e0]
   refine ⟨by omega, ?_⟩
   refine push_calls (k b) hci (by omega) (by omega) fun σ' h' => ?_
   simp
   exact .inl (hR _ h')
 rw [if_neg n0] at hr
 by_cases n1 : n = 1
 ·subst n1
  rw [if_pos rfl] at hr
  obtain ⟨v, hv, hr⟩ := popS_at hc hr
  cases hr
  obtain ⟨fsv, iv, ov, mo, co, Lo, B⟩ := h.bview
  obtain ⟨fsv', iv', ov', mo', co', cc, lv, sv, opv, L1, L2, V⟩ := h.view hc
  have x1 := V.ox
  have eq := B.ox.symm.trans x1
  simp only [Option.some.injEq, List.cons.injEq, AV.slm.injEq] at eq
  obtain ⟨rfl, -, -, rfl, ⟨rfl, -, -, -⟩, ⟨rfl, -, -, hcl⟩, rfl, -, -, -⟩ := eq
  have f1 := V.hfs.one
  have i1 := V.hi.one
  have o1 := V.ov1
  obtain ⟨t1, t2, t3, t4, t5, t6, t7, t8, t9, t10, t11⟩ := V.tops
  obtain ⟨y1, y2, y3, y4, y5, y6⟩ := B.ne
  have bst : ∀ sv', IntsV sv' c.stack.dropLast → BView fs mm mn xo σ0 O (x.setTop { c with stack := c.stack.dropLast }) (σ.setO co (splice cc (cs.length * 4 + 2) [sv'])) fsv iv ov mo co Lo := fun sv' hsv => by
   obtain ⟨fsv2, iv2, ov2, mo2, co2, Lo2, B2⟩ := (V.stack hsv).bview
   have x2 := B2.ox
   have x3 := (V.stackV hsv).ox
   have eq := x2.symm.trans x3
   simp only [Option.some.injEq, List.cons.injEq, AV.slm.injEq] at eq
   obtain ⟨rfl, -, -, rfl, ⟨rfl, -, -, -⟩, ⟨rfl, -, -, -⟩, rfl, -, -, -⟩ := eq
   have hLe : Lo2 = Lo := by
    rcases B.hov with ⟨_, q1, q2⟩ | ⟨o1, q1, _, q2⟩ <;> rcases B2.hov with ⟨_, q3, q4⟩ | ⟨o2, q3, _, q4⟩
    ·rw [q2, q4]
    ·rw [q1] at q3; cases q3
    ·rw [q1] at q3; cases q3
    ·rw [q1] at q3; simp at q3; rw [q2, q4, q3.1]
   rw [← hLe]
   exact B2
  rcases B.hov with ⟨ho, rfl, hLo⟩ | ⟨oo, rfl, ho, hLo⟩
  ·simp [pc63, x1]
   refine pop_view V (by omega) (by omega) hv fun sv' hsv => ?_
   have V2 := V.stackV hsv
   have k2 := V.stack hsv
   have hd1 : ¬ xo = co := t1
   simp [x1, hd1, f1, i1, splice]
   have es : (σ.setO co (List.take (cs.length * 4 + 2) cc ++ sv' :: List.drop (cs.length * 4 + 2 + 1) cc)) = σ.setO co (splice cc (cs.length * 4 + 2) [sv']) := by simp [splice]
   rw [es]
   have B2 := bst sv' hsv
   refine .own σ.nf xo 6 1 false _ _ (by simp) (by rw [setO_objs, upd_same]) rfl (hR _ ?_)
   rw [show (x.setTop { c with stack := c.stack.dropLast }).out = [] from ho]
   have n7 : ¬ xo = σ.no := by omega
   have n8 : ¬ mo = xo := fun e => y1 e.symm
   have n9 : ¬ mo = σ.no := by omega
   refine B2.up _ { (x.setTop { c with stack := c.stack.dropLast }) with out := [] ++ [v] } iv (.slm σ.no 0 1 1) [σ.no] rfl (by simp) (by simp) (fun f hf => ?_) (fun o q1 q2 q3 q4 => ?_) (by simp [n7, Ma.setTop]; omega) B2.hi ?_ (.inr ⟨σ.no, by simp, by simp [flat], rfl⟩) (by simp) (by simp)
   ·simp at hf ⊢
    rw [if_neg (by omega), if_neg (by omega)]
   ·simp at q1 ⊢
    simp [q2]
    intro e; omega
   ·simp [n8, n9]
    simpa using B2.om
  ·simp [pc63, x1]
   refine pop_view V (by omega) (by omega) hv fun sv' hsv => ?_
   have hd1 : ¬ xo = co := t1
   have hd2 : ¬ oo = co := fun e => by
    have q1 := V.oc
    rw [← e, ho] at q1
    have q2 := V.c1
    simp only [Option.some.injEq] at q1
    rw [← q1] at q2
    rcases V.hl with ⟨_, r, _⟩ | ⟨o', r, _⟩ <;> rw [r] at q2 <;> simp at q2
   have hd3 : ¬ xo = oo := fun e => y2 (by simp [hLo, e])
   have hd4 : ¬ xo = σ.no := by omega
   simp [x1, hd1, hd2, hd3, hd4, ho, f1, i1, splice]
   have es : (σ.setO co (List.take (cs.length * 4 + 2) cc ++ sv' :: List.drop (cs.length * 4 + 2 + 1) cc)) = σ.setO co (splice cc (cs.length * 4 + 2) [sv']) := by simp [splice]
   rw [es]
   have B2 := bst sv' hsv
   have e0 : List.take x.out.length (x.out.map (AV.int .i64)) = x.out.map (.int .i64) := List.take_of_length_le (by simp)
   rw [e0]
   refine ⟨by omega, .inl (hR _ ?_)⟩
   have n8 : ¬ mo = xo := fun e => y1 e.symm
   have n9 : ¬ mo = σ.no := by omega
   have n10 : ¬ mo = oo := fun e => y3 (by simp [hLo, e])
   have n11 : ¬ σ.no = xo := by omega
   refine B2.up _ { (x.setTop { c with stack := c.stack.dropLast }) with out := x.out ++ [v] } iv (.slm σ.no 0 1 (x.out.length + 1)) [σ.no] rfl (by simp) (by simp; omega) (fun f hf => ?_) (fun o q1 q2 q3 q4 => ?_) (by simp [Ma.setTop]; omega) B2.hi ?_ (.inr ⟨σ.no, by simp, by simp [n11, flat], rfl⟩) (by simp) (by simp)
   ·simp only [setO_F]; exact moveO_fam _ hf
   ·simp at q1 q4 ⊢
    have : ¬ o = oo := fun e => q4 (by simp [hLo, e])
    simp [q2, this]
    intro e; omega
   ·simp [n8, n9, n10]
    simpa using B2.om
 rw [if_neg n1] at hr
 by_cases n2 : n = 2
 ·subst n2
  rw [if_pos rfl] at hr
  obtain ⟨v, hv, hr⟩ := popS_at hc hr
  cases hr
  simp [pc63]
  refine pop_calls h hc (by omega) (by omega) hv fun σ' h' => ?_
  simp
  refine ends_calls h' fun σ2 h2 => ?_
  simp
  exact .inl (hR _ h2)
 rw [if_neg n2] at hr
 have h3 : 3 ≤ n := by
  unfold callS at hr
  cases hg : fnAt fs (n - 3) with
  | none => rw [hg] at hr; cases hr
  | some g => obtain ⟨i, e, _⟩ := fnAt_some hg; omega
 have w1 : IntKind.wrap .i64 (n - 3) = n - 3 := by rw [wrap_i64] <;> omega
 simp [pc63, n0, n1, n2, w1]
 refine call_calls h hb hc hfs hr fun σ' h' => ?_
 simp
 exact .inl (hR _ h')
end
end Go.Proofs.YthifgodgfhbnfaaGreatDoor.Rf
set_option linter.unusedSimpArgs false
set_option linter.unusedVariables false
namespace Go.Proofs.YthifgodgfhbnfaaGreatDoor.Rf
open Go Go.Abs Go.Proofs.YthifgodgfhbnfaaGreatDoor
section
variable {fs : List F} {N : Nat} {x x' : Ma} {cs : List Cl} {c : Cl}
theorem MB.mono {M : Nat} (h : MB N x) (hn : N ≤ M) (hm : M ≤ 2 ^ 38) : MB M x :=
 ⟨hm, h.calls, fun c hc => by have := h.st c hc; omega, fun c hc => by have := h.op c hc; omega, h.lo, by have := h.out; omega, h.inp, h.mem⟩
theorem MB.top {c' : Cl} (h : MB N x) (hc : x.calls = cs ++ [c]) (h1 : c'.stack.length + x.calls.length ≤ N) (h2 : c'.opn.length ≤ N) (h3 : c'.locals.length ≤ 2 ^ 40) : MB N (x.setTop c') := by
 have hs : (x.setTop c').calls = cs ++ [c'] := setTop_calls hc
 have hl : (x.setTop c').calls.length = x.calls.length := by rw [hs, hc]; simp
 have hm : ∀ d ∈ (x.setTop c').calls, d ∈ x.calls ∨ d = c' := fun d hd => by
  rw [hs] at hd
  rcases List.mem_append.1 hd with hd | hd
  ·exact .inl (by rw [hc]; simp [hd])
  ·simp at hd; exact .inr hd
 refine ⟨h.n, by rw [hl]; exact h.calls, fun d hd => ?_, fun d hd => ?_, fun d hd => ?_, h.out, h.inp, h.mem⟩
 ·rw [hl]; rcases hm d hd with hd | rfl
  ·exact h.st d hd
  ·exact h1
 ·rcases hm d hd with hd | rfl
  ·exact h.op d hd
  ·exact h2
 ·rcases hm d hd with hd | rfl
  ·exact h.lo d hd
  ·exact h3
theorem MB.ends {s k : Int} (h : MB N x) : MB N (x.ends s k) := ⟨h.n, h.calls, h.st, h.op, h.lo, h.out, h.inp, h.mem⟩
theorem topK_some {α : Type} {k : Cl → Option α} {r : α} (h : topK x k = some r) : ∃ cs c, x.calls = cs ++ [c] ∧ k c = some r := by
 unfold topK at h
 cases hl : x.calls.getLast? with
 | none => rw [hl] at h; cases h
 | some c => rw [hl] at h; exact ⟨_, c, calls_split hl, h⟩
theorem popS_mb {α : Type} {k : Int → Ma → Option α} {r : α} (h : MB N x) (hk : popS x k = some r) : ∃ v y, MB N y ∧ k v y = some r ∧ y.out = x.out ∧ ∃ cs c c', x.calls = cs ++ [c] ∧ c.stack.getLast? = some v ∧ y = x.setTop c' ∧ c' = { c with stack := c.stack.dropLast } := by
 have hk0 := hk
 unfold popS at hk
 obtain ⟨cs, c, hc, hk⟩ := topK_some hk
 obtain ⟨v, hv, hk⟩ := popS_at hc hk0
 exact ⟨v, _, h.pop hc, hk, rfl, cs, c, _, hc, hv, rfl, rfl⟩
theorem pushS_mb {v : Int} (h : MB N x) (hN : N + 1 ≤ 2 ^ 38) (hk : pushS x v = some x') : MB (N + 1) x' := by
 unfold pushS at hk
 obtain ⟨cs, c, hc, hk⟩ := topK_some hk
 cases hk
 have hm : c ∈ x.calls := by rw [hc]; simp
 have h1 := h.st c hm; have h2 := h.op c hm
 exact (h.mono (Nat.le_succ N) hN).top hc (by simp; omega) (by simp; omega) (h.lo c hm)
theorem opensS_mb {l : Int} {b : Bool} (h : MB N x) (hN : N + 1 ≤ 2 ^ 38) (hk : opensS x l b = some x') : MB (N + 1) x' := by
 unfold opensS at hk
 obtain ⟨cs, c, hc, hk⟩ := topK_some hk
 cases hk
 have hm : c ∈ x.calls := by rw [hc]; simp
 have h1 := h.st c hm; have h2 := h.op c hm
 exact (h.mono (Nat.le_succ N) hN).top hc (by simp; omega) (by simp; omega) (h.lo c hm)
theorem dropc_mb (h : MB N x) (hc : x.calls = cs ++ [c]) : MB N { x with calls := cs } ∧ ∀ d ∈ cs, d.stack.length + (cs.length + 1) ≤ N := by
 have hl : x.calls.length = cs.length + 1 := by rw [hc]; simp
 have hm : ∀ d ∈ cs, d ∈ x.calls := fun d hd => by rw [hc]; simp [hd]
 have h1 := h.calls
 refine ⟨⟨h.n, by simp; omega, fun d hd => ?_, fun d hd => h.op d (hm d hd), fun d hd => h.lo d (hm d hd), h.out, h.inp, h.mem⟩, fun d hd => ?_⟩
 ·have := h.st d (hm d hd); simp; omega
 ·have := h.st d (hm d hd); omega
theorem leaveS_mb {g : F} {v : Int} (h : MB N x) (hc : x.calls = cs ++ [c]) (hk : leaveS x g v = some x') : MB N x' := by
 unfold leaveS at hk
 have hdl : x.calls.dropLast = cs := by rw [hc]; simp
 simp only [hdl] at hk
 obtain ⟨h1, h2⟩ := dropc_mb h hc
 split at hk
 ·cases hk; exact h1.ends
 split at hk
 ·unfold pushS at hk
  obtain ⟨cs2, c2, hc2, hk⟩ := topK_some hk
  cases hk
  have e : cs = cs2 ++ [c2] := hc2
  have hm : c2 ∈ cs := by rw [e]; simp
  have := h2 c2 hm
  exact h1.top hc2 (by simp; omega) (h1.op c2 hm) (h1.lo c2 hm)
 ·cases hk; exact h1
theorem returnsS_mb (h : MB N x) (hk : returnsS fs x = some x') : MB N x' := by
 unfold returnsS at hk
 obtain ⟨cs, c, hc, hk⟩ := topK_some hk
 split at hk
 ·cases hk
 split at hk
 ·obtain ⟨v, y, hy, hk, _, cs2, c2, c3, hc2, _, rfl, _⟩ := popS_mb h hk
  exact leaveS_mb hy (setTop_calls hc2) hk
 ·exact leaveS_mb h hc hk
theorem branchS_mb {n : Int} (h : MB N x) (hk : branchS fs x n = some x') : MB N x' := by
 unfold branchS at hk
 obtain ⟨cs, c, hc, hk⟩ := topK_some hk
 have hm : c ∈ x.calls := by rw [hc]; simp
 have h1 := h.st c hm; have h2 := h.op c hm
 split at hk
 ·cases hk
 rename_i hn
 split at hk
 ·exact returnsS_mb h hk
 rename_i hz
 split at hk
 ·cases hk
 split at hk
 ·cases hk
 dsimp only at hk
 split at hk
 ·unfold opensS at hk
  rw [topK_at (setTop_calls hc)] at hk
  cases hk
  rw [setTop2]
  exact h.top hc (by simp; omega) (by simp; omega) (h.lo c hm)
 ·cases hk
  exact h.top hc (by simp; omega) (by simp; omega) (h.lo c hm)
theorem popsS_mb {k : List Int → Ma → Option Ma} : ∀ (n : Nat) {x : Ma} {args : List Int}, MB N x → popsS n x args k = some x' → ∃ vs y, vs.length = n ∧ MB N y ∧ k (vs ++ args) y = some x'
 | 0, x, args, h, hk => ⟨[], x, rfl, h, hk⟩
 | n + 1, x, args, h, hk => by
  rw [popsS] at hk
  obtain ⟨v, y, hy, hk, _⟩ := popS_mb h hk
  obtain ⟨vs, z, h1, h2, h3⟩ := popsS_mb n hy hk
  exact ⟨vs ++ [v], z, by simp [h1], h2, by simpa using h3⟩
theorem callS_mb {f : Int} (h : MB N x) (hN : N + 1 ≤ 2 ^ 38) (h32 : 32 ≤ N) (hfs : ∀ g ∈ fs, g.params.length ≤ 2 ^ 38 ∧ g.locals.length ≤ 2 ^ 38 ∧ g.lists.length ≤ 2 ^ 38) (hk : callS fs x f = some x') : MB (N + 1) x' := by
 unfold callS at hk
 cases hg : fnAt fs f with
 | none => rw [hg] at hk; cases hk
 | some g =>
 rw [hg] at hk
 simp only at hk
 obtain ⟨i, _, hi, hgi⟩ := fnAt_some hg
 obtain ⟨g1, g2, g3⟩ := hfs g (hgi ▸ List.getElem_mem hi)
 obtain ⟨vs, y, hv, hy, hk⟩ := popsS_mb _ h hk
 split at hk
 ·cases hk; exact (hy.mono (Nat.le_succ N) hN).ends
 ·rename_i hl
  unfold opensS at hk
  rw [topK_at (cs := y.calls) (c := ⟨f, vs ++ [] ++ List.replicate g.locals.length 0, [], []⟩) rfl] at hk
  cases hk
  have h1 := hy.calls
  refine ⟨hN, by simp [Ma.setTop]; omega, fun d hd => ?_, fun d hd => ?_, fun d hd => ?_, by have := hy.out; simp [Ma.setTop]; omega, hy.inp, hy.mem⟩
  ·simp [Ma.setTop] at hd ⊢
   rcases hd with hd | rfl
   ·have := hy.st d hd; omega
   ·simp <;> omega
  ·simp [Ma.setTop] at hd
   rcases hd with hd | rfl
   ·have := hy.op d hd; omega
   ·simp
  ·simp [Ma.setTop] at hd
   rcases hd with hd | rfl
   ·exact hy.lo d hd
   ·simp; omega
theorem writeW_len {mem : List UInt8} {a n : Nat} {v : Int} : (writeW mem a v ((mem.drop a).take n).length).length = mem.length := by
 simp [writeW]; omega
theorem cellS_mb {at_ n : Int} {k : List UInt8 → Option Ma} (h : MB N x) (hk : cellS x at_ n k = some x') (hf : k ((x.memory.drop at_.toNat).take n.toNat) = some x' → MB N x') : MB N x' := by
 unfold cellS at hk
 split at hk
 ·cases hk
 split at hk
 ·cases hk; exact h.ends
 ·exact hf hk
set_option maxHeartbeats 2000000 in
theorem plainS_mb {w : W} (h : MB N x) (hN : N + 1 ≤ 2 ^ 38) (h32 : 32 ≤ N) (hfs : ∀ g ∈ fs, g.params.length ≤ 2 ^ 38 ∧ g.locals.length ≤ 2 ^ 38 ∧ g.lists.length ≤ 2 ^ 38) (hk : plainS fs x w = some x') : MB (N + 1) x' := by
 have up : ∀ {z : Ma}, MB N z → MB (N + 1) z := fun hz => hz.mono (Nat.le_succ N) hN
 unfold plainS at hk
 split at hk
 ·exact pushS_mb h hN hk
 split at hk
 ·obtain ⟨cs, c, hc, hk⟩ := topK_some hk
  split at hk
  ·cases hk
  split at hk
  ·cases hk
  ·exact pushS_mb h hN hk
 split at hk
 ·obtain ⟨v, y, hy, hk, _⟩ := popS_mb h hk
  obtain ⟨cs, c, hc, hk⟩ := topK_some hk
  split at hk
  ·cases hk
  ·cases hk
   have hm : c ∈ y.calls := by rw [hc]; simp
   exact up (hy.top hc (hy.st c hm) (hy.op c hm) (by simpa using hy.lo c hm))
 split at hk
 ·unfold binS at hk
  obtain ⟨b, y, hy, hk, _⟩ := popS_mb h hk
  obtain ⟨a, z, hz, hk, _⟩ := popS_mb hy hk
  split at hk
  ·cases hk
  split at hk
  ·cases hk
  split at hk
  ·cases hk; exact (up hz).ends
  ·exact pushS_mb hz hN hk
 split at hk
 ·obtain ⟨v, y, hy, hk, _⟩ := popS_mb h hk
  exact pushS_mb hy hN hk
 split at hk
 ·obtain ⟨v, y, hy, hk, _⟩ := popS_mb h hk
  exact pushS_mb hy hN hk
 split at hk
 ·obtain ⟨a, y, hy, hk, _⟩ := popS_mb h hk
  split at hk
  ·cases hk
  ·unfold cellS at hk
   split at hk
   ·cases hk
   split at hk
   ·cases hk; exact (up hy).ends
   ·exact pushS_mb hy hN hk
 split at hk
 ·obtain ⟨v, y, hy, hk, _⟩ := popS_mb h hk
  obtain ⟨a, z, hz, hk, _⟩ := popS_mb hy hk
  split at hk
  ·cases hk
  ·refine up (cellS_mb hz hk fun hk => ?_)
   cases hk
   exact ⟨hz.n, hz.calls, hz.st, hz.op, hz.lo, hz.out, hz.inp, by simp only; rw [writeW_len]; exact hz.mem⟩
 split at hk
 ·unfold callsS at hk
  split at hk
  ·split at hk
   ·exact pushS_mb h hN hk
   ·rename_i v l hi
    have hi2 := h.inp
    rw [hi] at hi2
    simp at hi2
    have hx : MB N { x with input := l } := ⟨h.n, h.calls, h.st, h.op, h.lo, h.out, by simp only; omega, h.mem⟩
    exact pushS_mb hx hN hk
  split at hk
  ·obtain ⟨v, y, hy, hk, _⟩ := popS_mb h hk
   cases hk
   have hy1 := up hy
   exact ⟨hy1.n, hy1.calls, hy1.st, hy1.op, hy1.lo, by have := hy.out; simp; omega, hy1.inp, hy1.mem⟩
  split at hk
  ·obtain ⟨v, y, hy, hk, _⟩ := popS_mb h hk
   cases hk
   exact (up hy).ends
  ·exact callS_mb h hN h32 hfs hk
 split at hk
 ·obtain ⟨v, y, hy, hk, _⟩ := popS_mb h hk
  cases hk; exact up hy
 split at hk
 ·cases hk; exact (up h).ends
 ·cases hk; exact up h
theorem doesS_mb {w : W} (h : MB N x) (hN : N + 1 ≤ 2 ^ 38) (h32 : 32 ≤ N) (hfs : ∀ g ∈ fs, g.params.length ≤ 2 ^ 38 ∧ g.locals.length ≤ 2 ^ 38 ∧ g.lists.length ≤ 2 ^ 38) (hk : doesS fs x w = some x') : MB (N + 1) x' := by
 have up : ∀ {z : Ma}, MB N z → MB (N + 1) z := fun hz => hz.mono (Nat.le_succ N) hN
 unfold doesS at hk
 split at hk
 ·exact opensS_mb h hN hk
 split at hk
 ·exact opensS_mb h hN hk
 split at hk
 ·obtain ⟨v, y, hy, hk, _⟩ := popS_mb h hk
  split at hk
  ·exact opensS_mb hy hN hk
  split at hk
  ·exact opensS_mb hy hN hk
  ·cases hk; exact up hy
 split at hk
 ·exact up (branchS_mb h hk)
 split at hk
 ·obtain ⟨v, y, hy, hk, _⟩ := popS_mb h hk
  split at hk
  ·exact up (branchS_mb hy hk)
  ·cases hk; exact up hy
 split at hk
 ·exact up (returnsS_mb h hk)
 ·exact plainS_mb h hN h32 hfs hk
theorem closes_mb {k : Nat} (hk : Closes fs k x x') (h : MB N x) : MB N x' := by
 induction hk with
 | over _ => exact h
 | stay _ _ _ => exact h
 | ret _ a _ hr _ ih => exact ih (returnsS_mb h hr)
 | @shut x _ _ c os o g ws _ _ a _ _ ih =>
  have hc := calls_split a.top
  have hm : c ∈ x.calls := by rw [hc]; simp
  refine ih (h.top hc (h.st c hm) ?_ (h.lo c hm))
  have := h.op c hm
  have e := a.opn
  rw [e] at this
  simp at this ⊢
  omega
end
end Go.Proofs.YthifgodgfhbnfaaGreatDoor.Rf
set_option linter.unusedSimpArgs false
set_option linter.unusedVariables false
namespace Go.Proofs.YthifgodgfhbnfaaGreatDoor.Rf
open Go Go.Abs Go.Proofs.YthifgodgfhbnfaaGreatDoor
section
variable {G : Env} {fs : List F} {mm mn : Int} {xo : Nat} {σ0 σ : AS} {O : List Nat} {x : Ma} {cs : List Cl} {c : Cl} {R : Out → AS → Prop} {fsv iv ov : AV} {mo co : Nat} {Lo : List Nat} {cc : List AV} {lv sv opv : AV} {L1 L2 : List Nat}
def FsB (fs : List F) : Prop := ∀ g ∈ fs, g.params.length ≤ 2 ^ 38 ∧ g.locals.length ≤ 2 ^ 38 ∧ g.lists.length ≤ 2 ^ 38
set_option maxHeartbeats 4000000 in
theorem plain_calls {N : Nat} {w : W} {x' : Ma} (h : RM fs mm mn xo σ0 O x σ) (hb : MB N x) (hc : x.calls = cs ++ [c]) (hfs : FsB fs) (hwn : -(2 ^ 63) ≤ w.n ∧ w.n < 2 ^ 63) (hty : w.op = 4 → w.ty = 1 ∨ w.ty = 2) (hr : plainS fs x w = some x')
  (hR : ∀ σ', RM fs mm mn xo σ0 O x' σ' → R (.ret (.tuple [])) σ') : ACalls Tryz.prog G 43 [.ptr xo 0, w.av] σ R := by
 refine calls43 rfl ?_
 obtain ⟨wop, wty, wn, wbody, wother, wname⟩ := w
 simp only at hwn hty
 obtain ⟨m1, m2, m3⟩ := hb.setTopc hc
 have bm := hb.mem
 have w1 : IntKind.wrap .i64 (cs.length : Int) = (cs.length : Int) := by rw [wrap_i64] <;> omega
 obtain ⟨fsv0, iv0, ov0, mo0, co0, cc0, lv0, sv0, opv0, L10, L20, V0⟩ := h.view hc
 have v0 := V0.ox
 have n1 : ¬ xo = σ.no := by have := V0.tops; omega
 have A1 : Adds σ (σ.newO [.int .i64 wop, .int .i64 wty, .int .i64 wn, .int .i64 wbody, .int .i64 wother, .str wname]) := (Adds.refl σ).newO
 have o1 : (σ.newO [.int .i64 wop, .int .i64 wty, .int .i64 wn, .int .i64 wbody, .int .i64 wother, .str wname]).objs σ.no = some [.int .i64 wop, .int .i64 wty, .int .i64 wn, .int .i64 wbody, .int .i64 wother, .str wname] := by simp
 have n3 : σ.no < (σ.newO [.int .i64 wop, .int .i64 wty, .int .i64 wn, .int .i64 wbody, .int .i64 wother, .str wname]).no := by simp
 simp [pc43, W.av, W.cs, splice, v0, n1, w1]
 generalize σ.newO [.int .i64 wop, .int .i64 wty, .int .i64 wn, .int .i64 wbody, .int .i64 wother, .str wname] = σ1 at *
 obtain ⟨O', k, back, hlt⟩ := h.anchorAt A1
 have nO : σ.no ∉ O' := fun q => by have := hlt _ q; omega
 have hR' : ∀ σ', RM fs mm mn xo σ1 O' x' σ' → R (.ret (.tuple [])) σ' := fun σ' h' => hR _ (back _ _ h')
 obtain ⟨fsv, iv, ov, mo, co, cc, lv, sv, opv, L1, L2, V⟩ := k.view hc
 have v1 := V.ox
 have v2 := V.oc
 have v3 := V.c1
 have v5 := V.len
 have w0 : (cs.length : Int) < (cs.length : Int) + 1 := by omega
 obtain ⟨t1, t2, t3, t4, t5, t6, t7, t8, t9, t10, t11⟩ := V.tops
 unfold plainS at hr
 simp only at hr
 by_cases p1 : wop = 1
 ·subst p1
  rw [if_pos rfl, pushS_at hc] at hr
  cases hr
  simp [o1]
  refine push_calls k hc (by omega) (by omega) fun σ' h' => ?_
  simp
  exact hR' _ h'
 rw [if_neg p1] at hr
 by_cases p2 : wop = 2
 ·subst p2
  rw [if_pos rfl, topK_at hc] at hr
  by_cases hn0 : wn < 0
  ·rw [if_pos hn0] at hr; cases hr
  rw [if_neg hn0] at hr
  cases hloc : c.locals[wn.toNat]? with
  | none => rw [hloc] at hr; cases hr
  | some v =>
  rw [hloc] at hr
  simp only at hr
  rw [pushS_at hc] at hr
  cases hr
  obtain ⟨hli, hle⟩ := List.getElem?_eq_some_iff.1 hloc
  rcases V.hl with ⟨q, _⟩ | ⟨lo, rfl, ho, hL⟩
  ·rw [q] at hli; simp at hli
  ·simp [o1, v1, v2, v3, w0, w1, ho, hloc]
   refine ⟨by omega, by omega, ?_⟩
   refine push_calls k hc (by omega) (by omega) fun σ' h' => ?_
   simp
   exact hR' _ h'
 rw [if_neg p2] at hr
 by_cases p3 : wop = 3
 ·subst p3
  rw [if_pos rfl] at hr
  obtain ⟨v, hv, hr⟩ := popS_at hc hr
  rw [topK_at (setTop_calls hc)] at hr
  by_cases hn0 : wn < 0 ∨ (c.locals.length : Int) ≤ wn
  ·rw [if_pos hn0] at hr; cases hr
  rw [if_neg hn0] at hr
  cases hr
  obtain ⟨u1, u2, u3, u4, u5, u6, u7, u8, u9, u10, u11⟩ := V0.tops
  have V' := V0.adds A1
  have y1 := V'.ox
  have y2 := V'.oc
  have y3 := V'.c1
  have y5 := V'.len
  rcases V'.hl with ⟨q, _⟩ | ⟨lo, rfl, ho, hL⟩
  ·rw [q] at hn0; simp at hn0; omega
  ·have e1 : ¬ lo = co0 := fun e => u2 (by simp [hL, ← e])
   have e2 : ¬ σ.no = co0 := by omega
   have e4 : ¬ lo = σ.no := by have := u11 lo (by simp [hL]); omega
   have e5 : ¬ xo = co0 := u1
   have e6 : ¬ xo = lo := fun e => u3 (by simp [hL, ← e])
   simp [o1, y1, y2, y3, w0, w1]
   refine pop_view V' (by omega) (by omega) hv fun sv' hsv => ?_
   have V2 := V'.stackV hsv
   have z1 := V2.ox
   have z2 := V2.oc
   have z3 := V2.c1
   have hni : wn.toNat < c.locals.length := by omega
   have fin := V2.setLoc (v := v) rfl hL hni
   have r1 : ∀ v, (splice cc0 (cs.length * 4 + 2) [v]).length = cc0.length := fun v => by simp [splice]; omega
   simp [o1, y1, y2, e1, e2, e4, e5, e6, ho, z3, w0, w1]
   exact ⟨by omega, by omega, by omega, hR _ fin⟩
 rw [if_neg p3] at hr
 by_cases p4 : wop = 4
 ·subst p4
  rw [if_pos rfl] at hr
  simp [o1]
  refine bin_calls (w := ⟨4, wty, wn, wbody, wother, wname⟩) k hb hc (hty rfl) hr fun σ' h' => ?_
  simp
  exact hR' _ h'
 rw [if_neg p4] at hr
 by_cases p5 : wop = 5
 ·subst p5
  rw [if_pos rfl] at hr
  obtain ⟨v, hv, hr⟩ := popS_at hc hr
  rw [pushS_at (setTop_calls hc)] at hr
  cases hr
  simp
  refine pop_calls k hc (by omega) (by omega) hv fun σ2 h2 => ?_
  by_cases hz : v = 0
  ·rw [if_pos hz] at hR'
   simp [hz]
   refine push_calls h2 (setTop_calls hc) (by omega) (by simp; omega) fun σ' h' => ?_
   simp
   exact hR' _ h'
  ·rw [if_neg hz] at hR'
   simp [hz]
   refine push_calls h2 (setTop_calls hc) (by omega) (by simp; omega) fun σ' h' => ?_
   simp
   exact hR' _ h'
 rw [if_neg p5] at hr
 by_cases p6 : wop = 6
 ·subst p6
  rw [if_pos rfl] at hr
  obtain ⟨v, hv, hr⟩ := popS_at hc hr
  rw [pushS_at (setTop_calls hc)] at hr
  cases hr
  simp
  refine pop_calls k hc (by omega) (by omega) hv fun σ2 h2 => ?_
  simp
  refine wrapI1_calls ?_
  simp
  refine push_calls h2 (setTop_calls hc) (by omega) (by simp; omega) fun σ' h' => ?_
  simp
  exact hR' _ h'
 rw [if_neg p6] at hr
 by_cases p8 : wop = 8
 ·subst p8
  rw [if_pos rfl] at hr
  obtain ⟨a, hv, hr⟩ := popS_at hc hr
  by_cases hin : inT 1 a = false
  ·rw [if_pos hin] at hr; cases hr
  rw [if_neg hin] at hr
  unfold cellS at hr
  by_cases hn8 : ¬ (wn = 1 ∨ wn = 4 ∨ wn = 8)
  ·rw [if_pos hn8] at hr; cases hr
  rw [if_neg hn8] at hr
  simp [o1]
  refine pop_calls k hc (by omega) (by omega) hv fun σ2 h2 => ?_
  have o2 := (h2.other n3 nO).trans o1
  simp [o2]
  refine load_calls h2 (setTop_calls hc) (by omega) (by simp; omega) (by simpa using hin) (by omega) (by simp [Ma.setTop]; omega) (fun q σ3 h3 => ?_) (fun q σ3 h3 => ?_)
  ·rw [if_pos q] at hr
   cases hr
   simp
   exact hR' _ h3
  ·rw [if_neg q] at hr
   dsimp only at hr
   rw [pushS_at (setTop_calls hc)] at hr
   cases hr
   simp
   exact hR' _ h3
 rw [if_neg p8] at hr
 by_cases p9 : wop = 9
 ·subst p9
  rw [if_pos rfl] at hr
  obtain ⟨v, hv, hr⟩ := popS_at hc hr
  obtain ⟨a, hv2, hr⟩ := popS_at (setTop_calls hc) hr
  by_cases hin : inT 1 a = false
  ·rw [if_pos hin] at hr; cases hr
  rw [if_neg hin] at hr
  unfold cellS at hr
  by_cases hn8 : ¬ (wn = 1 ∨ wn = 4 ∨ wn = 8)
  ·rw [if_pos hn8] at hr; cases hr
  rw [if_neg hn8] at hr
  simp
  refine pop_calls k hc (by omega) (by omega) hv fun σ2 h2 => ?_
  have o9 := (h2.other n3 nO).trans o1
  simp [o9]
  refine pop_calls h2 (setTop_calls hc) (by omega) (by simp; omega) hv2 fun σ3 h3 => ?_
  have o2 := (h3.other n3 nO).trans o1
  simp [o2]
  refine store_calls h3 (by simpa using hin) (by omega) (by simp [Ma.setTop]; omega) (fun q σ4 h4 => ?_) (fun q σ4 h4 => ?_)
  ·rw [if_pos q] at hr
   cases hr
   simp
   exact hR' _ h4
  ·rw [if_neg q] at hr
   cases hr
   simp
   exact hR' _ h4
 rw [if_neg p9] at hr
 by_cases p10 : wop = 10
 ·subst p10
  rw [if_pos rfl] at hr
  simp [o1]
  refine calls_calls k hb hc hfs hwn.2 hr fun σ' h' => ?_
  simp
  exact hR' _ h'
 rw [if_neg p10] at hr
 by_cases p18 : wop = 18
 ·subst p18
  rw [if_pos rfl] at hr
  obtain ⟨v, hv, hr⟩ := popS_at hc hr
  cases hr
  simp
  refine pop_calls k hc (by omega) (by omega) hv fun σ2 h2 => ?_
  simp
  exact hR' _ h2
 rw [if_neg p18] at hr
 by_cases p17 : wop = 17
 ·subst p17
  rw [if_pos rfl] at hr
  cases hr
  simp
  refine ends_calls k fun σ' h' => ?_
  simp
  exact hR' _ h'
 rw [if_neg p17] at hr
 cases hr
 simp [p1, p2, p3, p4, p5, p6, p8, p9, p10, p17, p18]
 exact hR' _ k
set_option maxHeartbeats 2000000 in
theorem does_calls {N : Nat} {w : W} {x' : Ma} (h : RM fs mm mn xo σ0 O x σ) (hb : MB N x) (hc : x.calls = cs ++ [c]) (hfs : FsB fs) (hwn : -(2 ^ 63) ≤ w.n ∧ w.n < 2 ^ 63) (hty : w.op = 4 → w.ty = 1 ∨ w.ty = 2) (hr : doesS fs x w = some x')
  (hR : ∀ σ', RM fs mm mn xo σ0 O x' σ' → R (.ret (.tuple [])) σ') : ACalls Tryz.prog G 26 [.ptr xo 0, w.av] σ R := by
 refine calls26 rfl ?_
 obtain ⟨wop, wty, wn, wbody, wother, wname⟩ := w
 simp only at hwn hty
 obtain ⟨m1, m2, m3⟩ := hb.setTopc hc
 have bo := hb.op c (by rw [hc]; simp)
 have bn := hb.n
 obtain ⟨fsv0, iv0, ov0, mo0, co0, cc0, lv0, sv0, opv0, L10, L20, V0⟩ := h.view hc
 have n1 : ¬ xo = σ.no := by have := V0.tops; omega
 have A1 : Adds σ (σ.newO [.int .i64 wop, .int .i64 wty, .int .i64 wn, .int .i64 wbody, .int .i64 wother, .str wname]) := (Adds.refl σ).newO
 have o1 : (σ.newO [.int .i64 wop, .int .i64 wty, .int .i64 wn, .int .i64 wbody, .int .i64 wother, .str wname]).objs σ.no = some [.int .i64 wop, .int .i64 wty, .int .i64 wn, .int .i64 wbody, .int .i64 wother, .str wname] := by simp
 have n3 : σ.no < (σ.newO [.int .i64 wop, .int .i64 wty, .int .i64 wn, .int .i64 wbody, .int .i64 wother, .str wname]).no := by simp
 simp [pc26, W.av, W.cs]
 generalize σ.newO [.int .i64 wop, .int .i64 wty, .int .i64 wn, .int .i64 wbody, .int .i64 wother, .str wname] = σ1 at *
 obtain ⟨O', k, back, hlt⟩ := h.anchorAt A1
 have nO : σ.no ∉ O' := fun q => by have := hlt _ q; omega
 have hR' : ∀ σ', RM fs mm mn xo σ1 O' x' σ' → R (.ret (.tuple [])) σ' := fun σ' h' => hR _ (back _ _ h')
 unfold doesS at hr
 simp only at hr
 have hop : ∀ {y : Ma} {d : Cl} {l : Int} {b : Bool}, y.calls = cs ++ [d] → opensS y l b = some (y.setTop { d with opn := d.opn ++ [⟨l, 0, d.stack.length, b⟩] }) := fun hy => topK_at hy
 by_cases p11 : wop = 11
 ·subst p11
  rw [if_pos rfl, hop hc] at hr
  cases hr
  simp [o1]
  refine opens_calls k hc (by omega) (by omega) (by omega) fun σ' h' => ?_
  simp
  exact hR' _ h'
 rw [if_neg p11] at hr
 by_cases p12 : wop = 12
 ·subst p12
  rw [if_pos rfl, hop hc] at hr
  cases hr
  simp [o1]
  refine opens_calls k hc (by omega) (by omega) (by omega) fun σ' h' => ?_
  simp
  exact hR' _ h'
 rw [if_neg p12] at hr
 by_cases p13 : wop = 13
 ·subst p13
  rw [if_pos rfl] at hr
  obtain ⟨v, hv, hr⟩ := popS_at hc hr
  simp
  refine pop_calls k hc (by omega) (by omega) hv fun σ2 h2 => ?_
  have o2 := (h2.other n3 nO).trans o1
  have hc2 := setTop_calls (c' := { c with stack := c.stack.dropLast }) hc
  by_cases hz : v = 0
  ·rw [if_neg (by simp [hz])] at hr
   by_cases hz2 : 0 ≤ wother
   ·rw [if_pos hz2, hop hc2] at hr
    cases hr
    simp [hz, hz2, o2]
    refine opens_calls h2 hc2 (by omega) (by simp; omega) (by simp; omega) fun σ' h' => ?_
    simp
    exact hR' _ h'
   ·rw [if_neg hz2] at hr
    cases hr
    simp [hz, hz2, o2]
    exact hR' _ h2
  ·rw [if_pos hz, hop hc2] at hr
   cases hr
   simp [hz, o2]
   refine opens_calls h2 hc2 (by omega) (by simp; omega) (by simp; omega) fun σ' h' => ?_
   simp
   exact hR' _ h'
 rw [if_neg p13] at hr
 by_cases p14 : wop = 14
 ·subst p14
  rw [if_pos rfl] at hr
  simp [o1]
  refine branch_calls k hb hr fun σ' h' => ?_
  simp
  exact hR' _ h'
 rw [if_neg p14] at hr
 by_cases p15 : wop = 15
 ·subst p15
  rw [if_pos rfl] at hr
  obtain ⟨v, hv, hr⟩ := popS_at hc hr
  simp
  refine pop_calls k hc (by omega) (by omega) hv fun σ2 h2 => ?_
  have o2 := (h2.other n3 nO).trans o1
  by_cases hz : v = 0
  ·rw [if_neg (by simp [hz])] at hr
   cases hr
   simp [hz, o2]
   exact hR' _ h2
  ·rw [if_pos hz] at hr
   simp [hz, o2]
   refine branch_calls h2 (hb.pop hc) hr fun σ' h' => ?_
   simp
   exact hR' _ h'
 rw [if_neg p15] at hr
 by_cases p16 : wop = 16
 ·subst p16
  rw [if_pos rfl] at hr
  simp
  refine returns_calls k hb hr fun σ' h' => ?_
  simp
  exact hR' _ h'
 rw [if_neg p16] at hr
 simp [p11, p12, p13, p14, p15, p16, o1]
 refine plain_calls (w := ⟨wop, wty, wn, wbody, wother, wname⟩) k hb hc hfs hwn hty hr fun σ' h' => ?_
 simp
 exact hR' _ h'
end
end Go.Proofs.YthifgodgfhbnfaaGreatDoor.Rf
set_option linter.unusedSimpArgs false
set_option linter.unusedVariables false
namespace Go.Proofs.YthifgodgfhbnfaaGreatDoor.Rf
open Go Go.Abs Go.Proofs.YthifgodgfhbnfaaGreatDoor
section
variable {G : Env} {fs : List F} {mm mn : Int} {xo : Nat} {σ0 σ : AS} {O : List Nat} {x : Ma} {cs : List Cl} {c : Cl} {R : Out → AS → Prop} {fsv iv ov : AV} {mo co : Nat} {Lo : List Nat} {cc : List AV} {lv sv opv : AV} {L1 L2 : List Nat}
structure TopV (fs : List F) (mm mn : Int) (xo : Nat) (σ0 : AS) (O : List Nat) (x : Ma) (σ : AS) (cs : List Cl) (c : Cl) (os : List Opn) (o : Opn) (g : F) (ws : List W) (fsv iv ov : AV) (mo co : Nat) (cc : List AV) (lv sv : AV) (L1 : List Nat) (oo : Nat) (j : List AV) (bb : Bool) (pv gl tv : AV) (lb : Bool) (wv : AV) (fi li : Nat) : Prop where
 V : View fs mm mn xo σ0 O x σ cs c fsv iv ov mo co cc lv sv (.slm oo 0 4 (os.length + 1)) L1 [oo]
 ho : σ.objs oo = some (oCs c.opn ++ j)
 hopn : c.opn = os ++ [o]
 cf : cc[cs.length * 4]? = some (.int .i64 (fi : Int))
 hix : ∀ K : AV → Prop, aindexAddr Tryz.prog 22 fsv (.int .i64 (fi : Int)) K = K (.pv (.stat bb) (.agg [.str g.name, pv, gl, .int .i64 g.type, tv]))
 hgv : FV (.agg [.str g.name, pv, gl, .int .i64 g.type, tv]) g
 htv : ListsV tv g.lists
 ol : o.list = (li : Int)
 hlx : ∀ K : AV → Prop, aindexAddr Tryz.prog 39 tv (.int .i64 (li : Int)) K = K (.pv (.stat lb) wv)
 hw : RepL wv ws
 oc : ((oCs c.opn ++ j).drop (os.length * 4)).take 4 = [.int .i64 (li : Int), .int .i64 o.done, .int .i64 o.height, .bool o.loop]
 ol2 : os.length * 4 + 4 ≤ (oCs c.opn ++ j).length
theorem RM.topv (h : RM fs mm mn xo σ0 O x σ) {os : List Opn} {o : Opn} {g : F} {ws : List W} (a : AtTop fs x c os o g ws) : ∃ fsv iv ov mo co cc lv sv L1 oo j bb pv gl tv lb wv fi li, TopV fs mm mn xo σ0 O x σ x.calls.dropLast c os o g ws fsv iv ov mo co cc lv sv L1 oo j bb pv gl tv lb wv fi li := by
 have hc := calls_split a.top
 obtain ⟨fsv, iv, ov, mo, co, cc, lv, sv, opv, L1, L2, V⟩ := h.view hc
 obtain ⟨fi, hci, hi, hgi⟩ := fnAt_some a.fn
 obtain ⟨bb, gv, hgv, hix⟩ := V.hfs.at hi
 rw [hgi] at hgv
 have hgv0 := hgv
 obtain ⟨pv, gl, tv, rfl, hpv, hgl, htv⟩ := hgv
 obtain ⟨li, hli⟩ := Int.eq_ofNat_of_zero_le a.at0
 have hl := a.list
 rw [hli, Int.toNat_natCast] at hl
 obtain ⟨hll, hle⟩ := List.getElem?_eq_some_iff.1 hl
 obtain ⟨lb, wv, hw, hlx⟩ := htv.at hll
 rw [hle] at hw
 have v0 := V.c0
 rw [hci] at v0
 rcases V.ho with ⟨q, _⟩ | ⟨oo, j, rfl, ho, rfl⟩
 ·rw [a.opn] at q; simp at q
 have e : c.opn.length = os.length + 1 := by rw [a.opn]; simp
 obtain ⟨q1, q2⟩ := oCs_at (l := c.opn) (p := os.length) (o := o) (by rw [a.opn]; simp) j
 rw [e] at V
 refine ⟨fsv, iv, ov, mo, co, cc, lv, sv, L1, oo, j, bb, pv, gl, tv, lb, wv, fi, li, ⟨V, ho, a.opn, v0, hix, hgv0, htv, hli, hlx, hw, ?_, q2⟩⟩
 rw [q1, oC, hli]
set_option maxRecDepth 10000 in
set_option maxHeartbeats 4000000 in
theorem closes_rounds {N : Nat} {x' : Ma} (hR : ∀ σ', RM fs mm mn xo σ0 O x' σ' → R (.ret (.tuple [])) σ') : ∀ {k : Nat} {x : Ma}, Closes fs k x x' → ∀ (a : Nat → AV) (τ : AS), RM fs mm mn xo σ0 O x τ → MB N x → a 0 = .ptr xo 0 →
  ARounds Tryz.prog G 83 pc25_l1 (ablock 0 (afin Tryz.prog [] R)) (k + 1) a τ := by
 intro k x hk
 induction hk with
 | @over x h =>
  intro a τ hr hb a0
  obtain ⟨fsv, iv, ov, mo, co, Lo, B⟩ := hr.bview
  have x1 := B.ox
  simp [pc25_l1, a0, x1, h]
  exact hR _ hr
 | @stay x c os o g ws h at_ hd =>
  intro a τ hr hb a0
  obtain ⟨fsv, iv, ov, mo, co, cc, lv, sv, L1, oo, j, bb, pv, gl, tv, lb, wv, fi, li, T⟩ := hr.topv at_
  obtain ⟨m1, m2, m3⟩ := hb.setTopc (calls_split at_.top)
  have mo1 := hb.op c (by rw [calls_split at_.top]; simp)
  have mn1 := hb.n
  have hol : c.opn.length = os.length + 1 := by rw [at_.opn]; simp
  generalize x.calls.dropLast = cs at *
  have x1 := T.V.ox
  have x2 := T.V.oc
  have x3 := T.cf
  have x4 := T.V.c3
  have f1 := T.V.hfs.one
  have t1 := T.htv.one
  have r1 := T.hw.one
  have r2 := T.hw.len
  have w1 : IntKind.wrap .i64 (cs.length : Int) = (cs.length : Int) := by rw [wrap_i64] <;> omega
  have w2 : IntKind.wrap .i64 (os.length : Int) = (os.length : Int) := by rw [wrap_i64] <;> omega
  have w0 : (cs.length : Int) < (cs.length : Int) + 1 := by omega
  have w3 : (os.length : Int) < (os.length : Int) + 1 := by omega
  obtain ⟨u1, u2, u3, u4, u5, u6, u7, u8, u9, u10, u11⟩ := T.V.tops
  have n1 : ¬ xo = τ.no := by omega
  have n2 : ¬ co = τ.no := by omega
  simp [pc25_l1, a0, x1, h, w1, w0, x2, x3, x4, w2, w3, T.ho, T.oc, splice4, n1, n2, f1, T.hix, t1, T.hlx, r1, r2, hd]
  exact ⟨by simpa using T.ol2, hR _ (hr.adds ((Adds.refl τ).newO.setO (Nat.le_refl _)))⟩
 | @ret x x1 x' n c o g ws h at_ hd hr1 _ ih =>
  intro a τ hr hb a0
  obtain ⟨fsv, iv, ov, mo, co, cc, lv, sv, L1, oo, j, bb, pv, gl, tv, lb, wv, fi, li, T⟩ := hr.topv at_
  obtain ⟨m1, m2, m3⟩ := hb.setTopc (calls_split at_.top)
  have mo1 := hb.op c (by rw [calls_split at_.top]; simp)
  have mn1 := hb.n
  generalize x.calls.dropLast = cs at *
  have y1 := T.V.ox
  have x2 := T.V.oc
  have x3 := T.cf
  have x4 : cc[cs.length * 4 + 3]? = some (.slm oo 0 4 1) := by simpa using T.V.c3
  have f1 := T.V.hfs.one
  have t1 := T.htv.one
  have r1 := T.hw.one
  have r2 := T.hw.len
  have w1 : IntKind.wrap .i64 (cs.length : Int) = (cs.length : Int) := by rw [wrap_i64] <;> omega
  have w2 : IntKind.wrap .i64 0 = 0 := by decide
  have toc : (oCs c.opn ++ j).take 4 = [.int .i64 (li : Int), .int .i64 o.done, .int .i64 o.height, .bool o.loop] := by simpa using T.oc
  have tol : 4 ≤ (oCs c.opn ++ j).length := by simpa using T.ol2
  have w0 : (cs.length : Int) < (cs.length : Int) + 1 := by omega
  obtain ⟨u1, u2, u3, u4, u5, u6, u7, u8, u9, u10, u11⟩ := T.V.tops
  have n1 : ¬ xo = τ.no := by omega
  have n2 : ¬ co = τ.no := by omega
  have hd' : ¬ o.done < (ws.length : Int) := by omega
  rw [ARounds_succ]
  simp [-ARounds_succ, pc25_l1, a0, y1, h, w1, w0, x2, x3, x4, w2, T.ho, toc, splice4, n1, n2, f1, T.hix, t1, T.hlx, r1, r2, hd']
  refine ⟨by simpa using tol, ?_⟩
  refine returns_calls (hr.adds ((Adds.refl τ).newO.setO (Nat.le_refl _))) hb hr1 fun σ' h' => ?_
  simp [-ARounds_succ]
  exact ih hR _ _ h' (returnsS_mb hb hr1) (by simp [a0])
 | @shut x x' n c os o g ws h hos at_ hd _ ih =>
  intro a τ hr hb a0
  have hc := calls_split at_.top
  have hpos := List.length_pos_iff.2 hos
  obtain ⟨fsv, iv, ov, mo, co, cc, lv, sv, L1, oo, j, bb, pv, gl, tv, lb, wv, fi, li, T⟩ := hr.topv at_
  obtain ⟨m1, m2, m3⟩ := hb.setTopc (calls_split at_.top)
  have mo1 := hb.op c (by rw [calls_split at_.top]; simp)
  have mn1 := hb.n
  have hol : c.opn.length = os.length + 1 := by rw [at_.opn]; simp
  generalize x.calls.dropLast = cs at *
  have x1 := T.V.ox
  have x2 := T.V.oc
  have x3 := T.cf
  have x4 := T.V.c3
  have f1 := T.V.hfs.one
  have t1 := T.htv.one
  have r1 := T.hw.one
  have r2 := T.hw.len
  have w1 : IntKind.wrap .i64 (cs.length : Int) = (cs.length : Int) := by rw [wrap_i64] <;> omega
  have w2 : IntKind.wrap .i64 (os.length : Int) = (os.length : Int) := by rw [wrap_i64] <;> omega
  have w0 : (cs.length : Int) < (cs.length : Int) + 1 := by omega
  have w3 : (os.length : Int) < (os.length : Int) + 1 := by omega
  obtain ⟨u1, u2, u3, u4, u5, u6, u7, u8, u9, u10, u11⟩ := T.V.tops
  have n1 : ¬ xo = τ.no := by omega
  have n2 : ¬ co = τ.no := by omega
  have hd' : ¬ o.done < (ws.length : Int) := by omega
  have w4 : ¬ (os.length : Int) = 0 := by omega
  have n3 : ¬ oo = τ.no := by have := u11 oo (by simp); omega
  rw [ARounds_succ]
  simp [-ARounds_succ, pc25_l1, a0, x1, h, w1, w0, x2, x3, x4, w2, w3, w4, T.ho, T.oc, splice4, n1, n2, n3, f1, T.hix, t1, T.hlx, r1, r2, hd', hos]
  have A1 : Adds τ ((τ.newO [.int .i64 0, .int .i64 0, .int .i64 0, .bool false]).setO τ.no [.int .i64 (li : Int), .int .i64 o.done, .int .i64 o.height, .bool o.loop]) := (Adds.refl τ).newO.setO (Nat.le_refl _)
  have V1 := T.V.adds A1
  have e1 := V1.open3 (.slm oo 0 4 os.length)
  have n4 : ¬ oo = co := fun e => u2 (by simp [← e])
  obtain ⟨j', hj'⟩ := oCs_take c.opn os.length j
  have etk : c.opn.take os.length = os := by rw [at_.opn]; simp
  rw [etk] at hj'
  refine ⟨by simpa using T.ol2, by omega, T.V.len, ih hR _ _ (V1.openOld (l' := os) (v' := .slm oo 0 4 os.length) (j2 := cc.drop (cs.length * 4 + 4)) (by simp) (by simp) (fun _ _ => rfl) (fun o' _ q _ => by simp [q]) (.inr ⟨oo, j', rfl, ?_, rfl⟩) (by rw [setO_objs, upd_same, e1])) ?_ (by simp [a0])⟩
  ·simp [n3, n4, T.ho]; exact hj'
  ·refine hb.top hc (hb.st c (by rw [hc]; simp)) ?_ (hb.lo c (by rw [hc]; simp))
   show os.length ≤ N
   omega
theorem closes_calls {N k : Nat} {x' : Ma} (h : RM fs mm mn xo σ0 O x σ) (hb : MB N x) (hk : Closes fs k x x') (hR : ∀ σ', RM fs mm mn xo σ0 O x' σ' → R (.ret (.tuple [])) σ') : ACalls Tryz.prog G 25 [.ptr xo 0] σ R := by
 refine calls25 rfl ?_
 simp [pc25]
 exact aloop_rounds (k + 1) (closes_rounds hR hk _ _ h hb (by simp))
end
end Go.Proofs.YthifgodgfhbnfaaGreatDoor.Rf
set_option linter.unusedSimpArgs false
set_option linter.unusedVariables false
namespace Go.Proofs.YthifgodgfhbnfaaGreatDoor.Rf
open Go Go.Abs Go.Proofs.YthifgodgfhbnfaaGreatDoor
def WsOk (fs : List F) : Prop := ∀ f ∈ fs, ∀ l ∈ f.lists, l.length ≤ 2 ^ 38 ∧ ∀ w ∈ l, (-(2 ^ 63) ≤ w.n ∧ w.n < 2 ^ 63) ∧ (w.op = 4 → w.ty = 1 ∨ w.ty = 2)
theorem oCs_done {os : List Opn} {o : Opn} {d : Int} (j : List AV) : splice (oCs (os ++ [o]) ++ j) (os.length * 4 + 1) [.int .i64 d] = oCs (os ++ [{ o with done := d }]) ++ j := by
 have hl := oCs_length os
 rw [oCs_snoc, oCs_snoc, List.append_assoc, List.append_assoc, ← hl]
 simp [splice, oC, List.take_append, List.drop_append]
 rw [List.take_of_length_le (by omega), List.drop_eq_nil_of_le (by omega)]
 simp [Nat.add_assoc]
section
variable {G : Env} {fs : List F} {mm mn : Int} {xo to : Nat} {σ0 σ : AS} {O : List Nat} {x : Ma} {cs : List Cl} {c : Cl} {R : Out → AS → Prop} {fsv iv ov : AV} {mo co : Nat} {Lo : List Nat} {cc : List AV} {lv sv opv : AV} {L1 L2 : List Nat}
set_option maxRecDepth 10000 in
set_option maxHeartbeats 4000000 in
theorem run_rounds {x' : Ma} {S : Int} (hfs : FsB fs) (hws : WsOk fs) (hS : S ≤ 2 ^ 38)
  (hR : ∀ (a : Nat → AV) τ, a 7 = .ptr xo 0 → a 6 = .ptr to 0 → RM fs mm mn xo σ0 O x' τ → avc Tryz.prog G 143 pc11_r1 (afin Tryz.prog [.cell 6 33] R) a τ) :
  ∀ {n : Nat} {x : Ma}, Runs fs n x x' → ∀ (N i : Nat) (a : Nat → AV) (τ : AS), RM fs mm mn xo σ0 O x τ → MB N x → 32 ≤ N → N + n ≤ 2 ^ 38 → i + n = S.toNat → a 2 = .int .i64 S → a 6 = .ptr to 0 → a 7 = .ptr xo 0 → a 8 = .int .i64 (i : Int) →
  ARounds Tryz.prog G 143 pc11_l1 (ablock 0 (athen (avc Tryz.prog G 143 pc11_r1 (afin Tryz.prog [.cell 6 33] R)) (afin Tryz.prog [.cell 6 33] R))) (n + 1) a τ := by
 intro n x hk
 induction hk with
 | @over n x h =>
  intro N i a τ hr hb _ _ hi a2 a6 a7 a8
  obtain ⟨fsv, iv, ov, mo, co, Lo, B⟩ := hr.bview
  have x1 := B.ox
  rw [ARounds_succ]
  by_cases hlt : (i : Int) < S
  ·simp [-ARounds_succ, pc11_l1, a2, a6, a7, a8, x1, h, hlt]
   exact hR _ _ (by simp [a7]) (by simp [a6]) hr
  ·simp [-ARounds_succ, pc11_l1, a2, a6, a7, a8, x1, h, hlt]
   exact hR _ _ (by simp [a7]) (by simp [a6]) hr
 | @out x h =>
  intro N i a τ hr hb _ _ hi a2 a6 a7 a8
  obtain ⟨fsv, iv, ov, mo, co, Lo, B⟩ := hr.bview
  have x1 := B.ox
  rw [ARounds_succ]
  have hlt : ¬ (i : Int) < S := by omega
  simp [-ARounds_succ, pc11_l1, a2, a6, a7, a8, x1, h, hlt]
  exact hR _ _ (by simp [a7]) (by simp [a6]) hr
 | @step x x1 x2 x' n k c os o g ws w h at_ h0 hw hd hc r ih =>
  intro N i a τ hr hb hN1 hN2 hi a2 a6 a7 a8
  have hc0 := calls_split at_.top
  obtain ⟨fsv, iv, ov, mo, co, cc, lv, sv, L1, oo, j, bb, pv, gl, tv, lb, wv, fi, li, T⟩ := hr.topv at_
  obtain ⟨m1, m2, m3⟩ := hb.setTopc hc0
  have mo1 := hb.op c (by rw [hc0]; simp)
  have mn1 := hb.n
  have hol : c.opn.length = os.length + 1 := by rw [at_.opn]; simp
  generalize hcs : x.calls.dropLast = cs at *
  obtain ⟨di, hdi⟩ := Int.eq_ofNat_of_zero_le h0
  rw [hdi, Int.toNat_natCast] at hw
  obtain ⟨hwl, hwe⟩ := List.getElem?_eq_some_iff.1 hw
  obtain ⟨wb, hwx⟩ := T.hw.at hwl
  rw [hwe] at hwx
  have hgm : g ∈ fs := by
   obtain ⟨fi', _, hi', e'⟩ := fnAt_some at_.fn
   exact e' ▸ List.getElem_mem hi'
  have hlm : ws ∈ g.lists := List.mem_of_getElem? at_.list
  have hwm : w ∈ ws := List.mem_of_getElem? hw
  obtain ⟨hwsl, hwok⟩ := hws g hgm ws hlm
  obtain ⟨hwn, hwt⟩ := hwok w hwm
  have x1' := T.V.ox
  have x2' := T.V.oc
  have x3 := T.cf
  have x4 := T.V.c3
  have f1 := T.V.hfs.one
  have t1 := T.htv.one
  have r1 := T.hw.one
  have w1 : IntKind.wrap .i64 (cs.length : Int) = (cs.length : Int) := by rw [wrap_i64] <;> omega
  have w2 : IntKind.wrap .i64 (os.length : Int) = (os.length : Int) := by rw [wrap_i64] <;> omega
  have w0 : (cs.length : Int) < (cs.length : Int) + 1 := by omega
  have w3 : (os.length : Int) < (os.length : Int) + 1 := by omega
  have w4 : IntKind.wrap .i64 ((di : Int) + 1) = (di : Int) + 1 := by rw [wrap_i64] <;> omega
  have w5 : IntKind.wrap .i64 ((i : Int) + 1) = ((i + 1 : Nat) : Int) := by rw [wrap_i64] <;> omega
  obtain ⟨u1, u2, u3, u4, u5, u6, u7, u8, u9, u10, u11⟩ := T.V.tops
  have n1 : ¬ xo = τ.no := by omega
  have n2 : ¬ co = τ.no := by omega
  have n3 : ¬ oo = τ.no := by have := u11 oo (by simp); omega
  have n4 : ¬ xo = oo := fun e => u3 (by simp [e])
  have n5 : ¬ co = oo := fun e => u2 (by simp [e])
  have n6 : ¬ τ.no = oo := fun e => n3 e.symm
  have hlt : (i : Int) < S := by omega
  have toc := T.oc
  rw [hdi] at toc
  rw [ARounds_succ]
  obtain ⟨wop, wty, wn, wbody, wother, wname⟩ := w
  simp [-ARounds_succ, pc11_l1, a2, a6, a7, a8, x1', h, hlt, w1, w0, x2', x3, x4, w2, w3, w4, w5, T.ho, toc, splice4, n1, n2, n3, n4, n5, n6, f1, T.hix, t1, T.hlx, r1, hwx, W.av, W.cs]
  have A1 : Adds τ ((τ.newO [.int .i64 0, .int .i64 0, .int .i64 0, .bool false]).setO τ.no [.int .i64 (li : Int), .int .i64 (di : Int), .int .i64 o.height, .bool o.loop]) := (Adds.refl τ).newO.setO (Nat.le_refl _)
  have V1 := T.V.adds A1
  have es : splice (oCs c.opn ++ j) (os.length * 4 + 1) [.int .i64 ((di : Int) + 1)] = oCs (os ++ [{ o with done := (di : Int) + 1 }]) ++ j := by rw [at_.opn]; exact oCs_done j
  have k0 : RM fs mm mn xo σ0 O (x.setTop { c with opn := os ++ [{ o with done := o.done + 1 }] }) (((τ.newO [.int .i64 0, .int .i64 0, .int .i64 0, .bool false]).setO τ.no [.int .i64 (li : Int), .int .i64 (di : Int), .int .i64 o.height, .bool o.loop]).setO oo (splice (oCs c.opn ++ j) (os.length * 4 + 1) [.int .i64 ((di : Int) + 1)])) := by
   rw [es, hdi]
   refine V1.openOld (v' := .slm oo 0 4 (os.length + 1)) (j2 := cc.drop (cs.length * 4 + 4)) (by simp) (by simp) (fun _ _ => rfl) (fun o' _ _ q => ?_) (.inr ⟨oo, j, by simp, by simp, rfl⟩) ?_
   ·have : o' ≠ oo := fun e => q (by simp [e])
    simp [this]
   ·rw [← T.V.split.1]
    simp [n5, n2, x2']
  have hcx : (x.setTop { c with opn := os ++ [{ o with done := o.done + 1 }] }).calls = cs ++ [{ c with opn := os ++ [{ o with done := o.done + 1 }] }] := setTop_calls hc0
  have hbx : MB N (x.setTop { c with opn := os ++ [{ o with done := o.done + 1 }] }) := hb.top hc0 (hb.st c (by rw [hc0]; simp)) (by simp; omega) (hb.lo c (by rw [hc0]; simp))
  have hbd := doesS_mb hbx (by omega) hN1 hfs hd
  refine ⟨by simpa using T.ol2, by have := T.ol2; simp at this; omega, ?_⟩
  refine does_calls (w := ⟨wop, wty, wn, wbody, wother, wname⟩) k0 hbx hcx hfs hwn hwt hd fun σ' h' => ?_
  simp [-ARounds_succ, a7]
  refine closes_calls h' hbd hc fun σ2 h2 => ?_
  simp [-ARounds_succ, a8, w5]
  exact ih hR (N + 1) (i + 1) _ _ h2 (closes_mb hc hbd) (by omega) (by omega) (by omega) (by simp [a2]) (by simp [a6]) (by simp [a7]) (by simp)
end
end Go.Proofs.YthifgodgfhbnfaaGreatDoor.Rf
set_option linter.unusedSimpArgs false
set_option linter.unusedVariables false
namespace Go.Proofs.YthifgodgfhbnfaaGreatDoor.Rf
open Go Go.Abs Go.Proofs.YthifgodgfhbnfaaGreatDoor
def pc11_a : PC := match pc11 with | .seq a _ => a | _ => .skip
def pc11_b : PC := match pc11 with | .seq _ (.seq b _) => b | _ => .skip
def pc11_t : PC := match pc11 with | .seq _ (.seq _ t) => t | _ => .skip
theorem pc11_split : pc11 = .seq pc11_a (.seq pc11_b pc11_t) := rfl
def StillOr (R : Out → AS → Prop) (o : Out) (σ' : AS) : Prop := R o σ' ∨ ∃ ob sz rows rest, o = .ret (.agg (.slm ob 0 sz rows.length :: rest)) ∧ σ'.objs ob = some (flat rows) ∧ (∀ x ∈ rows, x.cells.length = sz) ∧ R (.ret (.agg (.sl (.stat false) sz rows :: rest))) (σ'.still ob)
theorem stilling {P : Program} {G : Env} {f : FuncId} {args : List AV} {σ : AS} {R : Out → AS → Prop} (h : ACalls P G f args σ (StillOr R)) : ACalls P G f args σ R := stillOr h
section
variable {G : Env} {fs : List F} {mm mn : Int} {xo to : Nat} {σ0 σ : AS} {O : List Nat} {x : Ma} {cs : List Cl} {c : Cl} {R : Out → AS → Prop} {fsv iv ov : AV} {mo co : Nat} {Lo : List Nat} {cc : List AV} {lv sv opv : AV} {L1 L2 : List Nat}
theorem RM.outv (h : RM fs mm mn xo σ0 O x σ) : ∃ fsv iv mo co ov Lo, σ.objs xo = some [fsv, .int .i64 mm, .int .i64 mn, iv, .slm mo 0 1 x.memory.length, .slm co 0 4 x.calls.length, ov, .int .i64 x.status, .int .i64 x.code] ∧ FsV fsv fs ∧ IntsV iv x.input ∧ LocV σ ov x.out Lo ∧ ∀ p ∈ Lo, (p ∈ O ∨ σ0.no ≤ p) ∧ p ≠ xo := by
 obtain ⟨_, _, _, _, P, ⟨fsv, iv, mo, co, ov, Lo, rows, junk, a1, a2, a3, a4, a5, a6, a7, a8, a9, a10⟩, h6⟩ := h
 subst a8
 refine ⟨fsv, iv, mo, co, ov, Lo, a1, a2, a3, a5, fun p hp => ⟨h6 p (by simp [hp]), fun e => ?_⟩⟩
 rw [List.nodup_cons] at a9
 exact a9.1 (by simp [← e, hp])
theorem RM.init {P : List Nat} (h : RSt fs mm mn xo x σ P) : RM fs mm mn xo σ P x σ := ⟨Nat.le_refl _, Nat.le_refl _, fun _ _ => rfl, fun _ _ _ => rfl, P, h, fun p hp => .inl hp⟩
theorem amake_bytesR {n : Int} (h0 : 0 ≤ n) (h1 : n ≤ 4096) {σ : AS} {K : AV → AS → Prop} (h : K (.slm σ.no 0 1 n.toNat) (σ.newO (bytesV (List.replicate n.toNat 0)))) : amake Tryz.prog 51 (.int .i64 n) (.int .i64 n) σ K := by
 have e : flat (List.replicate n.toNat (AV.int .u8 0)) = bytesV (List.replicate n.toNat 0) := by
  have : List.replicate n.toNat (AV.int .u8 0) = (List.replicate n.toNat (0 : Int)).map (.int .u8) := by simp
  generalize n.toNat = k
  induction k with
  | zero => rfl
  | succ k ih => simp only [List.replicate_succ, flat, List.flatMap_cons, bytesV, List.map_cons] at ih ⊢; rw [ih]; rfl
 exact ⟨1, 1, .int .u8 0, by simp, by simp, by simp, rfl, rfl, rfl, h0, by omega, by omega, by rw [e]; exact h⟩
theorem amake_intsR {n : Nat} (h1 : n ≤ 2 ^ 38) {σ : AS} {K : AV → AS → Prop} (h : K (.slm σ.no 0 1 n) (σ.newO ((List.replicate n (0 : Int)).map (.int .i64)))) : amake Tryz.prog 25 (.int .i64 (n : Int)) (.int .i64 (n : Int)) σ K := by
 refine ⟨1, 8, .int .i64 0, by simp, by simp, by simp, rfl, rfl, rfl, by omega, by omega, by simp; omega, ?_⟩
 have : List.replicate n (AV.int .i64 0) = (List.replicate n (0 : Int)).map (.int .i64) := by simp
 rw [Int.toNat_natCast, this, flat_ints]
 exact h
set_option maxRecDepth 10000 in
set_option maxHeartbeats 4000000 in
theorem run_tail {m : M} {fsv iv : AV} {input : List Int} {steps : Int} {g : F} {res : List Int × Int × Int} (hfv : FsV fsv m.funcs) (hfs : FsB m.funcs) (hws : WsOk m.funcs) (hg : fnAt m.funcs m.main = some g) (hi : IntsV iv input) (hil : input.length ≤ 2 ^ 38) (hs : steps ≤ 2 ^ 37) (hmem : m.memory.toNat ≤ 4096)
  (hfin : Fin m.funcs steps.toNat ⟨input, List.replicate m.memory.toNat 0, [⟨m.main, List.replicate g.locals.length 0, [], [⟨(g.lists.length : Int) - 1, 0, 0, false⟩]⟩], [], 0, 0⟩ res)
  (hR : ∀ ov σ', IntsV ov res.1 → Adds σ σ' → R (.ret (.agg [ov, .int .i64 res.2.1, .int .i64 res.2.2])) σ')
  {a : Nat → AV} {τ : AS} {xo mo : Nat} (a2 : a 2 = .int .i64 steps) (a3 : a 3 = .ptr σ.no 0) (a6 : a 6 = .ptr (σ.no + 1) 0) (a7 : a 7 = .ptr xo 0) (o3 : τ.objs σ.no = some [fsv, .int .i64 m.memory, .int .i64 m.main]) (o6 : τ.objs (σ.no + 1) = some [.nilsl, .int .i64 0, .int .i64 0])
  (ox : τ.objs xo = some [fsv, .int .i64 m.memory, .int .i64 m.main, iv, .slm mo 0 1 m.memory.toNat, .nilsl, .nilsl, .int .i64 0, .int .i64 0]) (om : τ.objs mo = some (bytesV (List.replicate m.memory.toNat 0))) (A : Adds σ τ) (lts : σ.no + 1 < xo ∧ σ.no + 1 < mo ∧ xo ≠ mo ∧ xo < τ.no ∧ mo < τ.no) :
  avc Tryz.prog G 143 pc11_t (afin Tryz.prog [.cell 6 33] (StillOr R)) a τ := by
 obtain ⟨l1, l2, l3, l4, l5⟩ := lts
 obtain ⟨fi, hci, hlt, hgi⟩ := fnAt_some hg
 obtain ⟨bb, gv, hgv, hix⟩ := hfv.at hlt
 rw [hgi] at hgv
 rw [← hci] at hix
 obtain ⟨pv, gl, tv, rfl, hpv, hgl, htv⟩ := hgv
 obtain ⟨gb1, gb2, gb3⟩ := hfs g (hgi ▸ List.getElem_mem hlt)
 have p1 := hpv.one
 have p2 := hgl.one
 have p3 := hgl.len
 have p4 := htv.one
 have p5 := htv.len
 have f1 := hfv.one
 have i1 := hi.one
 have n1 : ¬ σ.no = τ.no := by omega
 have n2 : ¬ xo = τ.no := by omega
 have n3 : ¬ σ.no = xo := by omega
 have w1 : IntKind.wrap .i64 ((g.lists.length : Int) - 1) = (g.lists.length : Int) - 1 := by rw [wrap_i64] <;> omega
 simp [pc11_t, pc11, a2, a3, a6, a7, o3, ox, f1, i1, hix, p1, p2, p3, p4, p5]
 refine amake_intsR (by omega) ?_
 simp [a3, a7, o3, ox, f1, i1, hix, p1, p2, p3, p4, p5, n1, n2, n3, splice, w1]
 have rm : List.replicate g.locals.length (AV.int .i64 0) = (List.replicate g.locals.length (0 : Int)).map (.int .i64) := by simp
 refine ACalls.own (f := τ.nf) (fo := xo) (j := 5) (sz := 4) (b := true) (by simp) (by rw [setO_objs, upd_same]) rfl ?_
 have n4 : ¬ mo = τ.no := by omega
 have n5 : ¬ mo = xo := fun e => l3 e.symm
 have hS : RSt m.funcs m.memory m.main xo ⟨input, List.replicate m.memory.toNat 0, [⟨m.main, List.replicate g.locals.length 0, [], []⟩], [], 0, 0⟩
   (((τ.newO (List.replicate g.locals.length (AV.int .i64 0))).newF.setO xo [fsv, .int .i64 m.memory, .int .i64 m.main, iv, .slm mo 0 1 m.memory.toNat, .sl (.fam τ.nf true) 4 [.agg [.int .i64 m.main, .slm τ.no 0 1 g.locals.length, .nilsl, .nilsl]], .nilsl, .int .i64 0, .int .i64 0]).own τ.nf xo
    ([fsv, AV.int .i64 m.memory, .int .i64 m.main, iv, .slm mo 0 1 m.memory.toNat, .sl (.fam τ.nf true) 4 [.agg [.int .i64 m.main, .slm τ.no 0 1 g.locals.length, .nilsl, .nilsl]], .nilsl, .int .i64 0, .int .i64 0].set 5 (.slm (τ.no + 1) 0 4 1)) (flat [.agg [.int .i64 m.main, .slm τ.no 0 1 g.locals.length, .nilsl, .nilsl]])) [xo, mo, τ.no + 1, τ.no] := by
  have n6 : ¬ xo = τ.no + 1 := by omega
  have n7 : ¬ mo = τ.no + 1 := by omega
  refine ⟨fsv, iv, mo, τ.no + 1, .nilsl, [], [([.int .i64 m.main, .slm τ.no 0 1 g.locals.length, .nilsl, .nilsl], [τ.no])], [], by simp [n6], hfv, hi, by simp [n4, n5, n7, om], .inl ⟨rfl, rfl, rfl⟩, by simp [flat, cellsR], .cons ⟨.slm τ.no 0 1 g.locals.length, .nilsl, .nilsl, [τ.no], [], rfl, .inr ⟨τ.no, by simp, ?_, rfl⟩, .inl ⟨rfl, rfl⟩, .inl ⟨rfl, rfl, rfl⟩, rfl⟩ .nil, by simp [objsR], ?_, fun p hp => ?_⟩
  ·have : ¬ τ.no = xo := by omega
   simp [this]
  ·have g1 : ¬ mo = τ.no + 1 := by omega
   have g2 : ¬ xo = τ.no + 1 := by omega
   have g3 : ¬ mo = τ.no := by omega
   have g4 : ¬ τ.no + 1 = τ.no := by omega
   rw [List.nodup_cons, List.nodup_cons, List.nodup_cons]
   simp only [List.mem_cons, List.not_mem_nil, or_false, not_or]
   exact ⟨⟨l3, g2, n2⟩, ⟨g1, g3⟩, g4, List.nodup_cons.2 ⟨by simp, List.nodup_nil⟩⟩
  ·simp only [List.mem_cons, List.not_mem_nil, or_false] at hp
   show p < τ.no + 1 + 1
   omega
 have hS0 : ∀ o, o < τ.no → o ≠ xo → (((τ.newO (List.replicate g.locals.length (AV.int .i64 0))).newF.setO xo [fsv, .int .i64 m.memory, .int .i64 m.main, iv, .slm mo 0 1 m.memory.toNat, .sl (.fam τ.nf true) 4 [.agg [.int .i64 m.main, .slm τ.no 0 1 g.locals.length, .nilsl, .nilsl]], .nilsl, .int .i64 0, .int .i64 0]).own τ.nf xo
    ([fsv, AV.int .i64 m.memory, .int .i64 m.main, iv, .slm mo 0 1 m.memory.toNat, .sl (.fam τ.nf true) 4 [.agg [.int .i64 m.main, .slm τ.no 0 1 g.locals.length, .nilsl, .nilsl]], .nilsl, .int .i64 0, .int .i64 0].set 5 (.slm (τ.no + 1) 0 4 1)) (flat [.agg [.int .i64 m.main, .slm τ.no 0 1 g.locals.length, .nilsl, .nilsl]])).objs o = τ.objs o := fun o h1 h2 => by
  have h3 : o ≠ τ.no := by omega
  have h4 : o ≠ τ.no + 1 := by omega
  simp [h2, h3, h4]
 have hSF : ∀ f, f < τ.nf → (((τ.newO (List.replicate g.locals.length (AV.int .i64 0))).newF.setO xo [fsv, .int .i64 m.memory, .int .i64 m.main, iv, .slm mo 0 1 m.memory.toNat, .sl (.fam τ.nf true) 4 [.agg [.int .i64 m.main, .slm τ.no 0 1 g.locals.length, .nilsl, .nilsl]], .nilsl, .int .i64 0, .int .i64 0]).own τ.nf xo
    ([fsv, AV.int .i64 m.memory, .int .i64 m.main, iv, .slm mo 0 1 m.memory.toNat, .sl (.fam τ.nf true) 4 [.agg [.int .i64 m.main, .slm τ.no 0 1 g.locals.length, .nilsl, .nilsl]], .nilsl, .int .i64 0, .int .i64 0].set 5 (.slm (τ.no + 1) 0 4 1)) (flat [.agg [.int .i64 m.main, .slm τ.no 0 1 g.locals.length, .nilsl, .nilsl]])).F f = τ.F f := fun f h1 => by
  have h2 : f ≠ τ.nf := by omega
  simp [h2]
 have hSn : τ.no ≤ (((τ.newO (List.replicate g.locals.length (AV.int .i64 0))).newF.setO xo [fsv, .int .i64 m.memory, .int .i64 m.main, iv, .slm mo 0 1 m.memory.toNat, .sl (.fam τ.nf true) 4 [.agg [.int .i64 m.main, .slm τ.no 0 1 g.locals.length, .nilsl, .nilsl]], .nilsl, .int .i64 0, .int .i64 0]).own τ.nf xo
    ([fsv, AV.int .i64 m.memory, .int .i64 m.main, iv, .slm mo 0 1 m.memory.toNat, .sl (.fam τ.nf true) 4 [.agg [.int .i64 m.main, .slm τ.no 0 1 g.locals.length, .nilsl, .nilsl]], .nilsl, .int .i64 0, .int .i64 0].set 5 (.slm (τ.no + 1) 0 4 1)) (flat [.agg [.int .i64 m.main, .slm τ.no 0 1 g.locals.length, .nilsl, .nilsl]])).no ∧ τ.nf ≤ (((τ.newO (List.replicate g.locals.length (AV.int .i64 0))).newF.setO xo [fsv, .int .i64 m.memory, .int .i64 m.main, iv, .slm mo 0 1 m.memory.toNat, .sl (.fam τ.nf true) 4 [.agg [.int .i64 m.main, .slm τ.no 0 1 g.locals.length, .nilsl, .nilsl]], .nilsl, .int .i64 0, .int .i64 0]).own τ.nf xo
    ([fsv, AV.int .i64 m.memory, .int .i64 m.main, iv, .slm mo 0 1 m.memory.toNat, .sl (.fam τ.nf true) 4 [.agg [.int .i64 m.main, .slm τ.no 0 1 g.locals.length, .nilsl, .nilsl]], .nilsl, .int .i64 0, .int .i64 0].set 5 (.slm (τ.no + 1) 0 4 1)) (flat [.agg [.int .i64 m.main, .slm τ.no 0 1 g.locals.length, .nilsl, .nilsl]])).nf := by simp; omega
 show ACalls _ _ _ _ (((τ.newO (List.replicate g.locals.length (AV.int .i64 0))).newF.setO xo [fsv, .int .i64 m.memory, .int .i64 m.main, iv, .slm mo 0 1 m.memory.toNat, .sl (.fam τ.nf true) 4 [.agg [.int .i64 m.main, .slm τ.no 0 1 g.locals.length, .nilsl, .nilsl]], .nilsl, .int .i64 0, .int .i64 0]).own τ.nf xo
    ([fsv, AV.int .i64 m.memory, .int .i64 m.main, iv, .slm mo 0 1 m.memory.toNat, .sl (.fam τ.nf true) 4 [.agg [.int .i64 m.main, .slm τ.no 0 1 g.locals.length, .nilsl, .nilsl]], .nilsl, .int .i64 0, .int .i64 0].set 5 (.slm (τ.no + 1) 0 4 1)) (flat [.agg [.int .i64 m.main, .slm τ.no 0 1 g.locals.length, .nilsl, .nilsl]])) _
 generalize (((τ.newO (List.replicate g.locals.length (AV.int .i64 0))).newF.setO xo [fsv, .int .i64 m.memory, .int .i64 m.main, iv, .slm mo 0 1 m.memory.toNat, .sl (.fam τ.nf true) 4 [.agg [.int .i64 m.main, .slm τ.no 0 1 g.locals.length, .nilsl, .nilsl]], .nilsl, .int .i64 0, .int .i64 0]).own τ.nf xo
    ([fsv, AV.int .i64 m.memory, .int .i64 m.main, iv, .slm mo 0 1 m.memory.toNat, .sl (.fam τ.nf true) 4 [.agg [.int .i64 m.main, .slm τ.no 0 1 g.locals.length, .nilsl, .nilsl]], .nilsl, .int .i64 0, .int .i64 0].set 5 (.slm (τ.no + 1) 0 4 1)) (flat [.agg [.int .i64 m.main, .slm τ.no 0 1 g.locals.length, .nilsl, .nilsl]])) = S2 at *
 have k0 := RM.init hS
 obtain ⟨hSn, hSf⟩ := hSn
 have hto : S2.objs (σ.no + 1) = some [.nilsl, .int .i64 0, .int .i64 0] := (hS0 (σ.no + 1) (by omega) (by omega)).trans o6
 have hOlt : ∀ p ∈ [xo, mo, τ.no + 1, τ.no], σ.no + 1 < p := fun p hp => by simp at hp; omega
 have hadd : ∀ x' σ', RM m.funcs m.memory m.main xo S2 [xo, mo, τ.no + 1, τ.no] x' σ' → Adds σ σ' := fun x' σ' k => by
  have q1 := k.no; have q2 := k.nf; have q3 := A.no; have q4 := A.nf
  refine ⟨by omega, by omega, fun o ho => ?_, fun f hf => ?_⟩
  ·rw [k.other (by omega) (fun hp => by have := hOlt o hp; omega), hS0 o (by omega) (by omega), A.obj o ho]
  ·rw [k.fam f (by omega), hSF f (by omega), A.fam f hf]
 refine opens_calls k0 (cs := []) rfl (by simp) (by simp) (by simp) fun σ1 k1 => ?_
 simp [a7]
 obtain ⟨k, x1, x', hcl, hrn, hend⟩ := hfin
 have hb0 : MB 32 (⟨input, List.replicate m.memory.toNat 0, [⟨m.main, List.replicate g.locals.length 0, [], [⟨(g.lists.length : Int) - 1, 0, 0, false⟩]⟩], [], 0, 0⟩ : Ma) :=
  ⟨by omega, by simp, by simp, by simp, by simp; omega, by simp, by simp; omega, by simp; omega⟩
 refine closes_calls (x := (⟨input, List.replicate m.memory.toNat 0, [⟨m.main, List.replicate g.locals.length 0, [], [⟨(g.lists.length : Int) - 1, 0, 0, false⟩]⟩], [], 0, 0⟩ : Ma)) k1 hb0 hcl fun σ2 k2 => ?_
 simp
 refine aloop_rounds (steps.toNat + 1) (run_rounds (xo := xo) (to := σ.no + 1) (x' := x') (S := steps) hfs hws (by omega) (fun b τ' b7 b6 kx => ?_) hrn 32 0 _ _ k2 (closes_mb hcl hb0) (by omega) (by omega) (by omega) (by simp [a2]) (by simp [a6]) (by simp [a7]) (by simp))
 -- the run is over
 have fin : ∀ (y : Ma) (σ3 : AS) (b' : Nat → AV), RM m.funcs m.memory m.main xo S2 [xo, mo, τ.no + 1, τ.no] y σ3 → res = (y.out, y.status, y.code) → ∀ fsv2 iv2 mo2 co2 ov2 Lo, σ3.objs xo = some [fsv2, .int .i64 m.memory, .int .i64 m.main, iv2, .slm mo2 0 1 y.memory.length, .slm co2 0 4 y.calls.length, ov2, .int .i64 y.status, .int .i64 y.code] → LocV σ3 ov2 y.out Lo → (∀ p ∈ Lo, (p ∈ [xo, mo, τ.no + 1, τ.no] ∨ S2.no ≤ p) ∧ p ≠ xo) →
   StillOr R (.ret (.agg [ov2, .int .i64 y.status, .int .i64 y.code])) (σ3.setO (σ.no + 1) [ov2, .int .i64 y.status, .int .i64 y.code]) := by
  intro y σ3 b' k3 hres fsv2 iv2 mo2 co2 ov2 Lo hx hl hp
  subst hres
  have ad : Adds σ (σ3.setO (σ.no + 1) [ov2, .int .i64 y.status, .int .i64 y.code]) := (hadd _ _ k3).setO (by omega)
  rcases hl with ⟨h1, rfl, _⟩ | ⟨oo, rfl, h2, h3⟩
  ·exact .inl (hR _ _ (.inl ⟨h1, rfl⟩) ad)
  ·have hoo : σ.no + 1 < oo := by
    have := (hp oo (by simp [h3])).1
    rcases this with h | h
    ·exact hOlt oo h
    ·have := A.no; omega
   refine .inr ⟨oo, 1, y.out.map (.int .i64), [.int .i64 y.status, .int .i64 y.code], by simp, ?_, by simp, hR _ _ (.inr ⟨false, rfl⟩) ?_⟩
   ·have : ¬ oo = σ.no + 1 := by omega
    simp [this, h2, flat_ints]
   ·refine ⟨ad.no, ad.nf, fun o ho => ?_, ad.fam⟩
    have h4 : o ≠ oo := by omega
    have := ad.obj o ho
    simpa [AS.still, h4] using this
 by_cases hst : x'.status = 0
 ·have hres : res = ((x'.ends 3 0).out, (x'.ends 3 0).status, (x'.ends 3 0).code) := by
   unfold Ends at hend
   rw [if_pos hst] at hend
   exact hend
  obtain ⟨fsv2, iv2, mo2, co2, ov2, Lo, hx, _, _, hl, hp⟩ := kx.outv
  simp [pc11_r1, b7, hx, hst]
  refine ends_calls kx fun σ3 k3 => ?_
  obtain ⟨fsv3, iv3, mo3, co3, ov3, Lo3, hx3, hf3, hi3, hl3, hp3⟩ := k3.outv
  have z1 := hl3.one
  have z6 := (k3.other (o := σ.no + 1) (by omega) (fun q => by have := hOlt _ q; omega)).trans hto
  have q1 : ¬ xo = σ.no + 1 := by omega
  simp [b6, b7, hx3, z6, z1, splice]
  exact fin _ _ b k3 hres _ _ _ _ _ _ hx3 hl3 hp3
 ·have hres : res = (x'.out, x'.status, x'.code) := by
   unfold Ends at hend
   rw [if_neg hst] at hend
   exact hend
  obtain ⟨fsv2, iv2, mo2, co2, ov2, Lo, hx, _, _, hl, hp⟩ := kx.outv
  have z1 := hl.one
  have z6 := (kx.other (o := σ.no + 1) (by omega) (fun q => by have := hOlt _ q; omega)).trans hto
  have q1 : ¬ xo = σ.no + 1 := by omega
  simp [pc11_r1, b6, b7, hx, hst, z6, z1, splice]
  exact fin _ _ b kx hres _ _ _ _ _ _ hx hl hp
end
end Go.Proofs.YthifgodgfhbnfaaGreatDoor.Rf
set_option linter.unusedSimpArgs false
set_option linter.unusedVariables false
namespace Go.Proofs.YthifgodgfhbnfaaGreatDoor.Rf
open Go Go.Abs Go.Proofs.YthifgodgfhbnfaaGreatDoor
section
variable {G : Env} {σ : AS} {R : Out → AS → Prop}
set_option maxHeartbeats 2000000 in
theorem runI_calls {m : M} {mv iv : AV} {input : List Int} {steps : Int} {g : F} {res : List Int × Int × Int} (hm : MV mv m) (hfs : FsB m.funcs) (hws : WsOk m.funcs) (hg : fnAt m.funcs m.main = some g) (hi : IntsV iv input) (hil : input.length ≤ 2 ^ 38) (hs : steps ≤ 2 ^ 37) (hmem : 0 ≤ m.memory ∧ m.memory ≤ 4096)
  (hfin : Fin m.funcs steps.toNat ⟨input, List.replicate m.memory.toNat 0, [⟨m.main, List.replicate g.locals.length 0, [], [⟨(g.lists.length : Int) - 1, 0, 0, false⟩]⟩], [], 0, 0⟩ res)
  (hR : ∀ ov σ', IntsV ov res.1 → Adds σ σ' → R (.ret (.agg [ov, .int .i64 res.2.1, .int .i64 res.2.2])) σ') : ACalls Tryz.prog G 11 [mv, iv, .int .i64 steps] σ R := by
 refine stilling (calls11 rfl ?_)
 obtain ⟨fsv, rfl, hfv⟩ := hm
 have f1 := hfv.one
 have i1 := hi.one
 rw [pc11_split]
 have n1 : ¬ σ.no = σ.no + 1 := by omega
 simp [pc11_a, pc11_b, pc11, f1, splice]
 refine ⟨?_, ?_⟩
 ·refine copyInts_calls hi (by omega) fun iv' σ1 hiv A1 => ?_
  have i2 := hiv.one
  have e1 := (A1.obj σ.no (by simp <;> omega))
  have e2 := (A1.obj (σ.no + 1) (by simp))
  simp at e1 e2
  have q1 := A1.no
  simp at q1
  have q2 : ¬ σ.no = σ1.no := by omega
  have q3 : ¬ σ.no + 1 = σ1.no := by omega
  have q4 : ¬ σ.no = σ1.no + 1 := by omega
  have q5 : ¬ σ.no + 1 = σ1.no + 1 := by omega
  simp [e1]
  refine amake_bytesR hmem.1 hmem.2 ?_
  simp [e1, q2, f1, i2, splice]
  refine run_tail (xo := σ1.no + 1) (mo := σ1.no) hfv hfs hws hg hiv hil hs (by omega) hfin hR (by simp) (by simp) (by simp) (by simp) (by simp [q2, q4, e1] <;> omega) (by simp [q2, q3, e2]) (by simp) (by simp) ?_ (by simp; omega)
  exact (((Adds.refl σ).newO.newO).trans A1).newO.newO
 ·refine amake_bytesR hmem.1 hmem.2 ?_
  have q1 : ¬ σ.no = σ.no + 1 + 1 := by omega
  simp [q1, n1]
  refine copyInts_calls hi (by omega) fun iv' σ1 hiv A1 => ?_
  have i2 := hiv.one
  have e1 := (A1.obj σ.no (by simp <;> omega))
  have e2 := (A1.obj (σ.no + 1) (by simp <;> omega))
  have e3 := (A1.obj (σ.no + 1 + 1) (by simp))
  simp at e1 e2 e3
  simp [q1] at e1
  have q2 := A1.no
  simp at q2
  have q3 : ¬ σ.no = σ1.no := by omega
  have q4 : ¬ σ.no + 1 = σ1.no := by omega
  have q5 : ¬ σ.no + 1 + 1 = σ1.no := by omega
  simp [e1, f1, i2, splice]
  refine run_tail (xo := σ1.no) (mo := σ.no + 1 + 1) hfv hfs hws hg hiv hil hs (by omega) hfin hR (by simp) (by simp) (by simp) (by simp) (by simp [q3, e1]) (by simp [q4, e2]) (by simp) (by simp [q5, e3]) ?_ (by simp; omega)
  exact (((Adds.refl σ).newO.newO.newO).trans A1).newO
end
end Go.Proofs.YthifgodgfhbnfaaGreatDoor.Rf
set_option linter.unusedSimpArgs false
set_option linter.unusedVariables false
namespace Go.Proofs.YthifgodgfhbnfaaGreatDoor.Rf
open Go Go.Abs Go.Proofs.YthifgodgfhbnfaaGreatDoor
theorem checkE_main {m : M} (h : checkE m = .ok ()) : (0 ≤ m.memory ∧ m.memory ≤ 4096) ∧ ∃ g, fnAt m.funcs m.main = some g ∧ g.type = 1 ∧ g.params = [] := by
 unfold checkE at h
 split at h
 ·cases h
 rename_i hm
 split at h
 ·cases h
 split at h
 ·rename_i hb
  refine ⟨by simpa using hm, ?_⟩
  unfold mainB at hb
  rw [Bool.and_eq_true] at hb
  obtain ⟨h0, h1⟩ := hb
  split at h1
  ·rename_i f hf
   refine ⟨f, ?_, ?_⟩
   ·unfold fnAt
    rw [if_neg (by have := of_decide_eq_true h0; omega)]
    exact hf
   ·simp at h1
    exact ⟨h1.1, h1.2⟩
  ·cases h1
 ·cases h
def pc3_a : PC := match pc3 with | .seq a _ => a | _ => .skip
def pc3_b : PC := match pc3 with | .seq _ (.seq a _) => a | _ => .skip
def pc3_c : PC := match pc3 with | .seq _ (.seq _ (.seq a _)) => a | _ => .skip
def pc3_d : PC := match pc3 with | .seq _ (.seq _ (.seq _ (.seq a _))) => a | _ => .skip
def pc3_e : PC := match pc3 with | .seq _ (.seq _ (.seq _ (.seq _ (.seq a _)))) => a | _ => .skip
def pc3_f : PC := match pc3 with | .seq _ (.seq _ (.seq _ (.seq _ (.seq _ (.seq a _))))) => a | _ => .skip
def pc3_t : PC := match pc3 with | .seq _ (.seq _ (.seq _ (.seq _ (.seq _ (.seq _ t))))) => t | _ => .skip
theorem pc3_split : pc3 = .seq pc3_a (.seq pc3_b (.seq pc3_c (.seq pc3_d (.seq pc3_e (.seq pc3_f pc3_t))))) := rfl
section
variable {G : Env}
set_option maxHeartbeats 4000000 in
set_option maxRecDepth 20000 in
theorem law_tail (V : Vars G) {m : M} {fsv fs4 iv lv ov : AV} {input out : List Int} {s st code : Int} {g : F} {mo cp rb : Nat} {a : Nat → AV} {τ : AS} {R : Out → AS → Prop} (hfs : FsV fsv m.funcs) (hfs4 : FsV fs4 m.funcs) (hl : m.funcs.length ≤ 12) (b2 : ∀ f ∈ m.funcs, SmallF f) (hfb : FsB m.funcs) (hws : WsOk m.funcs) (hmem : 0 ≤ m.memory ∧ m.memory ≤ 4096) (hg : fnAt m.funcs m.main = some g) (hgt : g.type = 1) (hgp : g.params = [])
  (hi : IntsV iv input) (hlv : IntsV lv (input ++ marks)) (hil : input.length ≤ 1000) (hs : s ≤ 20000) (hr : runM m input s (s.toNat + 1) = some (out, st, code)) (ho : IntsV ov out) (hol : out.length ≤ 2 ^ 40)
  (a1 : a 1 = iv) (a2 : a 2 = .int .i64 s) (a3 : a 3 = .ptr mo 0) (a7 : a 7 = .ptr cp 0) (a8 : a 8 = lv) (a9 : a 9 = .ptr rb 0) (hmo : τ.objs mo = some [fsv, .int .i64 m.memory, .int .i64 m.main]) (hcp : τ.objs cp = some [fs4, .int .i64 m.memory, .int .i64 m.main]) (hrb : τ.objs rb = some [ov, .int .i64 st, .int .i64 code]) (hlt : mo < τ.no ∧ cp < τ.no ∧ rb < τ.no)
  (h : ∀ σ', R (.ret (.bool true)) σ') : avc Tryz.prog G 55 pc3_t (afin Tryz.prog [.tmp 6] R) a τ := by
 have f1 := hfs.one
 have f4 := hfs4.one
 have i1 := hi.one
 have l1 := hlv.one
 have o1 := ho.one
 have hfin := runM_simS hg hgp (by omega) hr
 have hm : MV (.agg [fsv, .int .i64 m.memory, .int .i64 m.main]) m := ⟨fsv, rfl, hfs⟩
 have hm4 : MV (.agg [fs4, .int .i64 m.memory, .int .i64 m.main]) m := ⟨fs4, rfl, hfs4⟩
 simp [pc3_t, pc3, a1, a2, a3, a7, a8, a9, hmo, hcp, hrb, f1, f4, i1, l1, o1]
 refine runI_calls hm hfb hws hg hi (by omega) (by omega) hmem hfin fun ov2 σ2 ho2 A2 => ?_
 have hmo2 := (A2.obj _ hlt.1).trans hmo
 have hcp2 := (A2.obj _ hlt.2.1).trans hcp
 have hrb2 := (A2.obj _ hlt.2.2).trans hrb
 have o2 := ho2.one
 simp [a1, a2, a3, a7, a8, a9, hmo2, hcp2, hrb2, f1, f4, i1, l1, o1, o2]
 refine sameRun_calls ho ho2 hol fun σ3 A3 => ?_
 have hmo3 := (A3.obj _ (by have := A2.no; omega)).trans hmo2
 have hcp3 := (A3.obj _ (by have := A2.no; omega)).trans hcp2
 simp [a1, a2, a3, a7, a8, a9, hmo3, hcp3, f1, f4, i1, l1]
 refine Al.eqM_calls (Al.m_o hm4) (Al.m_o hm) (by omega) (fun f hf => ⟨by have := (b2 f hf).params; omega, by have := (b2 f hf).locals; omega, by have := (b2 f hf).lists; omega, fun r hr => by have := (b2 f hf).rows r hr; omega⟩) fun σ4 A4 => ?_
 simp [a1, a8, i1, l1]
 refine kept_calls hlv hi (by omega) fun σ5 A5 => ?_
 simp
 refine known12_calls V fun σ6 A6 => ?_
 simp
 exact h _
set_option maxHeartbeats 4000000 in
set_option maxRecDepth 20000 in
theorem wasmRuns_calls (V : Vars G) {m : M} {fsv iv : AV} {input : List Int} {steps : Int} {σ : AS} {R : Out → AS → Prop} (hfs : FsV fsv m.funcs) (hf : Fits m) (hwn : ∀ f ∈ m.funcs, ∀ l ∈ f.lists, ∀ w ∈ l, -(2 ^ 63) ≤ w.n ∧ w.n < 2 ^ 63) (hi : IntsV iv input) (hin : ∀ v ∈ input, -(2 ^ 63) ≤ v ∧ v < 2 ^ 63) (h : ∀ σ', R (.ret (.bool true)) σ') :
  ACalls Tryz.prog G 3 [.agg [fsv, .int .i64 m.memory, .int .i64 m.main], iv, .int .i64 steps] σ R := by
 refine calls3 rfl ?_
 rw [pc3_split]
 have f1 := hfs.one
 have i1 := hi.one
 have i2 := hi.len
 have hm : MV (.agg [fsv, .int .i64 m.memory, .int .i64 m.main]) m := ⟨fsv, rfl, hfs⟩
 simp [pc3_a, pc3_b, pc3_c, pc3_d, pc3_e, pc3_f, pc3, f1, i1]
 have hm1 : (σ.newO [fsv, AV.int IntKind.i64 m.memory, AV.int IntKind.i64 m.main]).objs σ.no = some [fsv, .int .i64 m.memory, .int .i64 m.main] := by simp
 have hno1 : (σ.newO [fsv, AV.int IntKind.i64 m.memory, AV.int IntKind.i64 m.main]).no = σ.no + 1 := by simp
 generalize σ.newO [fsv, AV.int IntKind.i64 m.memory, AV.int IntKind.i64 m.main] = σ1 at *
 have hml : σ.no < σ1.no := by omega
 refine big_calls hm hf fun b σ2 hb A2 => ?_
 have hm2 := (A2.obj σ.no hml).trans hm1
 have hl2 : σ.no < σ2.no := Nat.lt_of_lt_of_le hml A2.no
 cases b with
 | true =>
  simp
  refine known12_calls V fun σ3 A3 => ?_
  simp
  exact h _
 | false =>
 obtain ⟨b1, b2⟩ := hb rfl
 by_cases hil : (1000 : Int) < (input.length : Int)
 ·simp [hm2, f1, i1, i2, hil]
  refine known12_calls V fun σ3 A3 => ?_
  simp
  exact h _
 simp [hm2, f1, i1, i2, hil]
 refine checkI_calls hm (by omega) b2 hwn fun e σ3 he A3 => ?_
 have hm3 := (A3.obj σ.no hl2).trans hm2
 have hl3 : σ.no < σ3.no := Nat.lt_of_lt_of_le hl2 A3.no
 by_cases he0 : e = 0
 ·have hck := he he0
  have of : OkFs m.funcs := fun f hf => ⟨by have := (b2 f hf).params; omega, by have := (b2 f hf).locals; omega, by have := (b2 f hf).lists; omega, fun l hl => by have := (b2 f hf).rows l hl; omega, fun l hl w hw => by have := (hwn f hf l hl w hw).2; omega⟩
  have hrn : Rng m.funcs := hwn
  have hfb : FsB m.funcs := fun f hf => ⟨by have := (b2 f hf).params; omega, by have := (b2 f hf).locals; omega, by have := (b2 f hf).lists; omega⟩
  have hws : WsOk m.funcs := fun f hf l hl => ⟨by have := (b2 f hf).rows l hl; omega, fun w hw => ⟨hwn f hf l hl w hw, form_ty (forms_of (checkE_functions hck f hf) l hl w hw)⟩⟩
  obtain ⟨hmem, g, hg, hgt, hgp⟩ := checkE_main hck
  simp [he0, hm3, f1, i1]
  generalize hs : min steps 20000 = s
  have hs0 : s ≤ 20000 := by omega
  refine copyM_calls hm (by omega) (fun f hf => by have := (b2 f hf).params; omega) (fun f hf => by have := (b2 f hf).locals; omega) (fun f hf => by have := (b2 f hf).lists; omega) (fun f hf r hr => by have := (b2 f hf).rows r hr; omega) fun v4 σ4 hv4 A4 => ?_
  have hm4 := (A4.obj σ.no hl3).trans hm3
  obtain ⟨fs4, rfl, hfs4⟩ := hv4
  have f4 := hfs4.one
  have n4 : ¬ σ.no = σ4.no := by have := A4.no; omega
  simp [f4, splice, i1]
  have hm5 : ((σ4.newO [AV.nilsl, AV.int IntKind.i64 0, AV.int IntKind.i64 0]).setO σ4.no [fs4, AV.int IntKind.i64 m.memory, AV.int IntKind.i64 m.main]).objs σ.no = some [fsv, .int .i64 m.memory, .int .i64 m.main] := by simp [n4, hm4]
  have hc5 : ((σ4.newO [AV.nilsl, AV.int IntKind.i64 0, AV.int IntKind.i64 0]).setO σ4.no [fs4, AV.int IntKind.i64 m.memory, AV.int IntKind.i64 m.main]).objs σ4.no = some [fs4, .int .i64 m.memory, .int .i64 m.main] := by simp
  have hn5 : ((σ4.newO [AV.nilsl, AV.int IntKind.i64 0, AV.int IntKind.i64 0]).setO σ4.no [fs4, AV.int IntKind.i64 m.memory, AV.int IntKind.i64 m.main]).no = σ4.no + 1 := by simp
  have hn4 := A4.no
  generalize (σ4.newO [AV.nilsl, AV.int IntKind.i64 0, AV.int IntKind.i64 0]).setO σ4.no [fs4, AV.int IntKind.i64 m.memory, AV.int IntKind.i64 m.main] = σ5 at *
  refine lent_calls hi (by omega) fun lv σ6 hlv A6 => ?_
  have hm6 := (A6.obj σ.no (by omega)).trans hm5
  have hc6 := (A6.obj σ4.no (by omega)).trans hc5
  have hn6 := A6.no
  have l1 := hlv.one
  have hlv0 := hlv
  have hml : (input ++ marks).length = input.length + 5 := by simp [marks]
  have hmk : marks.length = 5 := rfl
  rcases hlv with ⟨e, _⟩ | ⟨bl, rfl⟩
  ·simp [marks] at e
  have tk : List.take input.length (List.map (AV.int .i64) input ++ List.map (AV.int .i64) marks) = List.map (AV.int .i64) input := by simp
  have hmo6 : σ.no < σ6.no := by omega
  have hi' : IntsV (.sl (.stat false) 1 (List.map (AV.int .i64) input)) input := .inr ⟨_, rfl⟩
  have hm' : MV (.agg [fs4, .int .i64 m.memory, .int .i64 m.main]) m := ⟨fs4, rfl, hfs4⟩
  have n6 : ¬ σ4.no = σ6.no := by omega
  have n7 : ¬ σ.no = σ6.no := by omega
  simp [hm6, hc6, f4, l1, i1, i2, hmk, tk, n6]
  refine ⟨⟨by omega, ?_⟩, ⟨by omega, ?_⟩⟩
  ·refine run_calls V hm' hck of hrn hin hi' (by omega) (by omega) fun ov out st code σ7 hr ho A7 => ?_
   obtain ⟨out0, st0, code0, hr0, hst, hlen⟩ := runM_sound hck hrn input hin s (s.toNat + 1) (by omega)
   rw [hr] at hr0
   obtain ⟨rfl, rfl, rfl⟩ : out = out0 ∧ st = st0 ∧ code = code0 := by simpa using hr0
   have hol : out.length ≤ 2 ^ 40 := by omega
   have o1 := ho.one
   have hn7 := A7.no
   have hm7 := (A7.obj σ.no (by omega)).trans hm6
   have hc7 := (A7.obj σ4.no (by omega)).trans hc6
   simp [o1, splice, l1, i1, n4]
   exact law_tail V (mo := σ.no) (cp := σ4.no) (rb := σ7.no) hfs hfs4 b1 b2 hfb hws hmem hg hgt hgp hi hlv0 (by omega) hs0 hr ho hol (by simp) (by simp) (by simp) (by simp) (by simp) (by simp) (by simp [show ¬ σ.no = σ7.no by omega, hm7]) (by simp [show ¬ σ4.no = σ7.no by omega, hc7]) (by simp) (by simp; omega) h
  ·refine run_calls V hm' hck of hrn hin hi' (by omega) (by omega) fun ov out st code σ7 hr ho A7 => ?_
   obtain ⟨out0, st0, code0, hr0, hst, hlen⟩ := runM_sound hck hrn input hin s (s.toNat + 1) (by omega)
   rw [hr] at hr0
   obtain ⟨rfl, rfl, rfl⟩ : out = out0 ∧ st = st0 ∧ code = code0 := by simpa using hr0
   have hol : out.length ≤ 2 ^ 40 := by omega
   have o1 := ho.one
   have hn7 := A7.no
   simp at hn7
   have hm7 := A7.obj σ.no (by simp; omega)
   have hc7 := A7.obj σ4.no (by simp; omega)
   have hr7 := A7.obj σ6.no (by simp)
   simp [n6, n7, hm6, hc6] at hm7 hc7 hr7
   simp [o1, splice, l1, i1, n4, hr7]
   exact law_tail V (mo := σ.no) (cp := σ4.no) (rb := σ6.no) hfs hfs4 b1 b2 hfb hws hmem hg hgt hgp hi hlv0 (by omega) hs0 hr ho hol (by simp) (by simp) (by simp) (by simp) (by simp) (by simp) (by simp [n7, hm7]) (by simp [n6, hc7]) (by simp) (by simp; omega) h
 ·simp [he0]
  refine known12_calls V fun σ4 A4 => ?_
  simp
  exact h _
end
end Go.Proofs.YthifgodgfhbnfaaGreatDoor.Rf
set_option linter.unusedSimpArgs false
set_option linter.unusedVariables false
namespace Go.Proofs.YthifgodgfhbnfaaGreatDoor
open Go Go.Abs Go.RowKit
def CellsV (w : World) (v : AV) (cs : List Value) : Prop := v.cells.length = cs.length ∧ ∀ j (h : j < v.cells.length) (h' : j < cs.length), VR (Mp.all w) AS.zero.F w v.cells[j] cs[j]
theorem CellsV.one {w : World} {v : AV} {c : Value} (h : VR (Mp.all w) AS.zero.F w v c) (hv : v.cells = [v]) : CellsV w v [c] := by
 refine ⟨by rw [hv]; rfl, fun j h1 h2 => ?_⟩
 have : j = 0 := by simpa using h2
 subst this
 simpa [hv] using h
theorem CellsV.to {w : World} {v : AV} {c : Value} (h : CellsV w v [c]) (hv : v.cells = [v]) : VR (Mp.all w) AS.zero.F w v c := by
 have := h.2 0 (by rw [hv]; simp) (by simp)
 simpa [hv] using this
def WtOk {H : Type} (t : TypeId) (d : DataW H) : Prop := (d.weights Tryz.prog t).all (· ≤ reachBytes) = true
theorem wtAll {H : Type} {e : TypeId} : ∀ {ds : List (DataW H)}, (DataW.weightsAll Tryz.prog e ds).all (· ≤ reachBytes) = true → ∀ d ∈ ds, WtOk e d
 | [], _ => by simp
 | d :: ds, h => by
  rw [DataW.weightsAll, List.all_append, Bool.and_eq_true] at h
  intro x hx
  rcases List.mem_cons.1 hx with rfl | hx
  ·exact h.1
  ·exact wtAll h.2 x hx
theorem wtEach {H : Type} : ∀ {ts : List TypeId} {ds : List (DataW H)}, (DataW.weightsEach Tryz.prog ts ds).all (· ≤ reachBytes) = true → ∀ (i : Nat) t d, ts[i]? = some t → ds[i]? = some d → WtOk t d
 | [], ds, _ => by simp
 | _ :: _, [], _ => by simp
 | t :: ts, d :: ds, h => by
  rw [DataW.weightsEach, List.all_append, Bool.and_eq_true] at h
  intro i t' d' h1 h2
  cases i with
  | zero => simp at h1 h2; subst h1 h2; exact h.1
  | succ i => exact wtEach h.2 i t' d' (by simpa using h1) (by simpa using h2)
theorem exists_list {X : Type} {n : Nat} {P : Nat → X → Prop} (h : ∀ i, i < n → ∃ x, P i x) : ∃ l : List X, l.length = n ∧ ∀ i (hi : i < l.length), P i l[i] := by
 induction n with
 | zero => exact ⟨[], rfl, fun i hi => by simp at hi⟩
 | succ n ih =>
  obtain ⟨l, hl, hp⟩ := ih fun i hi => h i (by omega)
  obtain ⟨x, hx⟩ := h n (by omega)
  refine ⟨l ++ [x], by simp [hl], fun i hi => ?_⟩
  by_cases hi' : i < l.length
  ·rw [List.getElem_append_left hi']; exact hp i hi'
  ·have e : i = l.length := by simp at hi; omega
   subst e
   rw [List.getElem_append_right (by omega)]
   simpa [hl] using hx
theorem All2.of_get {α β : Type} {R : α → β → Prop} : ∀ {xs : List α} {ys : List β}, xs.length = ys.length → (∀ i (h : i < xs.length) (h' : i < ys.length), R xs[i] ys[i]) → All2 R xs ys
 | [], [], _, _ => .nil
 | [], _ :: _, h, _ => by simp at h
 | _ :: _, [], h, _ => by simp at h
 | x :: xs, y :: ys, h, hr => .cons (hr 0 (by simp) (by simp)) (All2.of_get (by simpa using h) fun i h1 h2 => hr (i + 1) (Nat.succ_lt_succ h1) (Nat.succ_lt_succ h2))
theorem slice_rel {H T : Type} {enc : TypeId × Value → H} {w : World} {fuel : Nat} {t e : TypeId} {cs : List Value} {x : DataW H × List MemPlace} {sz : Nat} (Rel : AV → T → Prop)
  (ht : Tryz.prog.underlying t = some (.slice e)) (hc : Tryz.prog.cellsOf e = sz) (hsz : 0 < sz) (hb : 0 < Tryz.prog.bytesOf e)
  (ih : ∀ n cs' d q, DataW.trod enc Tryz.prog w 0 (fun _ => true) true n e cs' = some (d, q) → WtOk e d → ∃ v o, Rel v o ∧ CellsV w v cs')
  (h : DataW.trod enc Tryz.prog w 0 (fun _ => true) true fuel t cs = some x) (hw : WtOk t x.1) :
  ∃ (v : AV) (os : List T), CellsV w v cs ∧ ((os = [] ∧ v = .nilsl) ∨ ∃ vs, v = .sl (.stat false) sz vs ∧ All2 Rel vs os) ∧ os.length ≤ 2 ^ 47 := by
 rcases DataW.trod_slice ht h with ⟨rfl, rfl⟩ | ⟨a, len, cap, elems, rest, n, rfl, rfl, rfl, hb0, hl, hm, hlen, hel, hsp, hns⟩
 ·exact ⟨.nilsl, [], .one .nilsl rfl, .inl ⟨rfl, rfl⟩, by simp⟩
 obtain ⟨hrl, hrest⟩ := hsp rfl
 have hw' := hw
 unfold WtOk DataW.weights at hw'
 rw [ht] at hw'
 simp only [List.all_cons, List.all_append, Bool.and_eq_true, List.length_map, decide_eq_true_eq] at hw'
 obtain ⟨w1, w2, w3⟩ := hw'
 have hel2 := wtAll w2
 have each : ∀ i, i < len → ∃ p : AV × T, Rel p.1 p.2 ∧ ∃ cs', w.cells? 0 (a.add (i * sz)) sz = some cs' ∧ CellsV w p.1 cs' := fun i hi => by
  have h1 := hel i hi
  have hi' : i < elems.length := by omega
  rw [hc, List.getElem?_eq_getElem hi', Option.bind_eq_some_iff] at h1
  obtain ⟨cs', h2, h3⟩ := h1
  obtain ⟨v, o, h4, h5⟩ := ih n cs' elems[i].1 elems[i].2 h3 (hel2 _ (List.mem_map_of_mem (List.getElem_mem hi')))
  exact ⟨(v, o), h4, cs', h2, h5⟩
 obtain ⟨l, hll, hp⟩ := exists_list each
 have hcap : len ≤ 2 ^ 47 := by
  have h1 : (elems.length + rest.length) * 1 ≤ (elems.length + rest.length) * Tryz.prog.bytesOf e := Nat.mul_le_mul_left _ hb
  have h2 : reachBytes ≤ 2 ^ 47 := by unfold reachBytes; omega
  omega
 have hall : All2 Rel (l.map (·.1)) (l.map (·.2)) := All2.of_get (by simp) fun i h1 h2 => by simpa using (hp i (by simpa using h1)).1
 by_cases hz : cap = 0
 ·have e1 : len = 0 := by omega
  have e2 : l = [] := List.eq_nil_of_length_eq_zero (by omega)
  subst e1 hz e2
  exact ⟨.sl (.stat false) sz [], [], .one (.slz ..) rfl, .inr ⟨[], rfl, .nil⟩, by simp⟩
 have h0 : ∃ c, w.cell? a = some c := by
  have key : ∀ (y : DataW H × List MemPlace), (w.cells? 0 (a.add (0 * Tryz.prog.cellsOf e)) (Tryz.prog.cellsOf e)).bind (DataW.trod enc Tryz.prog w 0 (fun _ => true) true n e) = some y → ∃ c, w.cell? a = some c := fun y hy => by
   rw [Option.bind_eq_some_iff] at hy
   obtain ⟨cs', h2, _⟩ := hy
   obtain ⟨_, h3, h4⟩ := World.cells?_some h2
   have h5 := h4 0 (by omega)
   rw [Nat.zero_mul] at h5
   have e : (a.add 0).add 0 = a := by simp [Addr.add]
   rw [e, List.getElem?_eq_getElem (by omega)] at h5
   exact ⟨_, h5⟩
  by_cases hl0 : 0 < len
  ·have := hel 0 hl0
   rw [List.getElem?_eq_getElem (by omega)] at this
   exact key _ this
  ·have e1 : len = 0 := by omega
   subst e1
   have := hrest 0 (by omega)
   rw [List.getElem?_eq_getElem (by omega)] at this
   exact key _ this
 obtain ⟨c0, hc0⟩ := h0
 obtain ⟨B, off, spot⟩ := a
 have hBs : B < w.heap.size ∧ spot = none := by
  unfold World.cell? at hc0
  split at hc0
  ·rename_i c t' fr hh
   refine ⟨(Array.getElem?_eq_some_iff.1 hh).1, ?_⟩
   split at hc0
   ·cases hc0
   ·rename_i hs; simpa using hs
  ·cases hc0
 obtain ⟨hB, rfl⟩ := hBs
 have hsz' : ∀ v ∈ l.map (·.1), v.cells.length = sz := fun v hv => by
  obtain ⟨p, hp', rfl⟩ := List.mem_map.1 hv
  obtain ⟨i, hi, rfl⟩ := List.mem_iff_getElem.1 hp'
  obtain ⟨_, cs', h2, h3⟩ := hp i hi
  rw [h3.1, (World.cells?_some h2).2.1]
 have hfl := flat_length sz (l.map (·.1)) hsz'
 have key : ∀ j (hj : j < (flat (l.map (·.1))).length), ∃ c, w.cell? ⟨B, off + j, none⟩ = some c ∧ VR (Mp.all w) AS.zero.F w (flat (l.map (·.1)))[j] c := fun j hj => by
  have hj' : j < l.length * sz := by simpa [hfl] using hj
  have hi : j / sz < l.length := (Nat.div_lt_iff_lt_mul hsz).2 hj'
  have hr : j % sz < sz := Nat.mod_lt _ hsz
  obtain ⟨_, cs', h2, h3⟩ := hp (j / sz) hi
  obtain ⟨_, h4, h5⟩ := World.cells?_some h2
  have h6 := h5 (j % sz) hr
  rw [addr_add, addr_add, Nat.add_assoc, Nat.div_add_mod', List.getElem?_eq_getElem (by omega)] at h6
  refine ⟨_, h6, ?_⟩
  have hl1 : l[j / sz].1.cells.length = sz := by rw [h3.1, h4]
  have h7 := (flat_get hsz' (i := j / sz) (v := l[j / sz].1) (by simp [List.getElem?_eq_getElem hi]) (j := j % sz) (by omega)).2
  rw [Nat.div_add_mod', List.getElem?_eq_getElem hj] at h7
  rw [Option.some.inj h7]
  exact h3.2 _ _ _
 have hv := VR.sl (M := Mp.all w) (F := AS.zero.F) (w := w) (.stat false) sz (l.map (·.1)) B off cap (fun j => (w.cell? ⟨B, off + j, none⟩).getD undef) (by simp; omega) (by simp [Own.full]) hsz' (by simp [Mem, Mp.all, hB])
  (fun _ j hj => by obtain ⟨c, h1, _⟩ := key j hj; simp [h1]) (fun _ j hj => by obtain ⟨c, h1, h2⟩ := key j hj; simpa [h1] using h2)
 rw [List.length_map, hll] at hv
 exact ⟨_, l.map (·.2), .one hv rfl, .inr ⟨_, rfl, hall⟩, by simpa [hll] using hcap⟩
def IntR (v : AV) (n : Int) : Prop := v = .int .i64 n ∧ -(2 ^ 63) ≤ n ∧ n ≤ 2 ^ 63 - 1
theorem int_rel {H : Type} {enc : TypeId × Value → H} {w : World} {n : Nat} {cs : List Value} {x : DataW H × List MemPlace} (h : DataW.trod enc Tryz.prog w 0 (fun _ => true) true n 3 cs = some x) : ∃ v o, IntR v o ∧ CellsV w v cs := by
 obtain ⟨k, rfl, _, hw⟩ := DataW.trod_int Tryz.underlying3 h
 simp [Lit.wf, IntKind.min, IntKind.max, IntKind.signed, IntKind.bits] at hw
 exact ⟨.int .i64 k, k, ⟨rfl, by omega, by omega⟩, .one (.int ..) rfl⟩
theorem All2.ints {vs : List AV} {l : List Int} (h : All2 IntR vs l) : vs = l.map (.int .i64) := by
 induction h with
 | nil => rfl
 | cons h r ih => rw [h.1, ih]; rfl
theorem ints_in {vs : List AV} {l : List Int} (h : All2 IntR vs l) : ∀ n ∈ l, -(2 ^ 63) ≤ n ∧ n < 2 ^ 63 := by
 induction h with
 | nil => simp
 | cons h r ih => intro n hn; rcases List.mem_cons.1 hn with rfl | hn; exact ⟨h.2.1, by have := h.2.2; omega⟩; exact ih n hn
def IntsR (v : AV) (l : List Int) : Prop := IntsV v l ∧ l.length ≤ 2 ^ 47 ∧ ∀ n ∈ l, -(2 ^ 63) ≤ n ∧ n < 2 ^ 63
set_option maxRecDepth 20000 in
theorem ints_rel {H : Type} {enc : TypeId × Value → H} {w : World} {n : Nat} {cs : List Value} {x : DataW H × List MemPlace} (h : DataW.trod enc Tryz.prog w 0 (fun _ => true) true n 25 cs = some x) (hw : WtOk 25 x.1) : ∃ v o, IntsR v o ∧ CellsV w v cs := by
 obtain ⟨v, os, h1, h2, h3⟩ := slice_rel (sz := 1) IntR Tryz.underlying25 (by kernel_rfl) (by omega) (of_decide_eq_true (by kernel_rfl)) (fun n cs' d q h _ => int_rel h) h hw
 rcases h2 with ⟨rfl, rfl⟩ | ⟨vs, rfl, h4⟩
 ·exact ⟨_, [], ⟨.inl ⟨rfl, rfl⟩, h3, by simp⟩, h1⟩
 ·exact ⟨_, os, ⟨.inr ⟨false, by rw [h4.ints]⟩, h3, ints_in h4⟩, h1⟩
def WR (v : AV) (w : W) : Prop := v = w.av ∧ (-(2 ^ 63) ≤ w.n ∧ w.n ≤ 2 ^ 63 - 1)
theorem cell_of {H : Type} {enc : TypeId × Value → H} {w : World} {n : Nat} {c : Value} {x : DataW H × List MemPlace} (h : DataW.trod enc Tryz.prog w 0 (fun _ => true) true n 3 [c] = some x) : ∃ k : Int, c = .int .i64 k ∧ -(2 ^ 63) ≤ k ∧ k ≤ 2 ^ 63 - 1 := by
 obtain ⟨k, h1, _, hw⟩ := DataW.trod_int Tryz.underlying3 h
 simp [Lit.wf, IntKind.min, IntKind.max, IntKind.signed, IntKind.bits] at hw
 exact ⟨k, by simpa using h1, by omega, by omega⟩
theorem str_of {H : Type} {enc : TypeId × Value → H} {w : World} {n : Nat} {c : Value} {x : DataW H × List MemPlace} (h : DataW.trod enc Tryz.prog w 0 (fun _ => true) true n 9 [c] = some x) : ∃ s : ByteArray, c = .string s := by
 obtain ⟨s, h1, _⟩ := DataW.trod_string Tryz.underlying9 h
 exact ⟨s, by simpa using h1⟩
set_option maxRecDepth 20000 in
theorem w_rel {H : Type} {enc : TypeId × Value → H} {w : World} {n : Nat} {cs : List Value} {x : DataW H × List MemPlace} (h : DataW.trod enc Tryz.prog w 0 (fun _ => true) true n 46 cs = some x) : ∃ v o, WR v o ∧ CellsV w v cs := by
 obtain ⟨xs, n, rfl, hx, hlen, hxl, hf⟩ := DataW.trod_struct Tryz.underlying46 h
 have hxl' : xs.length = 6 := hxl
 have hlen' : cs.length = 6 := hlen.trans (by kernel_rfl)
 match cs, hlen' with
 | [a, b, c, d, e, f], _ =>
  have c9 : Tryz.prog.cellsOf 9 = 1 := by kernel_rfl
  have c3 : Tryz.prog.cellsOf 3 = 1 := by kernel_rfl
  have f0 : DataW.trod enc Tryz.prog w 0 (fun _ => true) true n 3 [a] = xs[0]? := by
   have h : DataW.trod enc Tryz.prog w 0 (fun _ => true) true n 3 ((([a, b, c, d, e, f] : List Value).drop 0).take (Tryz.prog.cellsOf 3)) = xs[0]? := hf 0 _ rfl
   rw [c3] at h; exact h
  have f1 : DataW.trod enc Tryz.prog w 0 (fun _ => true) true n 3 [b] = xs[1]? := by
   have h : DataW.trod enc Tryz.prog w 0 (fun _ => true) true n 3 ((([a, b, c, d, e, f] : List Value).drop 1).take (Tryz.prog.cellsOf 3)) = xs[1]? := hf 1 _ rfl
   rw [c3] at h; exact h
  have f2 : DataW.trod enc Tryz.prog w 0 (fun _ => true) true n 3 [c] = xs[2]? := by
   have h : DataW.trod enc Tryz.prog w 0 (fun _ => true) true n 3 ((([a, b, c, d, e, f] : List Value).drop 2).take (Tryz.prog.cellsOf 3)) = xs[2]? := hf 2 _ rfl
   rw [c3] at h; exact h
  have f3 : DataW.trod enc Tryz.prog w 0 (fun _ => true) true n 3 [d] = xs[3]? := by
   have h : DataW.trod enc Tryz.prog w 0 (fun _ => true) true n 3 ((([a, b, c, d, e, f] : List Value).drop 3).take (Tryz.prog.cellsOf 3)) = xs[3]? := hf 3 _ rfl
   rw [c3] at h; exact h
  have f4 : DataW.trod enc Tryz.prog w 0 (fun _ => true) true n 3 [e] = xs[4]? := by
   have h : DataW.trod enc Tryz.prog w 0 (fun _ => true) true n 3 ((([a, b, c, d, e, f] : List Value).drop 4).take (Tryz.prog.cellsOf 3)) = xs[4]? := hf 4 _ rfl
   rw [c3] at h; exact h
  have f5 : DataW.trod enc Tryz.prog w 0 (fun _ => true) true n 9 [f] = xs[5]? := by
   have h : DataW.trod enc Tryz.prog w 0 (fun _ => true) true n 9 ((([a, b, c, d, e, f] : List Value).drop 5).take (Tryz.prog.cellsOf 9)) = xs[5]? := hf 5 _ rfl
   rw [c9] at h; exact h
  rw [List.getElem?_eq_getElem (by omega)] at f0 f1 f2 f3 f4 f5
  obtain ⟨k0, rfl, _⟩ := cell_of f0
  obtain ⟨k1, rfl, _⟩ := cell_of f1
  obtain ⟨k2, rfl, hn⟩ := cell_of f2
  obtain ⟨k3, rfl, _⟩ := cell_of f3
  obtain ⟨k4, rfl, _⟩ := cell_of f4
  obtain ⟨s, rfl⟩ := str_of f5
  refine ⟨_, ⟨k0, k1, k2, k3, k4, s.data.toList⟩, ⟨rfl, hn⟩, rfl, fun j h1 h2 => ?_⟩
  have : j < 6 := h2
  match j, this with
  | 0, _ => exact .int ..
  | 1, _ => exact .int ..
  | 2, _ => exact .int ..
  | 3, _ => exact .int ..
  | 4, _ => exact .int ..
  | 5, _ => exact .str s
theorem All2.ws {vs : List AV} {l : List W} (h : All2 WR vs l) : vs = l.map W.av ∧ ∀ w ∈ l, (-(2 ^ 63) ≤ w.n ∧ w.n ≤ 2 ^ 63 - 1) := by
 induction h with
 | nil => simp
 | cons h r ih => refine ⟨by rw [h.1, ih.1]; rfl, fun w hw => ?_⟩; rcases List.mem_cons.1 hw with rfl | hw; exact h.2; exact ih.2 w hw
theorem All2.mono {α β : Type} {R S : α → β → Prop} {xs ys} (h : All2 R xs ys) (hs : ∀ x y, R x y → S x y) : All2 S xs ys := by
 induction h with
 | nil => exact .nil
 | cons h r ih => exact .cons (hs _ _ h) ih
theorem All2.right {α β : Type} {R : α → β → Prop} {P : β → Prop} {xs ys} (h : All2 R xs ys) (hs : ∀ x y, R x y → P y) : ∀ y ∈ ys, P y := by
 induction h with
 | nil => simp
 | cons h r ih => intro y hy; rcases List.mem_cons.1 hy with rfl | hy; exact hs _ _ h; exact ih y hy
def RowR (v : AV) (l : List W) : Prop := RepL v l ∧ l.length ≤ 2 ^ 47 ∧ ∀ w ∈ l, (-(2 ^ 63) ≤ w.n ∧ w.n ≤ 2 ^ 63 - 1)
set_option maxRecDepth 20000 in
theorem row_rel {H : Type} {enc : TypeId × Value → H} {w : World} {n : Nat} {cs : List Value} {x : DataW H × List MemPlace} (h : DataW.trod enc Tryz.prog w 0 (fun _ => true) true n 42 cs = some x) (hw : WtOk 42 x.1) : ∃ v o, RowR v o ∧ CellsV w v cs := by
 obtain ⟨v, os, h1, h2, h3⟩ := slice_rel (sz := 6) WR Tryz.underlying42 (by kernel_rfl) (by omega) (of_decide_eq_true (by kernel_rfl)) (fun n cs' d q h _ => w_rel h) h hw
 rcases h2 with ⟨rfl, rfl⟩ | ⟨vs, rfl, h4⟩
 ·exact ⟨_, [], ⟨.inl ⟨rfl, rfl⟩, h3, by simp⟩, h1⟩
 ·obtain ⟨e, hn⟩ := h4.ws
  exact ⟨_, os, ⟨.inr ⟨false, by rw [e]⟩, h3, hn⟩, h1⟩
def ListsR (v : AV) (l : To) : Prop := ListsV v l ∧ l.length ≤ 2 ^ 47 ∧ (∀ r ∈ l, r.length ≤ 2 ^ 47) ∧ ∀ r ∈ l, ∀ w ∈ r, (-(2 ^ 63) ≤ w.n ∧ w.n ≤ 2 ^ 63 - 1)
set_option maxRecDepth 20000 in
theorem lists_rel {H : Type} {enc : TypeId × Value → H} {w : World} {n : Nat} {cs : List Value} {x : DataW H × List MemPlace} (h : DataW.trod enc Tryz.prog w 0 (fun _ => true) true n 39 cs = some x) (hw : WtOk 39 x.1) : ∃ v o, ListsR v o ∧ CellsV w v cs := by
 obtain ⟨v, os, h1, h2, h3⟩ := slice_rel (sz := 1) RowR Tryz.underlying39 (by kernel_rfl) (by omega) (of_decide_eq_true (by kernel_rfl)) (fun n cs' d q h hw => row_rel h hw) h hw
 rcases h2 with ⟨rfl, rfl⟩ | ⟨vs, rfl, h4⟩
 ·exact ⟨_, [], ⟨.inl ⟨rfl, rfl⟩, h3, by simp, by simp⟩, h1⟩
 ·exact ⟨_, os, ⟨.inr ⟨false, vs, rfl, h4.mono fun _ _ h => h.1⟩, h3, h4.right fun _ _ h => h.2.1, h4.right fun _ _ h => h.2.2⟩, h1⟩
def NumsR (m : M) : Prop := ∀ f ∈ m.funcs, ∀ l ∈ f.lists, ∀ w ∈ l, (-(2 ^ 63) ≤ w.n ∧ w.n ≤ 2 ^ 63 - 1)
def FR (v : AV) (f : F) : Prop := FV v f ∧ f.params.length ≤ 2 ^ 47 ∧ f.locals.length ≤ 2 ^ 47 ∧ f.lists.length ≤ 2 ^ 47 ∧ (∀ r ∈ f.lists, r.length ≤ 2 ^ 47) ∧ ∀ r ∈ f.lists, ∀ w ∈ r, (-(2 ^ 63) ≤ w.n ∧ w.n ≤ 2 ^ 63 - 1)
set_option maxRecDepth 20000 in
theorem f_rel {H : Type} {enc : TypeId × Value → H} {w : World} {n : Nat} {cs : List Value} {x : DataW H × List MemPlace} (h : DataW.trod enc Tryz.prog w 0 (fun _ => true) true n 41 cs = some x) (hw : WtOk 41 x.1) : ∃ v o, FR v o ∧ CellsV w v cs := by
 obtain ⟨xs, n, rfl, hx, hlen, hxl, hf⟩ := DataW.trod_struct Tryz.underlying41 h
 have hxl' : xs.length = 5 := hxl
 have hlen' : cs.length = 5 := hlen.trans (by kernel_rfl)
 unfold WtOk at hw
 rw [hx] at hw
 unfold DataW.weights at hw
 rw [Tryz.underlying41] at hw
 simp only at hw
 have hwt := wtEach hw
 match cs, hlen' with
 | [a, b, c, d, e], _ =>
  have c9 : Tryz.prog.cellsOf 9 = 1 := by kernel_rfl
  have c3 : Tryz.prog.cellsOf 3 = 1 := by kernel_rfl
  have c34 : Tryz.prog.cellsOf 25 = 1 := by kernel_rfl
  have c35 : Tryz.prog.cellsOf 39 = 1 := by kernel_rfl
  have f0 : DataW.trod enc Tryz.prog w 0 (fun _ => true) true n 9 [a] = xs[0]? := by
   have h : DataW.trod enc Tryz.prog w 0 (fun _ => true) true n 9 ((([a, b, c, d, e] : List Value).drop 0).take (Tryz.prog.cellsOf 9)) = xs[0]? := hf 0 _ rfl
   rw [c9] at h; exact h
  have f1 : DataW.trod enc Tryz.prog w 0 (fun _ => true) true n 25 [b] = xs[1]? := by
   have h : DataW.trod enc Tryz.prog w 0 (fun _ => true) true n 25 ((([a, b, c, d, e] : List Value).drop 1).take (Tryz.prog.cellsOf 25)) = xs[1]? := hf 1 _ rfl
   rw [c34] at h; exact h
  have f2 : DataW.trod enc Tryz.prog w 0 (fun _ => true) true n 25 [c] = xs[2]? := by
   have h : DataW.trod enc Tryz.prog w 0 (fun _ => true) true n 25 ((([a, b, c, d, e] : List Value).drop 2).take (Tryz.prog.cellsOf 25)) = xs[2]? := hf 2 _ rfl
   rw [c34] at h; exact h
  have f3 : DataW.trod enc Tryz.prog w 0 (fun _ => true) true n 3 [d] = xs[3]? := by
   have h : DataW.trod enc Tryz.prog w 0 (fun _ => true) true n 3 ((([a, b, c, d, e] : List Value).drop 3).take (Tryz.prog.cellsOf 3)) = xs[3]? := hf 3 _ rfl
   rw [c3] at h; exact h
  have f4 : DataW.trod enc Tryz.prog w 0 (fun _ => true) true n 39 [e] = xs[4]? := by
   have h : DataW.trod enc Tryz.prog w 0 (fun _ => true) true n 39 ((([a, b, c, d, e] : List Value).drop 4).take (Tryz.prog.cellsOf 39)) = xs[4]? := hf 4 _ rfl
   rw [c35] at h; exact h
  rw [List.getElem?_eq_getElem (by omega)] at f0 f1 f2 f3 f4
  obtain ⟨s, rfl⟩ := str_of f0
  obtain ⟨k, rfl, _⟩ := cell_of f3
  obtain ⟨pv, ps, ⟨hp, hpl, _⟩, hp'⟩ := ints_rel f1 (hwt 1 25 _ rfl (by simp [List.getElem?_eq_getElem (show 1 < xs.length by omega)]))
  obtain ⟨lv, ls, ⟨hl, hll, _⟩, hl'⟩ := ints_rel f2 (hwt 2 25 _ rfl (by simp [List.getElem?_eq_getElem (show 2 < xs.length by omega)]))
  obtain ⟨tv, ts, ⟨ht, htl, htr, htn⟩, ht'⟩ := lists_rel f4 (hwt 4 39 _ rfl (by simp [List.getElem?_eq_getElem (show 4 < xs.length by omega)]))
  refine ⟨_, ⟨s.data.toList, ps, ls, k, ts⟩, ⟨⟨pv, lv, tv, rfl, hp, hl, ht⟩, hpl, hll, htl, htr, htn⟩, rfl, fun j h1 h2 => ?_⟩
  have : j < 5 := h2
  match j, this with
  | 0, _ => exact .str s
  | 1, _ => exact hp'.to hp.one.2.2
  | 2, _ => exact hl'.to hl.one.2.2
  | 3, _ => exact .int ..
  | 4, _ => exact ht'.to ht.one.2.2
set_option maxRecDepth 20000 in
theorem m_rel {H : Type} {enc : TypeId × Value → H} {w : World} {n : Nat} {cs : List Value} {x : DataW H × List MemPlace} (h : DataW.trod enc Tryz.prog w 0 (fun _ => true) true n 24 cs = some x) (hw : WtOk 24 x.1) : ∃ v m, MV v m ∧ Fits m ∧ NumsR m ∧ CellsV w v cs := by
 obtain ⟨xs, n, rfl, hx, hlen, hxl, hf⟩ := DataW.trod_struct Tryz.underlying24 h
 have hxl' : xs.length = 3 := hxl
 have hlen' : cs.length = 3 := hlen.trans (by kernel_rfl)
 unfold WtOk at hw
 rw [hx] at hw
 unfold DataW.weights at hw
 rw [Tryz.underlying24] at hw
 simp only at hw
 have hwt := wtEach hw
 match cs, hlen' with
 | [a, b, c], _ =>
  have c22 : Tryz.prog.cellsOf 22 = 1 := by kernel_rfl
  have c3 : Tryz.prog.cellsOf 3 = 1 := by kernel_rfl
  have f0 : DataW.trod enc Tryz.prog w 0 (fun _ => true) true n 22 [a] = xs[0]? := by
   have h : DataW.trod enc Tryz.prog w 0 (fun _ => true) true n 22 ((([a, b, c] : List Value).drop 0).take (Tryz.prog.cellsOf 22)) = xs[0]? := hf 0 _ rfl
   rw [c22] at h; exact h
  have f1 : DataW.trod enc Tryz.prog w 0 (fun _ => true) true n 3 [b] = xs[1]? := by
   have h : DataW.trod enc Tryz.prog w 0 (fun _ => true) true n 3 ((([a, b, c] : List Value).drop 1).take (Tryz.prog.cellsOf 3)) = xs[1]? := hf 1 _ rfl
   rw [c3] at h; exact h
  have f2 : DataW.trod enc Tryz.prog w 0 (fun _ => true) true n 3 [c] = xs[2]? := by
   have h : DataW.trod enc Tryz.prog w 0 (fun _ => true) true n 3 ((([a, b, c] : List Value).drop 2).take (Tryz.prog.cellsOf 3)) = xs[2]? := hf 2 _ rfl
   rw [c3] at h; exact h
  rw [List.getElem?_eq_getElem (by omega)] at f0 f1 f2
  obtain ⟨k1, rfl, _⟩ := cell_of f1
  obtain ⟨k2, rfl, _⟩ := cell_of f2
  obtain ⟨fv, fs, h1, h2, h3⟩ := slice_rel (sz := 5) FR Tryz.underlying22 (by kernel_rfl) (by omega) (of_decide_eq_true (by kernel_rfl)) (fun n cs' d q h hw => f_rel h hw) f0 (hwt 0 22 _ rfl (by simp [List.getElem?_eq_getElem (show 0 < xs.length by omega)]))
  have hfv : FsV fv fs ∧ ∀ f ∈ fs, ∃ v, FR v f := by
   rcases h2 with ⟨rfl, rfl⟩ | ⟨vs, rfl, h4⟩
   ·exact ⟨.inl ⟨rfl, rfl⟩, by simp⟩
   ·exact ⟨.inr ⟨false, vs, rfl, h4.mono fun _ _ h => h.1⟩, h4.right fun v _ h => ⟨v, h⟩⟩
  obtain ⟨hfv, hall⟩ := hfv
  refine ⟨_, ⟨fs, k1, k2⟩, ⟨fv, rfl, hfv⟩, ⟨h3, fun f hf => ?_, fun f hf => ?_, fun f hf => ?_, fun f hf => ?_⟩, fun f hf => ?_, rfl, fun j h4 h5 => ?_⟩
  ·obtain ⟨v, h⟩ := hall f hf; exact h.2.1
  ·obtain ⟨v, h⟩ := hall f hf; exact h.2.2.1
  ·obtain ⟨v, h⟩ := hall f hf; exact h.2.2.2.1
  ·obtain ⟨v, h⟩ := hall f hf; exact h.2.2.2.2.1
  ·obtain ⟨v, h⟩ := hall f hf; exact h.2.2.2.2.2
  have : j < 3 := h5
  match j, this with
  | 0, _ => exact h1.to hfv.one.2.2
  | 1, _ => exact .int ..
  | 2, _ => exact .int ..
end Go.Proofs.YthifgodgfhbnfaaGreatDoor
set_option linter.unusedSimpArgs false
set_option linter.unusedVariables false
namespace Go
open Go.ChangeShapes Go.WideShapes Go.ChangeAt Go.RowKit
theorem returnsInHanded_of_change_and_shaped {H : Type} {enc : TypeId × Value → H} {a : Assume} {C : Checked} {os : Os} {f : FuncId} {fn : Func} {s : ChangeSpec} {conds : List PathCond} {apart fresh handsOn again : Bool} {X : World → Array Value → Prop}
  (hX : ∀ (w w' : World) (args : Array Value), w.heap = w'.heap → X w args → X w' args)
  (own : ownKnob C.prog.godebug = none) (started : os.Started) (noInit : C.prog.inits.idxOf? f = none) (hfn : C.prog.funcs[f]? = some fn)
  (witness : ∃ (w : World) (tape : Tape) (i : Input), w.os = os ∧ (w.forCall tape i).Shaped C.prog ∧ i.vars = [] ∧ Input.okWide C.prog (w.forCall tape i) .any w.heap.size f i ∧
   ((s.pre enc C.prog fn conds apart (w.forCall tape i).memory i.args ∧ X (w.forCall tape i).memory i.args) ∧ sizedMet enc C.prog fn (OpenSpec.ofChange s) apart (w.forCall tape i).memory i.args) ∧ a.holds C.prog (lone (Frame.enter C.prog f i.args .normal) [] (w.forCall tape i)))
  (contract : ∀ (W : World) (base : Nat) (args : Array Value) (ds gs : List (DataW H)) (before : List MemPlace),
   (∀ (j : Nat) t v, fn.params[j]? = some t → args[j]? = some v → Value.okWide C.prog W .any base t v) →
   DataW.Whole enc C.prog fn.params.toList s.vars apart W args.toList ds gs before → (DataW.weightsEach C.prog (fn.params.toList ++ s.plain.varTypes C.prog) (ds ++ gs)).all (· ≤ reachBytes) = true → W.ShapedOpen C.prog → X W args →
   Calls C.prog f args W fun e W' => ∃ v, e = .returned v ∧ s.post enc C.prog fn apart fresh handsOn again W args v W') :
  ReturnsInHanded a C os f .any (fun w args => (s.pre enc C.prog fn conds apart w args ∧ X w args) ∧ sizedMet enc C.prog fn (OpenSpec.ofChange s) apart w args) (s.post enc C.prog fn apart fresh handsOn again) := by
 refine returnsInHanded_of_calls own started noInit witness ?_
 intro w tape i _ hsh _ hok hpre hholds
 obtain ⟨_, _, _, fn', hfn', _, _, _, _, hval⟩ := hok
 have e : fn' = fn := Option.some.inj (hfn'.symm.trans hfn)
 subst e
 obtain ⟨⟨⟨ds, gs, before, hw, hc⟩, hx⟩, hz⟩ := hpre
 have hw' := DataW.Whole.of_heap (w' := w.forCall tape i) (by rfl) hw
 refine (contract (w.forCall tape i) w.heap.size i.args ds gs before hval hw' (hz.weights hw) hsh (hX _ _ _ (by rfl) hx)).mono fun e W' ⟨v, he, hp⟩ => ?_
 subst he
 exact ChangeSpec.post_blind hp
theorem cells_of_strs {H : Type} {enc : TypeId × Value → H} {P : Program} {w : World} {base : Nat} {sp : Nat → Bool} {held : Bool} {fuel : Nat} {t e : TypeId} {n : Nat} {cs : List Value} {ls : List (List UInt8)} {p : List MemPlace}
  (ht : P.underlying t = some (.array n e)) (he : P.underlying e = some .string) (hce : P.cellsOf e = 1) (hct : P.cellsOf t = n)
  (h : DataW.trod enc P w base sp held fuel t cs = some (.agg (ls.map fun l => .lit (.string l)), p)) : cs = ls.map fun l => Value.string ⟨l.toArray⟩ := by
 cases fuel with
 | zero => simp [DataW.trod] at h
 | succ fuel =>
  simp only [DataW.trod, ht, hce, hct, Nat.mul_one] at h
  split at h
  ·rename_i hl
   obtain ⟨xs, hm, hx⟩ := Option.map_eq_some_iff.1 h
   have hxs : xs.map (·.1) = ls.map fun l => (DataW.lit (.string l) : DataW H) := by
    have := congrArg Prod.fst hx
    simpa using this
   have hxl : xs.length = n := by simpa using Lib.mapM_length hm
   have hzl : ls.length = n := by
    have := congrArg List.length hxs
    simp at this
    omega
   apply List.ext_getElem?
   intro i
   by_cases hi : i < n
   ·obtain ⟨b, hb, hf⟩ := Lib.mapM_at hm i i (by simp [hi])
    obtain ⟨s, hc, rfl, _⟩ := DataW.trod_string he hf
    have h1 : cs[i]? = some (.string s) := by
     have := congrArg (·[0]?) hc
     simpa [List.getElem?_take, List.getElem?_drop] using this
    have h2 : (xs.map (·.1))[i]? = some (DataW.lit (.string s.data.toList) : DataW H) := by simp [hb]
    rw [hxs] at h2
    simp only [List.getElem?_map, Option.map_eq_some_iff, DataW.lit.injEq, Lit.string.injEq] at h2
    obtain ⟨l, hl1, hl2⟩ := h2
    simp [h1, hl1, hl2]
   ·rw [List.getElem?_eq_none (by omega), List.getElem?_eq_none (by simp; omega)]
  ·cases h
theorem pairs_flat {g : List UInt8 × List UInt8 → List Value} : ∀ (ls : List (List UInt8 × List UInt8)) (cs : List Value), cs.length = ls.length * 2 → (∀ i (h : i < ls.length), (cs.drop (i * 2)).take 2 = g ls[i]) → cs = (ls.map g).flatten
 | [], cs, h, _ => by simpa using h
 | l :: ls, cs, h, hg => by
  have h0 := hg 0 (by simp)
  have ih := pairs_flat (g := g) ls (cs.drop 2) (by rw [List.length_drop, h, List.length_cons]; omega) fun i hi => by
   have := hg (i + 1) (Nat.succ_lt_succ hi)
   rw [List.drop_drop]
   have e : 2 + i * 2 = (i + 1) * 2 := by omega
   rw [e]; exact this
  simp only [List.map_cons, List.flatten_cons, ← ih]
  simp at h0
  rw [← h0, List.take_append_drop]
theorem cells_of_pairs {H : Type} {enc : TypeId × Value → H} {P : Program} {w : World} {base : Nat} {sp : Nat → Bool} {held : Bool} {fuel : Nat} {t e u : TypeId} {n : Nat} {cs : List Value} {ls : List (List UInt8 × List UInt8)} {p : List MemPlace}
  (ht : P.underlying t = some (.array n e)) (he : P.underlying e = some (.array 2 u)) (hu : P.underlying u = some .string) (hcu : P.cellsOf u = 1) (hce : P.cellsOf e = 2) (hct : P.cellsOf t = n * 2)
  (h : DataW.trod enc P w base sp held fuel t cs = some (.agg (ls.map fun l => .agg [.lit (.string l.1), .lit (.string l.2)]), p)) : cs = (ls.map fun l => [Value.string ⟨l.1.toArray⟩, Value.string ⟨l.2.toArray⟩]).flatten := by
 cases fuel with
 | zero => simp [DataW.trod] at h
 | succ fuel =>
  simp only [DataW.trod, ht, hce, hct] at h
  split at h
  ·rename_i hl
   obtain ⟨xs, hm, hx⟩ := Option.map_eq_some_iff.1 h
   have hxs : xs.map (·.1) = ls.map fun l => (DataW.agg [.lit (.string l.1), .lit (.string l.2)] : DataW H) := by
    have := congrArg Prod.fst hx
    simpa using this
   have hxl : xs.length = n := by simpa using Lib.mapM_length hm
   have hzl : ls.length = n := by
    have := congrArg List.length hxs
    simp at this
    omega
   refine pairs_flat ls cs (by omega) fun i hi => ?_
   have hin : i < n := by omega
   obtain ⟨b, hb, hf⟩ := Lib.mapM_at hm i i (by simp [hin])
   obtain ⟨b1, b2⟩ := b
   have hbe : b1 = (DataW.agg ([ls[i].1, ls[i].2].map fun l => .lit (.string l)) : DataW H) := by
    have h2 : (xs.map (·.1))[i]? = some b1 := by simp [hb]
    rw [hxs] at h2
    have h3 := h2
    rw [List.getElem?_map, List.getElem?_eq_getElem hi] at h3
    exact (Option.some.inj h3).symm
   rw [hbe] at hf
   exact cells_of_strs he hu hcu hce hf
  ·cases h
end Go
namespace Go.Proofs.YthifgodgfhbnfaaGreatDoor
open Go Go.Abs Go.RowKit
theorem own : ownKnob Tryz.prog.godebug = none := by kernel_rfl
abbrev LAID : List (String × DataW Unit) := [("mortise/wasm.signs", Rows.laid_mortise_wasm_signs)]
def GD (m : Int) : Env where
 g := fun x => match x with | 0 => .pv (.stat true) (.agg signCells) | 1 => .pv (.stat true) (.int .i64 m) | _ => .undef
 has := fun _ => False
 y := fun _ _ _ _ _ => False
 fix := fun _ => none
theorem GD_vars (m) : Vars (GD m) := ⟨rfl, m, rfl⟩
structure WOk (m : Int) (w : World) : Prop where
 g : GOk Tryz.prog (GD m) (Mp.all w) AS.zero.F w
def signVals : List Value := (signs.map fun p => [Value.string ⟨p.1.toArray⟩, Value.string ⟨p.2.toArray⟩]).flatten
theorem signs_rel {M F} {w : World} : ∀ (ls : List (List UInt8 × List UInt8)) (j : Nat) (h : j < ((ls.map fun p => [AV.str p.1, AV.str p.2]).flatten).length),
  ∃ c, ((ls.map fun p => [Value.string ⟨p.1.toArray⟩, Value.string ⟨p.2.toArray⟩]).flatten)[j]? = some c ∧ VR M F w ((ls.map fun p => [AV.str p.1, AV.str p.2]).flatten)[j] c
 | [], j, h => by simp at h
 | l :: ls, j, h => by
  simp only [List.map_cons, List.flatten_cons, List.cons_append, List.nil_append] at h ⊢
  match j with
  | 0 => exact ⟨_, rfl, by simpa using VR.str (M := M) (F := F) (w := w) ⟨l.1.toArray⟩⟩
  | 1 => exact ⟨_, rfl, by simpa using VR.str (M := M) (F := F) (w := w) ⟨l.2.toArray⟩⟩
  | j + 2 => simpa using signs_rel ls j (by simpa using h)
theorem wok_of_laid {W : World} (hs : W.ShapedOpen Tryz.prog) (hl : laidMetH Tryz.prog LAID W) : ∃ m, WOk m W := by
 have hl0 : laidMet Tryz.prog LAID W := hl
 obtain ⟨m, hm⟩ := Tryz.laysM143.s1_3 W hs
 obtain ⟨ps, ⟨g, t, cs, fuel, p, q, g1, g2, g3, g4, _, _⟩, _⟩ := hl0
 have hg0 : g = 0 := Option.some.inj (g1.symm.trans (show Tryz.prog.globalNamed "mortise/wasm.signs" = some 0 by kernel_rfl))
 subst hg0
 have ht0 : t = 139 := Option.some.inj (g2.symm.trans (show (Tryz.prog.globals[0]?).map (·.type) = some 139 by kernel_rfl))
 subst ht0
 have hcs : cs.toList = signVals := cells_of_pairs (n := 16) (e := 138) (u := 9) (ls := signs) Tryz.underlying139 Tryz.underlying138 Tryz.underlying9 (by kernel_rfl) (by kernel_rfl) (by kernel_rfl) g4
 have hv0 : ∀ j, W.cell? ⟨0, j, none⟩ = cs[j]? := fun j => by
  have := World.var?_cell (show Tryz.prog.globalNamed "mortise/wasm.signs" = some 0 by kernel_rfl) g3 j
  simpa using this
 have hl1 : 1 < W.heap.size := World.block_lt_of_cell? W _ hm
 have hl0' : 0 < W.heap.size := by omega
 refine ⟨m, ⟨⟨fun x => ?_, fun _ h => h.elim, fun B c h => by cases h⟩⟩⟩
 match x with
 | 0 =>
  refine .pv _ _ 0 0 (fun j => signVals.getD j undef) (by simp [Mem, Mp.all, hl0']) (fun _ j hj => ?_) (fun _ j hj => ?_)
  ·obtain ⟨c, h1, _⟩ := signs_rel (M := Mp.all W) (F := AS.zero.F) (w := W) signs j hj
   rw [Nat.zero_add, hv0 j, ← Array.getElem?_toList, hcs, List.getD_eq_getElem?_getD]
   show signVals[j]? = _
   have h1' : signVals[j]? = some c := h1
   rw [h1']; rfl
  ·obtain ⟨c, h1, h2⟩ := signs_rel (M := Mp.all W) (F := AS.zero.F) (w := W) signs j hj
   have h1' : signVals[j]? = some c := h1
   rw [List.getD_eq_getElem?_getD, h1']
   exact h2
 | 1 =>
  refine .pv _ _ 1 0 (fun j => .int .i64 m) (by simp [Mem, Mp.all, hl1]) (fun _ j hj => ?_) (fun _ j hj => ?_)
  ·have hj' : j = 0 := by simpa using hj
   subst hj'
   exact hm
  ·have hj' : j = 0 := by simpa using hj
   subst hj'
   exact VR.int ..
 | n + 2 => exact .undef _
def layIn (cs : Array Value) : Obj → Obj
 | .cells _ t fr => .cells cs t fr
 | o => o
noncomputable def laidWorld (os : Os) : World :=
 let w0 := World.holding Tryz.prog os ⟨#[], #[], []⟩
 { w0 with heap := w0.heap.modify 0 (layIn signVals.toArray) }
theorem laid_met (os : Os) (args : Array Value) : laidMetH Tryz.prog LAID ((laidWorld os).forCall (fun _ _ => 0) ⟨#[], args, []⟩).memory :=
 show laidMet Tryz.prog LAID _ from laidMet_of_run' 8 (by kernel_rfl) (by kernel_rfl)
end Go.Proofs.YthifgodgfhbnfaaGreatDoor
set_option linter.unusedSimpArgs false
set_option linter.unusedVariables false
namespace Go.Proofs.YthifgodgfhbnfaaGreatDoor
open Go Go.Abs Go.RowKit Go.ChangeShapes Go.WideShapes Go.ChangeAt
theorem laidOut : laidOutB Tryz.prog = true := by kernel_rfl
set_option maxRecDepth 20000 in
theorem m_arg {H : Type} {enc : TypeId × Value → H} {W : World} {v : Value} {d : DataW H} {p : List MemPlace} {base : Nat} (hval : Value.okWide Tryz.prog W .any base 24 v) (h : DataW.Trod enc Tryz.prog W 0 (fun _ => true) true 24 v d p)
  (hw : WtOk 24 d) : ∃ mv m, MV mv m ∧ Fits m ∧ NumsR m ∧ VR (Mp.all W) AS.zero.F W mv v := by
 obtain ⟨cs, rfl, hsz⟩ := okWide_struct Tryz.underlying24 hval
 obtain ⟨fuel, hf⟩ := h
 obtain ⟨mv, m, h1, h2, h3, h4⟩ := m_rel hf hw
 obtain ⟨fv, rfl, hfs⟩ := h1
 refine ⟨_, m, ⟨fv, rfl, hfs⟩, h2, h3, .agg _ _ ?_ fun j h h' => ?_⟩
 ·have := h4.1
  simp [AV.cells, Value.cells] at this ⊢
  omega
 ·exact h4.2 j h (by simpa [Value.cells] using h')
end Go.Proofs.YthifgodgfhbnfaaGreatDoor
namespace Go.Proofs.YthifgodgfhbnfaaGreatDoor.peepLess
open Go Go.Abs Go.RowKit Go.ChangeShapes Go.WideShapes Go.ChangeAt
end Go.Proofs.YthifgodgfhbnfaaGreatDoor.peepLess
