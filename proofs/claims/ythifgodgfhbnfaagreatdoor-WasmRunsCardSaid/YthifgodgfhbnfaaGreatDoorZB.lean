/- Parts of the proof of the row WasmRuns: contracts of functions, each under the conditions that its theorem names. -/
import Derived.Test.YthifgodgfhbnfaaGreatDoorZA
import Derived.Test.YthifgodgfhbnfaaGreatDoorAbsB
set_option linter.unusedSimpArgs false
set_option linter.unusedVariables false
set_option linter.unusedSimpArgs false
set_option linter.unusedVariables false
namespace Go.Proofs.YthifgodgfhbnfaaGreatDoor
open Go Go.Abs
section
variable {fs : List F}
theorem brM_top {x : Mach} {cs : List Cl} {fi : Int} {r : Fr} {os : List Opn} {at_ : Int} {h : Nat} {loop : Bool} (hos : os ≠ []) (hl : r.stack.length = h) :
  brM x cs fi r (os ++ [⟨at_, 0, h, loop⟩]) 0 = some (LSt x cs fi r (if loop then os ++ [⟨at_, 0, h, true⟩] else os)) := by
 have h1 : 0 < os.length := List.length_pos_iff.2 hos
 unfold brM
 simp only [List.length_append, List.length_cons, List.length_nil]
 rw [if_neg (by omega), if_neg (by omega)]
 have e1 : ((os.length + (0 + 1) : Nat) : Int) - 1 - 0 = (os.length : Int) := by omega
 rw [e1]
 simp only [Int.toNat_natCast, List.getElem?_concat_length]
 rw [if_neg (by omega)]
 have e2 : r.stack.take h = r.stack := List.take_of_length_le (by omega)
 cases loop with
 | true => simp [e2, hl]
 | false => simp [e2]
theorem brM_out {x : Mach} {cs : List Cl} {fi : Int} {r : Fr} {os : List Opn} {p : Opn} {o : Int} {m : Ma} (ho : 0 < o) (e : brM x cs fi r os (o - 1) = some m) : brM x cs fi r (os ++ [p]) o = some m := by
 unfold brM at e ⊢
 simp only [List.length_append, List.length_cons, List.length_nil]
 have e1 : ((os.length + (0 + 1) : Nat) : Int) - 1 - o = (os.length : Int) - 1 - (o - 1) := by omega
 rw [e1]
 by_cases h1 : o - 1 < 0 ∨ (os.length : Int) - 1 < o - 1
 ·rw [if_pos h1] at e; cases e
 rw [if_neg h1] at e
 rw [if_neg (by omega)]
 by_cases h2 : (os.length : Int) - 1 - (o - 1) = 0
 ·rw [if_pos h2] at e ⊢
  exact e
 rw [if_neg h2] at e ⊢
 have hlt : ((os.length : Int) - 1 - (o - 1)).toNat < os.length := by omega
 rw [List.getElem?_append_left hlt, List.take_append_of_le_length (by omega)]
 exact e
theorem brM_done {x : Mach} {cs : List Cl} {fi : Int} {r : Fr} {os : List Opn} {at_ d : Int} {h : Int} {loop : Bool} {o : Int} : brM x cs fi r (os ++ [⟨at_, d, h, loop⟩]) o = brM x cs fi r (os ++ [⟨at_, 0, h, loop⟩]) o := by
 unfold brM
 simp only [List.length_append, List.length_cons, List.length_nil]
 by_cases h1 : o < 0 ∨ ((os.length + (0 + 1) : Nat) : Int) - 1 < o
 ·rw [if_pos h1, if_pos h1]
 rw [if_neg h1, if_neg h1]
 by_cases h2 : ((os.length + (0 + 1) : Nat) : Int) - 1 - o = 0
 ·rw [if_pos h2, if_pos h2]
 rw [if_neg h2, if_neg h2]
 have e2 : ∀ q : Opn, (os ++ [q]).take (((os.length + (0 + 1) : Nat) : Int) - 1 - o).toNat = os.take (((os.length + (0 + 1) : Nat) : Int) - 1 - o).toNat := fun q => List.take_append_of_le_length (by omega)
 by_cases h3 : (((os.length + (0 + 1) : Nat) : Int) - 1 - o).toNat < os.length
 ·rw [List.getElem?_append_left h3, List.getElem?_append_left h3, e2, e2]
 ·have e3 : (((os.length + (0 + 1) : Nat) : Int) - 1 - o).toNat = os.length := by omega
  rw [e3] at e2 ⊢
  simp
theorem loopA_sim {rec : RunR} (hr : RecS fs rec) {cs : List Cl} {fi at_ deep : Int} {os : List Opn} {g : F} (hf : fnAt fs fi = some g) (hd : (os.length : Int) = deep) (hos : os ≠ []) (isLoop : Bool) :
  ∀ (j : Nat) (x : Mach) (r : Fr), r.fn = g → x.calls = (cs.length : Int) + 1 → match loopA rec isLoop at_ deep j x r with
  | .bad => True
  | .over s c x' => Fin fs x.steps.toNat (LSt x cs fi r (os ++ [⟨at_, 0, r.stack.length, isLoop⟩])) (x'.out, s, c)
  | .ok o x' r' => r'.fn = r.fn ∧ x'.calls = x.calls ∧ (o = -1 → ∀ res, Fin fs x'.steps.toNat (LSt x' cs fi r' os) res → Fin fs x.steps.toNat (LSt x cs fi r (os ++ [⟨at_, 0, r.stack.length, isLoop⟩])) res) ∧
    (o ≠ -1 → 0 ≤ o ∧ o < (os.length : Int) ∧ ∀ m res, brM x' cs fi r' os o = some m → Fin fs x'.steps.toNat m res → Fin fs x.steps.toNat (LSt x cs fi r (os ++ [⟨at_, 0, r.stack.length, isLoop⟩])) res)
 | 0, x, r, _, _ => trivial
 | j + 1, x, r, hg, hc => by
  rw [loopA]
  have key := hr x r at_ deep cs fi os isLoop (by rw [hg]; exact hf) hd hc
  revert key
  cases rec x r at_ deep with
  | bad => exact fun _ => trivial
  | over s c x' => exact fun h => h
  | ok o x' r' =>
   intro ⟨k1, k2, k3, k4⟩
   dsimp only at k1 k2 k3 k4 ⊢
   by_cases hc1 : o = 0 ∧ isLoop = true
   ·rw [if_pos hc1]
    obtain ⟨o0, o1, o2, o3⟩ := k4 (by omega)
    have key := loopA_sim (at_ := at_) hr hf hd hos isLoop j x' r' (k1.trans hg) (k2.trans hc)
    have hb := brM_top (x := x') (cs := cs) (fi := fi) (r := r') (os := os) (at_ := at_) (h := r.stack.length) (loop := isLoop) hos o2
    rw [hc1.2, if_pos rfl] at hb
    have step : ∀ res, Fin fs x'.steps.toNat (LSt x' cs fi r' (os ++ [⟨at_, 0, r'.stack.length, isLoop⟩])) res → Fin fs x.steps.toNat (LSt x cs fi r (os ++ [⟨at_, 0, r.stack.length, isLoop⟩])) res := fun res hfi => by
     refine o3 _ res ?_ hfi
     rw [hc1.1, hc1.2, o2]
     exact hb
    revert key
    cases loopA rec isLoop at_ deep j x' r' with
    | bad => exact fun _ => trivial
    | over s c x2 => exact fun h => step _ h
    | ok o2 x2 r2 =>
     intro ⟨j1, j2, j3, j4⟩
     exact ⟨j1.trans k1, j2.trans k2, fun q res hfi => step _ (j3 q res hfi), fun q => ⟨(j4 q).1, (j4 q).2.1, fun m res hm hfi => step _ ((j4 q).2.2 m res hm hfi)⟩⟩
   ·rw [if_neg hc1]
    by_cases ho : 0 < o
    ·rw [if_pos ho]
     obtain ⟨o0, o1, o2, o3⟩ := k4 (by omega)
     exact ⟨k1, k2, fun q => by omega, fun _ => ⟨by omega, by omega, fun m res hm hfi => o3 m res (brM_out ho hm) hfi⟩⟩
    ·rw [if_neg ho]
     refine ⟨k1, k2, fun _ res hfi => ?_, fun q => absurd rfl q⟩
     by_cases ho1 : o = -1
     ·obtain ⟨ws, w0, w1, w2⟩ := k3 ho1
      refine w2 res (Fin.shut (c := ⟨fi, r'.locals, r'.stack, os ++ [⟨at_, ws.length, r.stack.length, isLoop⟩]⟩) (g := r.fn) (ws := ws) rfl hos ⟨by simp [LSt, cfg], rfl, by rw [hg]; exact hf, w0, w1⟩ (Int.le_refl _) ?_)
      simpa [LSt] using hfi
     ·obtain ⟨o0, o1, o2, o3⟩ := k4 ho1
      have : o = 0 := by omega
      subst this
      have hl : isLoop = false := by
       cases isLoop with
       | true => exact absurd ⟨rfl, rfl⟩ hc1
       | false => rfl
      have hb := brM_top (x := x') (cs := cs) (fi := fi) (r := r') (os := os) (at_ := at_) (h := r.stack.length) (loop := isLoop) hos o2
      rw [hl] at hb o3 ⊢
      exact o3 _ res hb hfi
theorem around_sim {rec : RunR} (hr : RecS fs rec) {x : Mach} {cs : List Cl} {fi deep : Int} {r : Fr} {opn : List Opn} {w : W} {k : Nat} (hf : fnAt fs fi = some r.fn) (hd : (opn.length : Int) = deep + 1) (hos : opn ≠ []) (hc : x.calls = (cs.length : Int) + 1) (hop : w.op = 11 ∨ w.op = 12 ∨ w.op = 13) (hb : 0 ≤ w.body) :
  ES fs x cs fi r opn (doesS fs (LSt x cs fi r opn) w) (aroundW rec k w (deep + 1) x r) := by
 have go : ∀ (at_ : Int) (r1 : Fr) (loop : Bool), r1.fn = r.fn → ES fs x cs fi r opn (opensS (LSt x cs fi r1 opn) at_ loop) (loopA rec loop at_ (deep + 1) k x r1) := by
  intro at_ r1 loop e1
  rw [opensS_LSt]
  have key := loopA_sim hr (cs := cs) (at_ := at_) (g := r.fn) hf hd hos loop k x r1 e1 hc
  revert key
  cases loopA rec loop at_ (deep + 1) k x r1 with
  | bad => exact fun _ => trivial
  | over s c x' => exact fun h => ⟨_, rfl, h⟩
  | ok o x' r' =>
   intro ⟨k1, k2, k3, k4⟩
   exact ⟨k1.trans e1, k2, fun q res hfi => ⟨_, rfl, k3 q res hfi⟩, fun q => ⟨(k4 q).1, (k4 q).2.1, fun m res hm hfi => ⟨_, rfl, (k4 q).2.2 m res hm hfi⟩⟩⟩
 unfold aroundW doesS
 simp only
 by_cases h11 : w.op = 11
 ·have n13 : ¬ w.op = 13 := by omega
  have hbn : ¬ w.body < 0 := by omega
  rw [if_pos h11, if_neg n13, if_neg hbn, show decide (w.op = 12) = false by simp [h11]]
  exact go _ _ _ rfl
 by_cases h12 : w.op = 12
 ·have n13 : ¬ w.op = 13 := by omega
  have hbn : ¬ w.body < 0 := by omega
  rw [if_neg h11, if_pos h12, if_neg n13, if_neg hbn, show decide (w.op = 12) = true by simp [h12]]
  exact go _ _ _ rfl
 have h13 : w.op = 13 := by omega
 rw [if_neg h11, if_neg h12, if_pos h13, if_pos h13, show decide (w.op = 12) = false by simp [h12]]
 unfold popK
 cases hv : r.stack.getLast? with
 | none => trivial
 | some v =>
  simp only
  rw [popS_LSt hv]
  by_cases hv0 : v = 0
  ·have hv1 : ¬ v ≠ 0 := fun q => q hv0
   rw [if_pos hv0, if_neg hv1]
   by_cases ho : 0 ≤ w.other
   ·have ho1 : ¬ w.other < 0 := by omega
    rw [if_neg ho1, if_pos ho]
    exact go _ _ _ rfl
   ·have ho1 : w.other < 0 := by omega
    rw [if_pos ho1, if_neg ho]
    exact ⟨rfl, rfl, fun _ res hfi => ⟨_, rfl, hfi⟩, fun q => absurd rfl q⟩
  ·have hv1 : v ≠ 0 := hv0
   have hbn : ¬ w.body < 0 := by omega
   rw [if_neg hv0, if_pos hv1, if_neg hbn]
   exact go _ _ _ rfl
theorem out_sim {x : Mach} {cs : List Cl} {fi deep : Int} {r : Fr} {opn : List Opn} {w : W} (hf : fnAt fs fi = some r.fn) (hd : (opn.length : Int) = deep + 1) (hos : opn ≠ []) (hop : w.op = 14 ∨ w.op = 15 ∨ w.op = 16) (hn : w.op ≠ 16 → 0 ≤ w.n ∧ w.n ≤ deep) :
  ES fs x cs fi r opn (doesS fs (LSt x cs fi r opn) w) (outW w deep x r) := by
 have hd0 : 0 ≤ deep := by
  have := List.length_pos_iff.2 hos
  omega
 -- what leaves the function
 have ret : ∀ (r1 : Fr), r1.fn = r.fn → ES fs x cs fi r opn (if r1.fn.type ≠ 0 then popS (LSt x cs fi r1 opn) fun v x => leaveS x r1.fn v else leaveS (LSt x cs fi r1 opn) r1.fn 0) (if deep = deep ∧ r1.fn.type ≠ 0 then popK r1 fun v r => Ev.ok deep x { r with result := v } else .ok deep x r1) := by
  intro r1 e1
  by_cases ht : r1.fn.type ≠ 0
  ·rw [if_pos ht, if_pos ⟨rfl, ht⟩]
   unfold popK
   cases hv : r1.stack.getLast? with
   | none => trivial
   | some v =>
    simp only
    rw [popS_LSt hv, leaveS_LSt]
    refine ⟨e1, rfl, fun q => by omega, fun _ => ⟨hd0, by omega, fun m res hm hfi => ?_⟩⟩
    unfold brM at hm
    rw [if_neg (by omega), if_pos (by omega)] at hm
    simp only at hm
    rw [if_pos ht] at hm
    exact ⟨m, hm, hfi⟩
  ·rw [if_neg ht, if_neg (fun q => ht q.2), leaveS_LSt]
   refine ⟨e1, rfl, fun q => by omega, fun _ => ⟨hd0, by omega, fun m res hm hfi => ?_⟩⟩
   unfold brM at hm
   rw [if_neg (by omega), if_pos (by omega), if_neg ht] at hm
   exact ⟨m, hm, hfi⟩
 have go : ∀ (n : Int) (r1 : Fr), r1.fn = r.fn → 0 ≤ n → n ≤ deep → ES fs x cs fi r opn (branchS fs (LSt x cs fi r1 opn) n) (if n = deep ∧ r1.fn.type ≠ 0 then popK r1 fun v r => Ev.ok n x { r with result := v } else .ok n x r1) := by
  intro n r1 e1 n0 n1
  by_cases hnd : n = deep
  ·subst hnd
   rw [branchS_eq (by rw [e1]; exact hf) n0 (by omega) (List.length_pos_iff.2 hos)]
   exact ret r1 e1
  ·rw [if_neg (fun q => hnd q.1), branchS_ne (by omega)]
   exact ⟨e1, rfl, fun q => by omega, fun _ => ⟨n0, by omega, fun m res hm hfi => ⟨m, hm, hfi⟩⟩⟩
 unfold outW doesS
 simp only
 have n11 : ¬ w.op = 11 := by omega
 have n12 : ¬ w.op = 12 := by omega
 have n13 : ¬ w.op = 13 := by omega
 rw [if_neg n11, if_neg n12, if_neg n13]
 by_cases h16 : w.op = 16
 ·have n14 : ¬ w.op = 14 := by omega
  have n15 : ¬ w.op = 15 := by omega
  rw [if_neg n14, if_neg n15, if_pos h16, if_pos h16, returnsS_LSt hf]
  simpa using ret r rfl
 obtain ⟨n0, n1⟩ := hn h16
 rw [if_neg h16, if_neg h16]
 by_cases h15 : w.op = 15
 ·have n14 : ¬ w.op = 14 := by omega
  rw [if_neg n14, if_pos h15, if_pos h15]
  unfold popK
  cases hv : r.stack.getLast? with
  | none => trivial
  | some v =>
   simp only
   rw [popS_LSt hv]
   by_cases hv0 : v = 0
   ·have hv1 : ¬ v ≠ 0 := fun q => q hv0
    rw [if_pos hv0, if_neg hv1]
    exact ⟨rfl, rfl, fun _ res hfi => ⟨_, rfl, hfi⟩, fun q => absurd rfl q⟩
   ·have hv1 : v ≠ 0 := hv0
    rw [if_neg hv0, if_pos hv1]
    exact go w.n { r with stack := r.stack.dropLast } rfl n0 n1
 ·have h14 : w.op = 14 := by omega
  rw [if_pos h14, if_neg h15]
  exact go w.n r rfl n0 n1
theorem exec_sim {rec : RunR} (hr : RecS fs rec) {x : Mach} {cs : List Cl} {fi deep : Int} {r : Fr} {opn : List Opn} {w : W} {k : Nat} (hf : fnAt fs fi = some r.fn) (hd : (opn.length : Int) = deep + 1) (hos : opn ≠ []) (hc : x.calls = (cs.length : Int) + 1) :
  ES fs x cs fi r opn (doesS fs (LSt x cs fi r opn) w) (execW fs rec k deep w x r) := by
 unfold execW
 by_cases hok : okW deep w = false
 ·rw [if_pos hok]; trivial
 rw [if_neg hok]
 have hok : okW deep w = true := by simpa using hok
 unfold okW at hok
 simp only [Bool.and_eq_true, Bool.or_eq_true, decide_eq_true_eq] at hok
 obtain ⟨⟨f1, f2⟩, f3⟩ := hok
 by_cases h1 : w.op = 11 ∨ w.op = 12 ∨ w.op = 13
 ·rw [if_pos h1]
  exact around_sim hr hf hd hos hc h1 (by omega)
 rw [if_neg h1]
 by_cases h2 : w.op = 14 ∨ w.op = 15 ∨ w.op = 16
 ·rw [if_pos h2]
  exact out_sim hf hd hos h2 (by omega)
 rw [if_neg h2]
 have e : doesS fs (LSt x cs fi r opn) w = plainS fs (LSt x cs fi r opn) w := by
  unfold doesS
  have n11 : ¬ w.op = 11 := by omega
  have n12 : ¬ w.op = 12 := by omega
  have n13 : ¬ w.op = 13 := by omega
  have n14 : ¬ w.op = 14 := by omega
  have n15 : ¬ w.op = 15 := by omega
  have n16 : ¬ w.op = 16 := by omega
  rw [if_neg n11, if_neg n12, if_neg n13, if_neg n14, if_neg n15, if_neg n16]
 rw [e]
 have key := plain_sim hr (r := r) (opn := opn) (fi := fi) f1 hc (by omega)
 revert key
 cases plainW fs rec w x r with
 | bad => exact fun _ => trivial
 | over s c x' => exact fun h => h
 | ok u x' r' => exact fun h => ⟨h.1, h.2.1, fun _ => h.2.2, fun q => absurd rfl q⟩
theorem instrs_sim {rec : RunR} (hr : RecS fs rec) {cs : List Cl} {fi deep at_ : Int} {os : List Opn} {loop : Bool} {k h : Nat} {all : List W} {g : F} (hf : fnAt fs fi = some g) (hd : (os.length : Int) = deep) (h0 : 0 ≤ at_) (hl : g.lists[at_.toNat]? = some all) :
  ∀ (ws : List W) (j : Nat) (x : Mach) (r : Fr), j ≤ all.length → all.drop j = ws → r.fn = g → x.calls = (cs.length : Int) + 1 → match instrsW fs rec k deep h ws x r with
  | .bad => True
  | .over s c x' => Fin fs x.steps.toNat (LSt x cs fi r (os ++ [⟨at_, j, h, loop⟩])) (x'.out, s, c)
  | .ok o x' r' => r'.fn = r.fn ∧ x'.calls = x.calls ∧ (o = -1 → ∀ res, Fin fs x'.steps.toNat (LSt x' cs fi r' (os ++ [⟨at_, all.length, h, loop⟩])) res → Fin fs x.steps.toNat (LSt x cs fi r (os ++ [⟨at_, j, h, loop⟩])) res) ∧
    (o ≠ -1 → 0 ≤ o ∧ o ≤ deep ∧ r'.stack.length = h ∧ ∀ m res, brM x' cs fi r' (os ++ [⟨at_, 0, h, loop⟩]) o = some m → Fin fs x'.steps.toNat m res → Fin fs x.steps.toNat (LSt x cs fi r (os ++ [⟨at_, j, h, loop⟩])) res)
 | [], j, x, r, hj0, hw, hg, hc => by
  refine ⟨rfl, rfl, fun _ res hfi => ?_, fun q => absurd rfl q⟩
  have hj : all.length ≤ j := by simpa using hw
  have : j = all.length := by omega
  subst this
  exact hfi
 | w :: ws, j, x, r, hj0, hw, hg, hc => by
  have hjl : j < all.length := by
   have := congrArg List.length hw
   simp at this
   omega
  have hwj : all[j]? = some w := by
   have := congrArg (fun l => l[0]?) hw
   simpa using this
  have hdr : all.drop (j + 1) = ws := by
   have := congrArg (List.drop 1) hw
   simpa using this
  have at1 : AtTop fs (LSt x cs fi r (os ++ [⟨at_, j, h, loop⟩])) ⟨fi, r.locals, r.stack, os ++ [⟨at_, j, h, loop⟩]⟩ os ⟨at_, j, h, loop⟩ g all := ⟨by simp [LSt, cfg], rfl, hf, h0, hl⟩
  rw [instrsW]
  by_cases hs : x.steps < 1
  ·rw [if_pos hs]
   have e0 : x.steps.toNat = 0 := by omega
   rw [e0]
   exact Fin.out (x := LSt x cs fi r (os ++ [⟨at_, j, h, loop⟩])) rfl at1 (by simp only; omega)
  rw [if_neg hs]
  have key := exec_sim hr (x := { x with steps := x.steps - 1 }) (cs := cs) (fi := fi) (r := r) (opn := os ++ [⟨at_, (j : Int) + 1, h, loop⟩]) (w := w) (k := k) (deep := deep) (by rw [hg]; exact hf) (by simp; omega) (by simp) hc
  have step : ∀ res, Reach fs (x.steps - 1).toNat (doesS fs (LSt { x with steps := x.steps - 1 } cs fi r (os ++ [⟨at_, (j : Int) + 1, h, loop⟩])) w) res → Fin fs x.steps.toNat (LSt x cs fi r (os ++ [⟨at_, j, h, loop⟩])) res := fun res ⟨m, hm, hfi⟩ => by
   have e1 : x.steps.toNat = (x.steps - 1).toNat + 1 := by omega
   rw [e1]
   exact Fin.step (x := LSt x cs fi r (os ++ [⟨at_, j, h, loop⟩])) rfl at1 (by simp only; omega) (by simpa using hwj) (by rw [setTop_LSt]; exact hm) hfi
  revert key
  cases execW fs rec k deep w { x with steps := x.steps - 1 } r with
  | bad => exact fun _ => trivial
  | over s c x' => exact fun hh => step _ hh
  | ok o x' r' =>
   intro ⟨k1, k2, k3, k4⟩
   dsimp only at k1 k2 k3 k4 ⊢
   by_cases ho : o = -1
   ·rw [if_pos ho]
    have key := instrs_sim hr (loop := loop) (h := h) (k := k) hf hd h0 hl ws (j + 1) x' r' hjl hdr (k1.trans hg) (k2.trans hc)
    revert key
    have st2 : ∀ res, Fin fs x'.steps.toNat (LSt x' cs fi r' (os ++ [⟨at_, ((j + 1 : Nat) : Int), h, loop⟩])) res → Fin fs x.steps.toNat (LSt x cs fi r (os ++ [⟨at_, j, h, loop⟩])) res := fun res hfi => step res (k3 ho res (by simpa using hfi))
    cases instrsW fs rec k deep h ws x' r' with
    | bad => exact fun _ => trivial
    | over s c x2 => exact fun hh => st2 _ hh
    | ok o2 x2 r2 =>
     intro ⟨j1, j2, j3, j4⟩
     exact ⟨j1.trans k1, j2.trans k2, fun q res hfi => st2 _ (j3 q res hfi), fun q => ⟨(j4 q).1, (j4 q).2.1, (j4 q).2.2.1, fun m res hm hfi => st2 _ ((j4 q).2.2.2 m res hm hfi)⟩⟩
   ·rw [if_neg ho]
    obtain ⟨o0, o1, o2⟩ := k4 ho
    by_cases hh : r'.stack.length < h
    ·rw [if_pos hh]; trivial
    rw [if_neg hh]
    refine ⟨k1, k2, fun q => absurd q ho, fun _ => ⟨o0, by simp at o1; omega, by simp; omega, fun m res hm hfi => step res (o2 m res ?_ hfi)⟩⟩
    have hb := brM_take (x := x') (cs := cs) (fi := fi) (r := r') (os := os) (p := ⟨at_, 0, h, loop⟩) (h := h) (o := o) (m := m) rfl (by omega) hm
    rw [← hb]
    exact brM_done ..
theorem runL_simS : ∀ k, RecS fs (runL fs k)
 | 0 => fun x r at_ deep cs fi os loop _ _ _ => trivial
 | k + 1 => by
  intro x r at_ deep cs fi os loop hf hd hc
  rw [runL]
  by_cases h0 : at_ < 0
  ·rw [if_pos h0]; trivial
  rw [if_neg h0]
  cases hl : r.fn.lists[at_.toNat]? with
  | none => trivial
  | some ws =>
   simp only
   have key := instrs_sim (runL_simS k) (cs := cs) (loop := loop) (k := k) (h := r.stack.length) hf hd (by omega) hl ws 0 x r (Nat.zero_le _) (by simp) rfl hc
   revert key
   cases instrsW fs (runL fs k) k deep r.stack.length ws x r with
   | bad => exact fun _ => trivial
   | over s c x' => exact fun h => h
   | ok o x' r' => exact fun h => ⟨h.1, h.2.1, fun q => ⟨ws, by omega, rfl, fun res hfi => h.2.2.1 q res hfi⟩, h.2.2.2⟩
theorem runM_simS {m : M} {g : F} (hg : fnAt m.funcs m.main = some g) (hp : g.params = []) (ht : g.type ≠ 0) {input : List Int} {steps : Int} {k : Nat} {res : List Int × Int × Int} (h : runM m input steps k = some res) :
  Fin m.funcs steps.toNat ⟨input, List.replicate m.memory.toNat 0, [⟨m.main, List.replicate g.locals.length 0, [], [⟨(g.lists.length : Int) - 1, 0, 0, false⟩]⟩], [], 0, 0⟩ res := by
 unfold runM at h
 unfold fnAt at hg
 split at hg
 ·cases hg
 rename_i h0
 rw [if_neg h0, hg] at h
 simp only at h
 unfold callW at h
 rw [if_neg (show ¬ (32 : Int) ≤ 0 by decide)] at h
 have hg' : fnAt m.funcs m.main = some g := by unfold fnAt; rw [if_neg h0]; exact hg
 have key := runL_simS (fs := m.funcs) k ⟨input, steps, List.replicate m.memory.toNat 0, [], 0 + 1⟩ ⟨g, [] ++ List.replicate g.locals.length 0, [], 0⟩ ((g.lists.length : Int) - 1) 0 [] m.main [] false hg' rfl (by simp)
 revert key h
 cases runL m.funcs k ⟨input, steps, List.replicate m.memory.toNat 0, [], 0 + 1⟩ ⟨g, [] ++ List.replicate g.locals.length 0, [], 0⟩ ((g.lists.length : Int) - 1) 0 with
 | bad => intro h; cases h
 | over s c x' =>
  intro h hfi
  cases h
  simpa [LSt, cfg] using hfi
 | ok o x' f =>
  intro h ⟨k1, k2, k3, k4⟩
  dsimp only at k1 k2 k3 k4 h
  by_cases ho : o = -1
  ·rw [if_pos ⟨ho, ht⟩] at h
   obtain ⟨ws, w0, w1, w2⟩ := k3 ho
   unfold popK at h
   cases hv : f.stack.getLast? with
   | none => rw [hv] at h; cases h
   | some v =>
    rw [hv] at h
    cases h
    have at1 : AtTop m.funcs (LSt x' [] m.main f [⟨(g.lists.length : Int) - 1, ws.length, 0, false⟩]) ⟨m.main, f.locals, f.stack, [⟨(g.lists.length : Int) - 1, ws.length, 0, false⟩]⟩ [] ⟨(g.lists.length : Int) - 1, ws.length, 0, false⟩ g ws :=
     ⟨by simp [LSt, cfg], by simp, hg', w0, w1⟩
    have hrs := returnsS_LSt (fs := m.funcs) (x := x') (cs := []) (fi := m.main) (r := f) (opn := [⟨(g.lists.length : Int) - 1, ws.length, 0, false⟩]) (by rw [k1]; exact hg')
    rw [k1, if_pos ht, popS_LSt hv, leaveS_LSt] at hrs
    have := w2 _ (Fin.ret rfl at1 (Int.le_refl _) hrs (Fin.over (x := ({ input := x'.input, memory := x'.memory, calls := [], out := x'.out, status := 0, code := 0 } : Ma).ends 1 v) (by simp [Ma.ends])))
    simpa [LSt, cfg, Ma.ends] using this
  ·rw [if_neg (fun q => ho q.1)] at h
   cases h
   obtain ⟨o0, o1, o2, o3⟩ := k4 ho
   have hb : brM x' [] m.main f ([] ++ [⟨(g.lists.length : Int) - 1, 0, 0, false⟩]) o = some (({ input := x'.input, memory := x'.memory, calls := [], out := x'.out, status := 0, code := 0 } : Ma).ends 1 f.result) := by
    unfold brM
    have : o = 0 := by omega
    subst this
    simp only [List.nil_append, List.length_cons, List.length_nil]
    rw [if_neg (by omega), if_pos (by omega), k1, if_pos ht]
    rfl
   have := o3 _ _ hb (Fin.over (by simp [Ma.ends]))
   simpa [LSt, cfg, Ma.ends] using this
end
end Go.Proofs.YthifgodgfhbnfaaGreatDoor
set_option linter.unusedSimpArgs false
set_option linter.unusedVariables false
namespace Go.Proofs.YthifgodgfhbnfaaGreatDoor.Rf
open Go Go.Abs Go.Proofs.YthifgodgfhbnfaaGreatDoor
def oC (o : Opn) : List AV := [.int .i64 o.list, .int .i64 o.done, .int .i64 o.height, .bool o.loop]
def oCs (l : List Opn) : List AV := l.flatMap oC
def LocV (σ : AS) (v : AV) (l : List Int) (L : List Nat) : Prop := (l = [] ∧ v = .nilsl ∧ L = []) ∨ ∃ o, v = .slm o 0 1 l.length ∧ σ.objs o = some (l.map (.int .i64)) ∧ L = [o]
def OpnV (σ : AS) (v : AV) (l : List Opn) (L : List Nat) : Prop := (l = [] ∧ v = .nilsl ∧ L = []) ∨ ∃ o j, v = .slm o 0 4 l.length ∧ σ.objs o = some (oCs l ++ j) ∧ L = [o]
def CallV (σ : AS) (cs : List AV) (c : Cl) (L : List Nat) : Prop := ∃ lv sv ov L1 L2, cs = [.int .i64 c.f, lv, sv, ov] ∧ LocV σ lv c.locals L1 ∧ IntsV sv c.stack ∧ OpnV σ ov c.opn L2 ∧ L = L1 ++ L2
abbrev Row := List AV × List Nat
def RowV (σ : AS) (r : Row) (c : Cl) : Prop := CallV σ r.1 c r.2
def cellsR (rows : List Row) : List AV := rows.flatMap (·.1)
def objsR (rows : List Row) : List Nat := rows.flatMap (·.2)
def bytesV (m : List UInt8) : List AV := m.map fun b => .int .u8 b.toNat
def RSt (fs : List F) (mm mn : Int) (xo : Nat) (x : Ma) (σ : AS) (P : List Nat) : Prop := ∃ fsv iv mo co ov Lo rows junk,
 σ.objs xo = some [fsv, .int .i64 mm, .int .i64 mn, iv, .slm mo 0 1 x.memory.length, .slm co 0 4 x.calls.length, ov, .int .i64 x.status, .int .i64 x.code] ∧
 FsV fsv fs ∧ IntsV iv x.input ∧ σ.objs mo = some (bytesV x.memory) ∧ LocV σ ov x.out Lo ∧ σ.objs co = some (cellsR rows ++ junk) ∧ All2 (RowV σ) rows x.calls ∧ P = xo :: mo :: co :: (Lo ++ objsR rows) ∧ P.Nodup ∧ ∀ p ∈ P, p < σ.no
structure RM (fs : List F) (mm mn : Int) (xo : Nat) (σ0 : AS) (O : List Nat) (x : Ma) (σ : AS) : Prop where
 no : σ0.no ≤ σ.no
 nf : σ0.nf ≤ σ.nf
 fam : ∀ f, f < σ0.nf → σ.F f = σ0.F f
 obj : ∀ o, o < σ0.no → o ∉ O → σ.objs o = σ0.objs o
 st : ∃ P, RSt fs mm mn xo x σ P ∧ ∀ p ∈ P, p ∈ O ∨ σ0.no ≤ p
theorem LocV.keep {σ σ' : AS} {v l L} (h : LocV σ v l L) (k : ∀ o ∈ L, σ'.objs o = σ.objs o) : LocV σ' v l L := by
 rcases h with h | ⟨o, h1, h2, h3⟩
 ·exact .inl h
 ·exact .inr ⟨o, h1, (k o (by simp [h3])).trans h2, h3⟩
theorem OpnV.keep {σ σ' : AS} {v l L} (h : OpnV σ v l L) (k : ∀ o ∈ L, σ'.objs o = σ.objs o) : OpnV σ' v l L := by
 rcases h with h | ⟨o, j, h1, h2, h3⟩
 ·exact .inl h
 ·exact .inr ⟨o, j, h1, (k o (by simp [h3])).trans h2, h3⟩
theorem CallV.keep {σ σ' : AS} {cs c L} (h : CallV σ cs c L) (k : ∀ o ∈ L, σ'.objs o = σ.objs o) : CallV σ' cs c L := by
 obtain ⟨lv, sv, ov, L1, L2, h1, h2, h3, h4, h5⟩ := h
 exact ⟨lv, sv, ov, L1, L2, h1, h2.keep fun o ho => k o (by simp [h5, ho]), h3, h4.keep fun o ho => k o (by simp [h5, ho]), h5⟩
theorem rows_keep {σ σ' : AS} {rows : List Row} {l : List Cl} (h : All2 (RowV σ) rows l) (k : ∀ o ∈ objsR rows, σ'.objs o = σ.objs o) : All2 (RowV σ') rows l := by
 induction h with
 | nil => exact .nil
 | cons h r ih =>
  refine .cons (CallV.keep h fun o ho => k o ?_) (ih fun o ho => k o ?_)
  ·simp only [objsR, List.flatMap_cons, List.mem_append]; exact .inl ho
  ·simp only [objsR, List.flatMap_cons, List.mem_append] at ho ⊢; exact .inr ho
theorem All2.snoc_inv {α β : Type} {R : α → β → Prop} : ∀ {rows : List α} {l : List β} {c : β}, All2 R rows (l ++ [c]) → ∃ rs r, rows = rs ++ [r] ∧ All2 R rs l ∧ R r c
 | _, [], c, .cons h r => by
  cases r
  exact ⟨[], _, rfl, .nil, h⟩
 | _, b :: l, c, .cons h r => by
  obtain ⟨rs, x, e, h1, h2⟩ := All2.snoc_inv r
  exact ⟨_ :: rs, x, by rw [e]; rfl, .cons h h1, h2⟩
theorem All2.snoc {α β : Type} {R : α → β → Prop} {rs : List α} {l : List β} {r : α} {c : β} (h : All2 R rs l) (k : R r c) : All2 R (rs ++ [r]) (l ++ [c]) := by
 induction h with
 | nil => exact .cons k .nil
 | cons h r ih => exact .cons h ih
theorem cells_len {σ : AS} {rows : List Row} {l : List Cl} (h : All2 (RowV σ) rows l) : (cellsR rows).length = l.length * 4 := by
 induction h with
 | nil => rfl
 | cons h r ih =>
  obtain ⟨lv, sv, ov, L1, L2, h1, _⟩ := h
  simp only [cellsR, List.flatMap_cons, List.length_append] at ih ⊢
  rw [ih, h1]; simp; omega
theorem cellsR_snoc (rs : List Row) (r : Row) : cellsR (rs ++ [r]) = cellsR rs ++ r.1 := by simp [cellsR]
theorem objsR_snoc (rs : List Row) (r : Row) : objsR (rs ++ [r]) = objsR rs ++ r.2 := by simp [objsR]
section
variable {fs : List F} {mm mn : Int} {xo : Nat} {σ0 σ : AS} {O : List Nat} {x : Ma}
theorem RM.adds {σ' : AS} (h : RM fs mm mn xo σ0 O x σ) (A : Adds σ σ') : RM fs mm mn xo σ0 O x σ' := by
 obtain ⟨h1, h2, h3, h4, P, ⟨fsv, iv, mo, co, ov, Lo, rows, junk, a1, a2, a3, a4, a5, a6, a7, a8, a9, a10⟩, h6⟩ := h
 have k : ∀ p ∈ P, σ'.objs p = σ.objs p := fun p hp => A.obj p (a10 p hp)
 have n1 := A.no
 have n2 := A.nf
 subst a8
 refine ⟨by omega, by omega, fun f hf => (A.fam f (by omega)).trans (h3 f hf), fun o ho hn => (A.obj o (by omega)).trans (h4 o ho hn), _, ⟨fsv, iv, mo, co, ov, Lo, rows, junk, (k xo (by simp)).trans a1, a2, a3, (k mo (by simp)).trans a4, a5.keep fun o ho => k o (by simp [ho]), (k co (by simp)).trans a6, rows_keep a7 fun o ho => k o (by simp [ho]), rfl, a9, fun p hp => by have := a10 p hp; omega⟩, h6⟩
theorem RM.anchor (h : RM fs mm mn xo σ0 O x σ) : ∃ O', RM fs mm mn xo σ O' x σ ∧ (∀ x' σ', RM fs mm mn xo σ O' x' σ' → RM fs mm mn xo σ0 O x' σ') ∧ xo ∈ O' ∧ ∀ p ∈ O', p < σ.no := by
 obtain ⟨h1, h2, h3, h4, P, hs, h6⟩ := h
 have hs0 := hs
 obtain ⟨fsv, iv, mo, co, ov, Lo, rows, junk, a1, a2, a3, a4, a5, a6, a7, a8, a9, a10⟩ := hs
 refine ⟨P, ⟨Nat.le_refl _, Nat.le_refl _, fun _ _ => rfl, fun _ _ _ => rfl, P, hs0, fun p hp => .inl hp⟩, fun x' σ' k => ?_, by simp [a8], a10⟩
 have k1 := k.no
 have k2 := k.nf
 refine ⟨by omega, by omega, fun f hf => (k.fam f (by omega)).trans (h3 f hf), fun o ho hn => (k.obj o (by omega) fun hp => ?_).trans (h4 o ho hn), ?_⟩
 ·rcases h6 o hp with h | h
  ·exact hn h
  ·omega
 ·obtain ⟨P', h7, h8⟩ := k.st
  refine ⟨P', h7, fun p hp => ?_⟩
  rcases h8 p hp with h | h
  ·exact h6 p h
  ·right; omega
theorem RM.other (h : RM fs mm mn xo σ0 O x σ) {o : Nat} (h1 : o < σ0.no) (h2 : o ∉ O) : σ.objs o = σ0.objs o := h.obj o h1 h2
theorem RM.to' {x' : Ma} {σ' : AS} {P P' : List Nat} (h : RM fs mm mn xo σ0 O x σ) (hP : ∀ p ∈ P, p ∈ O ∨ σ0.no ≤ p) (n1 : σ.no ≤ σ'.no) (n2 : σ.nf ≤ σ'.nf) (hf : ∀ f, f < σ0.nf → σ'.F f = σ.F f) (ho : ∀ o, o < σ.no → o ∉ P → σ'.objs o = σ.objs o) (hs : RSt fs mm mn xo x' σ' P')
  (hp : ∀ p ∈ P', p ∈ P ∨ σ.no ≤ p) : RM fs mm mn xo σ0 O x' σ' := by
 have m1 := h.no
 have m2 := h.nf
 refine ⟨by omega, by omega, fun f q => (hf f q).trans (h.fam f q), fun o q hn => (ho o (by omega) fun hh => ?_).trans (h.obj o q hn), P', hs, fun p q => ?_⟩
 ·rcases hP o hh with h | h
  ·exact hn h
  ·omega
 ·rcases hp p q with h | h
  ·exact hP p h
  ·right; omega
theorem RM.to {x' : Ma} {σ' : AS} {P P' : List Nat} (h : RM fs mm mn xo σ0 O x σ) (hP : ∀ p ∈ P, p ∈ O ∨ σ0.no ≤ p) (n1 : σ.no ≤ σ'.no) (n2 : σ.nf ≤ σ'.nf) (hf : ∀ f, f < σ.nf → σ'.F f = σ.F f) (ho : ∀ o, o < σ.no → o ∉ P → σ'.objs o = σ.objs o) (hs : RSt fs mm mn xo x' σ' P')
  (hp : ∀ p ∈ P', p ∈ P ∨ σ.no ≤ p) : RM fs mm mn xo σ0 O x' σ' := h.to' hP n1 n2 (fun f q => hf f (by have := h.nf; omega)) ho hs hp
theorem RM.fams {σ' : AS} (h : RM fs mm mn xo σ0 O x σ) (e1 : σ'.objs = σ.objs) (e2 : σ'.no = σ.no) (e3 : σ.nf ≤ σ'.nf) (e4 : ∀ f, f < σ0.nf → σ'.F f = σ.F f) : RM fs mm mn xo σ0 O x σ' := by
 obtain ⟨h1, h2, h3, h4, P, ⟨fsv, iv, mo, co, ov, Lo, rows, junk, a1, a2, a3, a4, a5, a6, a7, a8, a9, a10⟩, h6⟩ := h
 refine ⟨by omega, by omega, fun f q => (e4 f q).trans (h3 f q), fun o q r => by rw [e1]; exact h4 o q r, P, ⟨fsv, iv, mo, co, ov, Lo, rows, junk, by rw [e1]; exact a1, a2, a3, by rw [e1]; exact a4, a5.keep fun o _ => by rw [e1], by rw [e1]; exact a6, rows_keep a7 fun o _ => by rw [e1], a8, a9, fun p hp => by rw [e2]; exact a10 p hp⟩, h6⟩
end
theorem nodup_mid {α : Type} {A B C : List α} (h : (A ++ (B ++ C)).Nodup) : B.Nodup ∧ C.Nodup ∧ (∀ a ∈ A, a ∉ B ∧ a ∉ C) ∧ ∀ b ∈ B, b ∉ C := by
 rw [List.nodup_append] at h
 obtain ⟨_, h2, h3⟩ := h
 rw [List.nodup_append] at h2
 exact ⟨h2.1, h2.2.1, fun a ha => ⟨fun hb => h3 a ha a (by simp [hb]) rfl, fun hc => h3 a ha a (by simp [hc]) rfl⟩, fun b hb hc => h2.2.2 b hb b hc rfl⟩
end Go.Proofs.YthifgodgfhbnfaaGreatDoor.Rf
set_option linter.unusedSimpArgs false
set_option linter.unusedVariables false
namespace Go.Proofs.YthifgodgfhbnfaaGreatDoor.Rf
open Go Go.Abs Go.Proofs.YthifgodgfhbnfaaGreatDoor
structure View (fs : List F) (mm mn : Int) (xo : Nat) (σ0 : AS) (O : List Nat) (x : Ma) (σ : AS) (cs : List Cl) (c : Cl) (fsv iv ov : AV) (mo co : Nat) (cc : List AV) (lv sv opv : AV) (L1 L2 : List Nat) : Prop where
 ox : σ.objs xo = some [fsv, .int .i64 mm, .int .i64 mn, iv, .slm mo 0 1 x.memory.length, .slm co 0 4 (cs.length + 1), ov, .int .i64 x.status, .int .i64 x.code]
 hfs : FsV fsv fs
 hi : IntsV iv x.input
 ov1 : ov.known = true ∧ ov.one = true ∧ ov.cells = [ov]
 oc : σ.objs co = some cc
 c0 : cc[cs.length * 4]? = some (.int .i64 c.f)
 c1 : cc[cs.length * 4 + 1]? = some lv
 c2 : cc[cs.length * 4 + 2]? = some sv
 c3 : cc[cs.length * 4 + 3]? = some opv
 len : cs.length * 4 + 4 ≤ cc.length
 fz : ∀ q, (cc.take (cs.length * 4)).map (frz q) = cc.take (cs.length * 4)
 hl : LocV σ lv c.locals L1
 hs : IntsV sv c.stack
 ho : OpnV σ opv c.opn L2
 nd : (xo :: mo :: co :: (L1 ++ L2)).Nodup
 lt : ∀ p ∈ xo :: mo :: co :: (L1 ++ L2), p < σ.no
 up : ∀ (σ' : AS) (cc' : List AV) (c' : Cl) (lv' sv' opv' : AV) (L1' L2' : List Nat) (j : List AV), σ.no ≤ σ'.no → σ.nf ≤ σ'.nf → (∀ f, f < σ.nf → σ'.F f = σ.F f) → (∀ o, o < σ.no → o ≠ co → o ∉ L1 ++ L2 → σ'.objs o = σ.objs o) → σ'.objs co = some cc' →
  cc' = cc.take (cs.length * 4) ++ ([.int .i64 c'.f, lv', sv', opv'] ++ j) → LocV σ' lv' c'.locals L1' → IntsV sv' c'.stack → OpnV σ' opv' c'.opn L2' → (L1' ++ L2').Nodup → (∀ p ∈ L1' ++ L2', p < σ'.no ∧ (p ∈ L1 ++ L2 ∨ σ.no ≤ p)) →
  RM fs mm mn xo σ0 O (x.setTop c') σ'
theorem LocV.one {σ v l L} (h : LocV σ v l L) : v.known = true ∧ v.one = true ∧ v.cells = [v] := by
 rcases h with ⟨_, rfl, _⟩ | ⟨o, rfl, _⟩ <;> simp [Go.Abs.frz]
theorem LocV.frz {σ v l L} (h : LocV σ v l L) (q : Nat) : Go.Abs.frz q v = v := by
 rcases h with ⟨_, rfl, _⟩ | ⟨o, rfl, _⟩ <;> simp [Go.Abs.frz]
theorem OpnV.frz {σ v l L} (h : OpnV σ v l L) (q : Nat) : Go.Abs.frz q v = v := by
 rcases h with ⟨_, rfl, _⟩ | ⟨o, j, rfl, _⟩ <;> simp [Go.Abs.frz]
theorem cells_frz {σ : AS} {rows : List Row} {l : List Cl} (h : All2 (RowV σ) rows l) (q : Nat) : (cellsR rows).map (Go.Abs.frz q) = cellsR rows := by
 induction h with
 | nil => rfl
 | cons h r ih =>
  obtain ⟨lv, sv, ov, L1, L2, h1, h2, h3, h4, _⟩ := h
  simp only [cellsR, List.flatMap_cons, List.map_append] at ih ⊢
  rw [ih, h1]
  simp [h2.frz q, h3.frz q, h4.frz q]
section
variable {fs : List F} {mm mn : Int} {xo : Nat} {σ0 σ : AS} {O : List Nat} {x : Ma} {cs : List Cl} {c : Cl} {fsv iv ov : AV} {mo co : Nat} {cc : List AV} {lv sv opv : AV} {L1 L2 : List Nat}
theorem RM.view (h : RM fs mm mn xo σ0 O x σ) (hc : x.calls = cs ++ [c]) : ∃ fsv iv ov mo co cc lv sv opv L1 L2, View fs mm mn xo σ0 O x σ cs c fsv iv ov mo co cc lv sv opv L1 L2 := by
 have h0 := h
 obtain ⟨_, _, _, _, P, ⟨fsv, iv, mo, co, ov, Lo, rows, junk, a1, a2, a3, a4, a5, a6, a7, a8, a9, a10⟩, h6⟩ := h
 rw [hc] at a7
 obtain ⟨rs, r, rfl, b1, b2⟩ := All2.snoc_inv a7
 obtain ⟨rc, rl⟩ := r
 obtain ⟨lv, sv, opv, L1, L2, e1, e2, e3, e4, e5⟩ := b2
 simp only at e1 e5
 subst e1 e5
 have hn := cells_len b1
 rw [cellsR_snoc] at a6
 rw [objsR_snoc] at a8
 subst a8
 have hnd := a9
 have hcc : cellsR rs ++ [AV.int .i64 c.f, lv, sv, opv] ++ junk = cellsR rs ++ ([AV.int .i64 c.f, lv, sv, opv] ++ junk) := by simp
 rw [hcc] at a6
 have at_ : ∀ j, (cellsR rs ++ ([AV.int .i64 c.f, lv, sv, opv] ++ junk))[cs.length * 4 + j]? = ([AV.int .i64 c.f, lv, sv, opv] ++ junk)[j]? := fun j => by
  rw [List.getElem?_append_right (by omega)]
  congr 1
  omega
 have hclen : x.calls.length = cs.length + 1 := by rw [hc]; simp
 rw [hclen] at a1
 refine ⟨fsv, iv, ov, mo, co, _, lv, sv, opv, L1, L2, ⟨a1, a2, a3, a5.one, a6, by have := at_ 0; simpa using this, by have := at_ 1; simpa using this, by have := at_ 2; simpa using this, by have := at_ 3; simpa using this, by simp; omega, fun q => ?_, e2, e3, e4, ?_, fun p hp => a10 p ?_, ?_⟩⟩
 ·rw [← hn, List.take_left]; exact cells_frz b1 q
 ·have q : (xo :: mo :: co :: (L1 ++ L2)).Sublist (xo :: mo :: co :: (Lo ++ (objsR rs ++ (L1 ++ L2)))) := by
   refine List.Sublist.cons_cons _ (List.Sublist.cons_cons _ (List.Sublist.cons_cons _ ?_))
   exact (List.sublist_append_right _ _).trans (List.sublist_append_right _ _)
  exact hnd.sublist q
 ·simp only [List.mem_cons, List.mem_append] at hp ⊢
  rcases hp with h | h | h | h | h <;> simp [h]
 ·intro σ' cc' c' lv' sv' opv' L1' L2' j n1 n2 hf ho hco hcc' hl' hs' ho' hnd' hp'
  have hnd2 := hnd
  rw [List.nodup_cons, List.nodup_cons, List.nodup_cons] at hnd2
  obtain ⟨g1, g2, g3, g4⟩ := hnd2
  simp only [List.mem_cons, List.mem_append, not_or] at g1 g2 g3
  have hd := nodup_mid (A := []) (B := Lo) (C := objsR rs ++ (L1 ++ L2)) (by simpa using g4)
  have hd2 := nodup_mid (A := []) (B := objsR rs) (C := L1 ++ L2) (by simpa using hd.2.1)
  have kx : σ'.objs xo = σ.objs xo := ho xo (a10 xo (by simp)) (by omega) (by simp [g1])
  have km : σ'.objs mo = σ.objs mo := ho mo (a10 mo (by simp)) (by omega) (by simp [g2])
  have kL : ∀ o ∈ Lo, σ'.objs o = σ.objs o := fun o hq => ho o (a10 o (by simp [hq])) (fun e => g3.1 (e ▸ hq)) (fun hh => hd.2.2.2 o hq (by simp only [List.mem_append] at hh ⊢; exact .inr hh))
  have kR : ∀ o ∈ objsR rs, σ'.objs o = σ.objs o := fun o hq => ho o (a10 o (by simp [hq])) (fun e => g3.2.1 (e ▸ hq)) (fun hh => hd2.2.2.2 o hq hh)
  have kp : ∀ p ∈ L1' ++ L2', p ∉ xo :: mo :: co :: (Lo ++ objsR rs) := fun p hp hh => by
   rcases (hp' p hp).2 with h | h
   ·have hq : p ∉ L1 ++ L2 := by
     simp only [List.mem_cons, List.mem_append] at hh
     rcases hh with rfl | rfl | rfl | hh | hh
     ·simp [g1]
     ·simp [g2]
     ·simp [g3]
     ·intro hz; exact hd.2.2.2 p hh (by simp only [List.mem_append] at hz ⊢; exact .inr hz)
     ·intro hz; exact hd2.2.2.2 p hh hz
    exact hq h
   ·have : p < σ.no := a10 p (by simp only [List.mem_cons, List.mem_append] at hh ⊢; rcases hh with h | h | h | h | h <;> simp [h])
    omega
  refine h0.to (P := xo :: mo :: co :: (Lo ++ (objsR rs ++ (L1 ++ L2)))) (P' := xo :: mo :: co :: (Lo ++ (objsR rs ++ (L1' ++ L2')))) h6 n1 n2 hf (fun o q hq => ho o q (fun e => hq (by simp [e])) (fun hh => hq (by simp only [List.mem_cons, List.mem_append] at hh ⊢; rcases hh with h | h <;> simp [h]))) ?_ (fun p hp => ?_)
  ·have htk : (cellsR rs ++ ([AV.int .i64 c.f, lv, sv, opv] ++ junk)).take (cs.length * 4) = cellsR rs := by rw [← hn, List.take_left]
   rw [htk] at hcc'
   have hcl : (x.setTop c').calls = cs ++ [c'] := by simp [Ma.setTop, hc]
   refine ⟨fsv, iv, mo, co, ov, Lo, rs ++ [([.int .i64 c'.f, lv', sv', opv'], L1' ++ L2')], j, ?_, a2, a3, km.trans a4, a5.keep kL, ?_, ?_, ?_, ?_, ?_⟩
   ·rw [kx, a1, hcl]; simp [Ma.setTop]
   ·rw [hco, hcc', cellsR_snoc]; simp
   ·rw [hcl]
    exact All2.snoc (rows_keep b1 kR) ⟨lv', sv', opv', L1', L2', rfl, hl', hs', ho', rfl⟩
   ·rw [objsR_snoc]
   ·have hA : (xo :: mo :: co :: (Lo ++ objsR rs)).Nodup := by
     refine hnd.sublist (List.Sublist.cons_cons _ (List.Sublist.cons_cons _ (List.Sublist.cons_cons _ ?_)))
     rw [← List.append_assoc]
     exact List.sublist_append_left _ _
    have hB : ((xo :: mo :: co :: (Lo ++ objsR rs)) ++ (L1' ++ L2')).Nodup := by
     rw [List.nodup_append]
     exact ⟨hA, hnd', fun a ha b hb e => kp b hb (e ▸ ha)⟩
    simpa [objsR_snoc] using hB
   ·intro p hp
    simp only [List.mem_cons, List.mem_append] at hp
    have old : p ∈ xo :: mo :: co :: (Lo ++ (objsR rs ++ (L1 ++ L2))) → p < σ'.no := fun h => by have := a10 p h; omega
    rcases hp with h | h | h | h | h | h | h
    ·exact old (by simp [h])
    ·exact old (by simp [h])
    ·exact old (by simp [h])
    ·exact old (by simp [h])
    ·exact old (by simp [h])
    ·exact (hp' p (by simp [h])).1
    ·exact (hp' p (by simp [h])).1
  ·simp only [List.mem_cons, List.mem_append] at hp ⊢
   rcases hp with h | h | h | h | h | h | h
   ·simp [h]
   ·simp [h]
   ·simp [h]
   ·simp [h]
   ·simp [h]
   ·have := (hp' p (by simp [h])).2
    simp only [List.mem_append] at this
    rcases this with (h | h) | h <;> simp [h]
   ·have := (hp' p (by simp [h])).2
    simp only [List.mem_append] at this
    rcases this with (h | h) | h <;> simp [h]
theorem row_split {n : Nat} {cc : List AV} {a b d e : AV} (h0 : cc[n]? = some a) (h1 : cc[n + 1]? = some b) (h2 : cc[n + 2]? = some d) (h3 : cc[n + 3]? = some e) : cc = cc.take n ++ ([a, b, d, e] ++ cc.drop (n + 4)) := by
 obtain ⟨l0, rfl⟩ := List.getElem?_eq_some_iff.1 h0
 obtain ⟨l1, rfl⟩ := List.getElem?_eq_some_iff.1 h1
 obtain ⟨l2, rfl⟩ := List.getElem?_eq_some_iff.1 h2
 obtain ⟨l3, rfl⟩ := List.getElem?_eq_some_iff.1 h3
 have : cc.drop n = [cc[n], cc[n + 1], cc[n + 2], cc[n + 3]] ++ cc.drop (n + 4) := by
  rw [List.drop_eq_getElem_cons l0, List.drop_eq_getElem_cons l1, List.drop_eq_getElem_cons l2, List.drop_eq_getElem_cons l3]; rfl
 rw [← this, List.take_append_drop]
theorem splice_row {n : Nat} {p j : List AV} {a b d e v : AV} (h : p.length = n) : splice (p ++ ([a, b, d, e] ++ j)) (n + 2) [v] = p ++ ([a, b, v, e] ++ j) ∧ splice (p ++ ([a, b, d, e] ++ j)) (n + 3) [v] = p ++ ([a, b, d, v] ++ j) ∧ splice (p ++ ([a, b, d, e] ++ j)) (n + 1) [v] = p ++ ([a, v, d, e] ++ j) ∧ splice (p ++ ([a, b, d, e] ++ j)) n [v] = p ++ ([v, b, d, e] ++ j) := by
 subst h
 refine ⟨?_, ?_, ?_, ?_⟩ <;> simp [splice, List.take_append, List.drop_append] <;> simp [Nat.add_assoc, List.take_of_length_le] <;> (try rw [List.drop_eq_nil_of_le (by omega)]) <;> simp
theorem View.split (V : View fs mm mn xo σ0 O x σ cs c fsv iv ov mo co cc lv sv opv L1 L2) : cc = cc.take (cs.length * 4) ++ ([.int .i64 c.f, lv, sv, opv] ++ cc.drop (cs.length * 4 + 4)) ∧ (cc.take (cs.length * 4)).length = cs.length * 4 := by
 have := V.len
 exact ⟨row_split V.c0 V.c1 V.c2 V.c3, by simp; omega⟩
theorem View.tops (V : View fs mm mn xo σ0 O x σ cs c fsv iv ov mo co cc lv sv opv L1 L2) : xo ≠ co ∧ co ∉ L1 ++ L2 ∧ xo ∉ L1 ++ L2 ∧ mo ∉ L1 ++ L2 ∧ mo ≠ co ∧ xo ≠ mo ∧ (L1 ++ L2).Nodup ∧ (∀ o ∈ L1, o ∉ L2) ∧ co < σ.no ∧ xo < σ.no ∧ ∀ p ∈ L1 ++ L2, p < σ.no := by
 have h := V.nd
 rw [List.nodup_cons, List.nodup_cons, List.nodup_cons] at h
 obtain ⟨g1, g2, g3, g4⟩ := h
 simp only [List.mem_cons, not_or] at g1 g2
 refine ⟨g1.2.1, g3, g1.2.2, g2.2, g2.1, g1.1, g4, ?_, V.lt co (by simp), V.lt xo (by simp), fun p hp => V.lt p (by simp only [List.mem_cons]; exact .inr (.inr (.inr hp)))⟩
 rw [List.nodup_append] at g4
 exact fun o h1 h2 => g4.2.2 o h1 o h2 rfl
theorem View.stack (V : View fs mm mn xo σ0 O x σ cs c fsv iv ov mo co cc lv sv opv L1 L2) {st' : List Int} {sv' : AV} (h : IntsV sv' st') : RM fs mm mn xo σ0 O (x.setTop { c with stack := st' }) (σ.setO co (splice cc (cs.length * 4 + 2) [sv'])) := by
 obtain ⟨s1, s2⟩ := V.split
 obtain ⟨t1, t2, t3, t4, t5, t6, t7, t8, t9, t10, t11⟩ := V.tops
 refine V.up _ _ _ lv sv' opv L1 L2 (cc.drop (cs.length * 4 + 4)) (by simp) (by simp) (fun _ _ => rfl) (fun o _ h1 _ => by simp [h1]) (by simp; rfl) ?_ (V.hl.keep fun o ho => ?_) h (V.ho.keep fun o ho => ?_) t7 (fun p hp => ⟨t11 p hp, .inl hp⟩)
 ·conv => lhs; rw [s1]
  exact (splice_row s2).1
 ·have : o ≠ co := fun e => t2 (by simp [← e, ho])
  simp [this]
 ·have : o ≠ co := fun e => t2 (by simp [← e, ho])
  simp [this]
theorem View.frozen (V : View fs mm mn xo σ0 O x σ cs c fsv iv ov mo co cc lv sv opv L1 L2) {σa : AS} (A : Adds σ σa) {q : Nat} (hq : σ.nf ≤ q) {l : List Int} :
  RM fs mm mn xo σ0 O (x.setTop { c with stack := l }) ((σa.setO co (splice cc (cs.length * 4 + 2) [.sl (.fam q false) 1 (l.map (.int .i64))])).frz q (· == co)) := by
 obtain ⟨s1, s2⟩ := V.split
 obtain ⟨t1, t2, t3, t4, t5, t6, t7, t8, t9, t10, t11⟩ := V.tops
 have n1 := A.no
 have n2 := A.nf
 have same : ∀ o, o < σ.no → o ≠ co → ((σa.setO co (splice cc (cs.length * 4 + 2) [.sl (.fam q false) 1 (l.map (.int .i64))])).frz q (· == co)).objs o = σ.objs o := fun o h1 h2 => by
  simp [AS.frz, h2]; exact A.obj o h1
 refine V.up _ _ _ lv (.sl (.stat false) 1 (l.map (.int .i64))) opv L1 L2 ((cc.drop (cs.length * 4 + 4)).map (Go.Abs.frz q)) n1 n2 (fun f hf => ?_) (fun o h0 h1 _ => same o h0 h1) (by simp [AS.frz]; rfl) ?_ (V.hl.keep fun o ho => ?_) (.inr ⟨_, rfl⟩) (V.ho.keep fun o ho => ?_) t7 (fun p hp => ⟨by have := t11 p hp; simp [AS.frz]; omega, .inl hp⟩)
 ·simp [AS.frz, frzF]; rw [if_neg (by omega)]; exact A.fam f hf
 ·have e : splice cc (cs.length * 4 + 2) [AV.sl (.fam q false) 1 (l.map (.int .i64))] = cc.take (cs.length * 4) ++ ([AV.int .i64 c.f, lv, .sl (.fam q false) 1 (l.map (.int .i64)), opv] ++ cc.drop (cs.length * 4 + 4)) := by
   conv => lhs; rw [s1]
   exact (splice_row s2).1
  rw [e]
  simp only [List.map_append, V.fz q]
  simp [V.hl.frz q, V.ho.frz q, Function.comp_def]
 ·exact same o (t11 o (by simp [ho])) fun e => t2 (by simp [← e, ho])
 ·exact same o (t11 o (by simp [ho])) fun e => t2 (by simp [← e, ho])
end
end Go.Proofs.YthifgodgfhbnfaaGreatDoor.Rf
set_option linter.unusedSimpArgs false
set_option linter.unusedVariables false
namespace Go.Proofs.YthifgodgfhbnfaaGreatDoor.Rf
open Go Go.Abs Go.Proofs.YthifgodgfhbnfaaGreatDoor
section
variable {G : Env} {fs : List F} {mm mn : Int} {xo : Nat} {σ0 σ : AS} {O : List Nat} {x : Ma} {cs : List Cl} {c : Cl} {R : Out → AS → Prop}
theorem last_ix {l : List Int} {v : Int} (hv : l.getLast? = some v) : 0 < l.length ∧ (l.map (AV.int .i64))[l.length - 1]? = some (.int .i64 v) ∧ List.take (l.length - 1) (l.map (AV.int .i64)) = l.dropLast.map (AV.int .i64) := by
 have hne : l ≠ [] := by rintro e; rw [e] at hv; simp at hv
 refine ⟨List.length_pos_iff.2 hne, ?_, by rw [← List.map_take, List.dropLast_eq_take]⟩
 rw [List.getLast?_eq_getElem?] at hv
 simp [hv]
theorem copyIntsF_calls {v : AV} {l : List Int} (hv : IntsV v l) (hl : l.length ≤ 2 ^ 40) (h0 : ∀ σ', l = [] → Adds σ σ' → R (.ret .nilsl) σ')
  (h1 : ∀ σ' g, Adds σ σ' → σ.nf ≤ g → g < σ'.nf → σ'.F g = .alive → R (.ret (.sl (.fam g false) 1 (l.map (.int .i64)))) σ') : ACalls Tryz.prog G 19 [v] σ R := by
 refine calls19 rfl ?_
 have v1 := hv.one
 have v2 := hv.len
 simp [pc19]
 refine aloop (CpI 1 v (l.map (.int .i64)) σ) (MU 4 (l.length + 1)) ⟨0, by omega, by simp, by simp, .inl ⟨by simp, by simp⟩, .refl _⟩ fun a τ hI => ?_
 obtain ⟨i, hi, a0, a4, hO, hA⟩ := hI
 have hi : i ≤ l.length := by simpa using hi
 by_cases hlt : i < l.length
 ·obtain ⟨b, hix⟩ := hv.at hlt
  have hget : (l.map (AV.int .i64))[i]? = some (.int .i64 l[i]) := by simp [hlt]
  have w1 : IntKind.wrap .i64 ((i : Int) + 1) = ((i + 1 : Nat) : Int) := by rw [wrap_i64] <;> omega
  have htl : (l.take i).length = i := by simp; omega
  have ts := take_snoc hget
  generalize l[i] = x at *
  rcases hO with ⟨he, h3⟩ | ⟨g, h3, h4, h5, h6⟩
  ·simp [pc19_l1, a0, a4, v1, v2, hlt, hix, h3, w1]
   refine ⟨⟨i + 1, by simp; omega, by simp [a0], by simp, .inr ⟨τ.nf, ?_, hA.nf, by simp, by simp⟩, hA.newF⟩, ?_⟩
   ·rw [ts, he]; simp
   ·simp only [MU, a4]; simp; omega
  ·simp [pc19_l1, a0, a4, v1, v2, hlt, hix, h3, w1, h6]
   have hgn := hA.nf
   refine ⟨by omega, ⟨i + 1, by simp; omega, by simp [a0], by simp, .inr ⟨τ.nf, ?_, hgn, by simp, by simp⟩, ?_⟩, ?_⟩
   ·rw [ts]; simp
   ·exact ⟨by simpa using hA.no, by simp; omega, fun o ho => by simpa using hA.obj o ho, fun f hf => by
     have : f ≠ g := by omega
     simp [this]
     rw [if_neg (by omega)]
     exact hA.fam f hf⟩
   ·simp only [MU, a4]; simp; omega
 ·have he : i = l.length := by omega
  have hlt' : ¬ (i : Int) < (l.length : Int) := by omega
  have htk : (l.map (AV.int .i64)).take i = l.map (AV.int .i64) := List.take_of_length_le (by simp; omega)
  rw [htk] at hO
  rcases hO with ⟨hn, h3⟩ | ⟨g, h3, h4, h5, h6⟩
  ·simp [pc19_l1, pc19_r1, a0, a4, v1, v2, hlt, h3]
   exact h0 _ (by simpa using hn) hA
  ·simp [pc19_l1, pc19_r1, a0, a4, v1, v2, hlt, h3]
   exact h1 _ _ hA h4 h5 h6
theorem pop_calls {v : Int} (h : RM fs mm mn xo σ0 O x σ) (hc : x.calls = cs ++ [c]) (hb1 : cs.length ≤ 40) (hb2 : c.stack.length ≤ 2 ^ 40) (hv : c.stack.getLast? = some v)
  (hR : ∀ σ', RM fs mm mn xo σ0 O (x.setTop { c with stack := c.stack.dropLast }) σ' → R (.ret (.int .i64 v)) σ') : ACalls Tryz.prog G 41 [.ptr xo 0] σ R := by
 refine calls41 rfl ?_
 obtain ⟨fsv, iv, ov, mo, co, cc, lv, sv, opv, L1, L2, V⟩ := h.view hc
 have v1 := V.ox
 have v2 := V.oc
 have v3 := V.c2
 have v4 := V.len
 obtain ⟨p1, p2, p3⟩ := last_ix hv
 rcases V.hs with ⟨hs, _⟩ | ⟨b, rfl⟩
 ·rw [hs] at hv; simp at hv
 have w1 : IntKind.wrap .i64 (cs.length : Int) = (cs.length : Int) := by rw [wrap_i64] <;> omega
 have w2 : IntKind.wrap .i64 ((c.stack.length : Int) - 1) = ((c.stack.length - 1 : Nat) : Int) := by rw [wrap_i64] <;> omega
 simp [pc41, v1, v2, v3, w1, w2, p2, p3]
 exact ⟨by omega, by omega, hR _ (V.stack (.inr ⟨_, by rw [List.map_dropLast]⟩))⟩
theorem push_calls {v : Int} (h : RM fs mm mn xo σ0 O x σ) (hc : x.calls = cs ++ [c]) (hb1 : cs.length ≤ 40) (hb2 : c.stack.length ≤ 2 ^ 40)
  (hR : ∀ σ', RM fs mm mn xo σ0 O (x.setTop { c with stack := c.stack ++ [v] }) σ' → R (.ret (.tuple [])) σ') : ACalls Tryz.prog G 58 [.ptr xo 0, .int .i64 v] σ R := by
 refine freezing (calls58 rfl ?_)
 obtain ⟨fsv, iv, ov, mo, co, cc, lv, sv, opv, L1, L2, V⟩ := h.view hc
 have v1 := V.ox
 have v2 := V.oc
 have v3 := V.c2
 have v4 := V.len
 have s1 := V.hs.one
 have s2 := V.hs.len
 have w1 : IntKind.wrap .i64 (cs.length : Int) = (cs.length : Int) := by rw [wrap_i64] <;> omega
 simp [pc58, v1, v2, v3, w1, s1]
 obtain ⟨t1, t2, t3, t4, t5, t6, t7, t8, t9, t10, t11⟩ := V.tops
 refine ⟨by omega, ?_⟩
 refine copyIntsF_calls V.hs hb2 (fun σ1 hn A => ?_) (fun σ1 g A g1 g2 g3 => ?_)
 ·have y1 := (A.obj xo t10).trans v1
  have y2 := (A.obj co t9).trans v2
  simp [y1, y2]
  refine ⟨by omega, by omega, .froze σ1.nf (· == co) (by simp) ?_⟩
  have := V.frozen (A.trans (Adds.refl σ1).newF) A.nf (l := [v])
  rw [hn] at hR
  simpa using hR _ (by simpa using this)
 ·have y1 := (A.obj xo t10).trans v1
  have y2 := (A.obj co t9).trans v2
  simp [g3, y1, y2]
  refine ⟨by omega, by omega, by omega, .froze σ1.nf (· == co) (by simp) ?_⟩
  have := V.frozen (A.setF g1 |>.newF (σ' := σ1.setF g .dead)) (q := σ1.nf) (by have := A.nf; omega) (l := c.stack ++ [v])
  simpa using hR _ (by simpa using this)
end
end Go.Proofs.YthifgodgfhbnfaaGreatDoor.Rf
set_option linter.unusedSimpArgs false
set_option linter.unusedVariables false
namespace Go.Abs
theorem ACalls.frzIn {P : Program} {G : Env} {k : FuncId} {args : List AV} {σ : AS} {R : Out → AS → Prop} {f : Nat} (p : Nat → Bool) (ha : σ.F f = .alive) (h : ACalls P G k args (σ.frz f p) R) : ACalls P G k args σ R := by
 intro M w cargs S g c
 have E := ext_frz (M := M) (w := w) ha
 refine (h _ w cargs (S.frz ha) (g.mono E) (c.mono' E)).mono fun e w' ⟨o, σ', M', h1, h2, h3, h4⟩ => ⟨o, σ', M', h1, h2, h3, E.trans h4⟩
end Go.Abs
namespace Go.Proofs.YthifgodgfhbnfaaGreatDoor.Rf
open Go Go.Abs Go.Proofs.YthifgodgfhbnfaaGreatDoor
def LkAt (σ : AS) (xl : Nat) (fs : List F) (mm mn : Int) (f : F) (ls : List Int) (E : Int) : Prop :=
 ∃ fsv pv lv tv cv, σ.objs xl = some [fsv, .int .i64 mm, .int .i64 mn, .str f.name, pv, lv, .int .i64 f.type, tv, cv, .int .i64 E] ∧ FsV fsv fs ∧ IntsV pv f.params ∧ IntsV lv f.locals ∧ ListsV tv f.lists ∧ IntsV cv ls
structure AddB (xl : Nat) (σ σ' : AS) : Prop where
 no : σ.no ≤ σ'.no
 nf : σ.nf ≤ σ'.nf
 obj : ∀ o, o < σ.no → o ≠ xl → σ'.objs o = σ.objs o
 fam : ∀ f, f < σ.nf → σ'.F f = σ.F f
theorem AddB.refl {xl : Nat} (σ : AS) : AddB xl σ σ := ⟨Nat.le_refl _, Nat.le_refl _, fun _ _ _ => rfl, fun _ _ => rfl⟩
theorem AddB.trans {xl : Nat} {a b c : AS} (h : AddB xl a b) (h' : AddB xl b c) : AddB xl a c :=
 ⟨Nat.le_trans h.no h'.no, Nat.le_trans h.nf h'.nf, fun o h1 h2 => (h'.obj o (Nat.lt_of_lt_of_le h1 h.no) h2).trans (h.obj o h1 h2), fun f h1 => (h'.fam f (Nat.lt_of_lt_of_le h1 h.nf)).trans (h.fam f h1)⟩
theorem AddB.of {xl : Nat} {a b : AS} (h : Adds a b) : AddB xl a b := ⟨h.no, h.nf, fun o h1 _ => h.obj o h1, fun f h1 => h.fam f h1⟩
theorem AddB.set {xl : Nat} {a b : AS} (h : AddB xl a b) (v : List AV) : AddB xl a (b.setO xl v) := ⟨by simpa using h.no, by simpa using h.nf, fun o h1 h2 => by simp [h2, h.obj o h1 h2], fun f h1 => by simpa using h.fam f h1⟩
theorem AddB.newO {xl : Nat} {a b : AS} (h : AddB xl a b) (v : List AV) : AddB xl a (b.newO v) := ⟨by have := h.no; simp; omega, by simpa using h.nf, fun o h1 h2 => by have := h.no; simp [show ¬ o = b.no by omega, h.obj o h1 h2], fun f h1 => by simpa using h.fam f h1⟩
theorem AddB.setO {xl o : Nat} {a b : AS} (h : AddB xl a b) (ho : a.no ≤ o) (v : List AV) : AddB xl a (b.setO o v) := ⟨by simpa using h.no, by simpa using h.nf, fun p h1 h2 => by simp [show ¬ p = o by omega, h.obj p h1 h2], fun f h1 => by simpa using h.fam f h1⟩
theorem LkAt.keep {σ σ' : AS} {xl : Nat} {fs : List F} {mm mn : Int} {f : F} {ls : List Int} {E : Int} (h : LkAt σ xl fs mm mn f ls E) (e : σ'.objs xl = σ.objs xl) : LkAt σ' xl fs mm mn f ls E := by
 obtain ⟨fsv, pv, lv, tv, cv, h0, h1⟩ := h
 exact ⟨fsv, pv, lv, tv, cv, e.trans h0, h1⟩
theorem LkAt.adds {σ σ' : AS} {xl : Nat} {fs : List F} {mm mn : Int} {f : F} {ls : List Int} {E : Int} (h : LkAt σ xl fs mm mn f ls E) (hx : xl < σ.no) (A : Adds σ σ') : LkAt σ' xl fs mm mn f ls E := h.keep (A.obj xl hx)
def LO (R : Out → AS → Prop) (xl : Nat) (fs : List F) (mm mn : Int) (f : F) (ls : List Int) (E : Int) (r : Res St) (n : Nat) (σ : AS) : Prop :=
 ∀ (E' : Int) (s' : St) (lv' : AV) (σ' : AS), (E' = 0 → E = 0 ∧ r = .ok s') → s'.stack.length ≤ n → IntsV lv' s'.stack → AddB xl σ σ' → LkAt σ' xl fs mm mn f ls E' → R (.ret (.agg [lv', .bool s'.any])) σ'
section
variable {G : Env} {fs : List F} {mm mn : Int} {xl : Nat} {f : F} {ls : List Int} {E : Int} {σ : AS} {lv : AV} {s : St} {R : Out → AS → Prop}
theorem dropI_calls (h : LkAt σ xl fs mm mn f ls E) (hx : xl < σ.no) (hv : IntsV lv s.stack) (hl : s.stack.length ≤ 2 ^ 39) (hR : LO R xl fs mm mn f ls E (dropE s) s.stack.length σ) : ACalls Tryz.prog G 69 [.ptr xl 0, .agg [lv, .bool s.any]] σ R := by
 refine calls69 rfl ?_
 have v1 := hv.one
 have v2 := hv.len
 obtain ⟨fsv, pv, lv2, tv, cv, h0, hfs, hp, hl2, ht, hc⟩ := h
 have n1 : ¬ xl = σ.no := by omega
 have n2 : ¬ xl = σ.no + 1 := by omega
 have n3 : ¬ σ.no = xl := by omega
 have n4 : ¬ σ.no + 1 = xl := by omega
 have lk : ∀ (τ : AS) e, τ.objs xl = some [fsv, .int .i64 mm, .int .i64 mn, .str f.name, pv, lv2, .int .i64 f.type, tv, cv, .int .i64 e] → LkAt τ xl fs mm mn f ls e := fun τ e he => ⟨fsv, pv, lv2, tv, cv, he, hfs, hp, hl2, ht, hc⟩
 obtain ⟨st, any⟩ := s
 simp only at hv hl hR v1 v2
 have A2 : AddB xl σ ((σ.newO [lv, .bool any]).newO [.nilsl, .bool false]) := ((AddB.refl σ).newO _).newO _
 by_cases hz : st.length = 0
 ·have hz' : st = [] := List.length_eq_zero_iff.1 hz
  cases any with
  | true =>
   have hr : dropE ⟨st, true⟩ = .ok ⟨st, true⟩ := by unfold dropE; simp [hz]
   simp [pc69, v1, v2, hz', h0, splice]
   exact hR E ⟨st, true⟩ lv _ (fun e => ⟨e, hr⟩) (Nat.le_refl _) hv (A2.setO (by omega) _) (lk _ _ (by simp [n1, n2, h0]))
  | false =>
   by_cases hE : E = 0
   ·simp [pc69, v1, v2, hz', h0, n1, n2, n3, n4, hE, splice]
    refine hR 14 ⟨st, false⟩ lv _ (fun e => by omega) (Nat.le_refl _) hv ?_ (lk _ _ ?_)
    ·exact (A2.set _).setO (by omega) _
    ·simp [n1, n2]
   ·simp [pc69, v1, v2, hz', h0, n1, n2, n3, n4, hE, splice]
    exact hR E ⟨st, false⟩ lv _ (fun e => absurd e hE) (Nat.le_refl _) hv (A2.setO (by omega) _) (lk _ _ (by simp [n1, n2, h0]))
 ·have hne : 0 < st.length := by omega
  have w1 : IntKind.wrap .i64 ((st.length : Int) - 1) = ((st.length - 1 : Nat) : Int) := by rw [wrap_i64] <;> omega
  have hr : dropE ⟨st, any⟩ = .ok ⟨st.dropLast, any⟩ := by unfold dropE; simp [hz]
  rcases hv with ⟨hs, _⟩ | ⟨b, rfl⟩
  ·rw [hs] at hne; simp at hne
  have hd : IntsV (.sl (.stat (b && decide (st.length - 1 = st.length))) 1 (List.take (st.length - 1) (st.map (AV.int .i64)))) st.dropLast := .inr ⟨_, by rw [← List.map_take, List.dropLast_eq_take]⟩
  simp [pc69, hz, w1]
  refine copyInts_calls hd (by simp; omega) fun v' σ1 hv' A1 => ?_
  have p1 := hv'.one
  have o1 := A1.obj σ.no (by simp; omega)
  have o2 := A1.obj (σ.no + 1) (by simp)
  have o3 := A1.obj xl (by simp; omega)
  simp at o1 o2
  simp [n1, n2, h0] at o3
  simp [p1, o1, o2, splice]
  exact hR E ⟨st.dropLast, any⟩ v' _ (fun e => ⟨e, hr⟩) (by simp) hv' ((A2.trans (.of A1)).setO (by omega) _) (lk _ _ (by simp [n1, n2, o3]))
theorem takeE_one {t : Int} : takeE [t] s = if s.stack.length = 0 ∨ s.stack.getLast? = some t then dropE s else .error 14 := by
 simp only [takeE]
 split
 ·cases dropE s <;> rfl
 ·rfl
theorem LkAt.any {σ : AS} (h : LkAt σ xl fs mm mn f ls E) : ∃ fsv pv lv tv cv, σ.objs xl = some [fsv, .int .i64 mm, .int .i64 mn, .str f.name, pv, lv, .int .i64 f.type, tv, cv, .int .i64 E] ∧ FsV fsv fs ∧ IntsV pv f.params ∧ IntsV lv f.locals ∧ ListsV tv f.lists ∧ IntsV cv ls ∧
  ∀ (τ : AS) e, τ.objs xl = some [fsv, .int .i64 mm, .int .i64 mn, .str f.name, pv, lv, .int .i64 f.type, tv, cv, .int .i64 e] → LkAt τ xl fs mm mn f ls e := by
 obtain ⟨fsv, pv, lv, tv, cv, h0, h1, h2, h3, h4, h5⟩ := h
 exact ⟨fsv, pv, lv, tv, cv, h0, h1, h2, h3, h4, h5, fun τ e he => ⟨fsv, pv, lv, tv, cv, he, h1, h2, h3, h4, h5⟩⟩
def EndL (b : Nat) (R : Out → AS → Prop) (o : Out) (τ : AS) : Prop := ∃ lv' b', o = .ret (.agg [lv', .bool b']) ∧ lv'.known = true ∧ lv'.one = true ∧ lv'.cells = [lv'] ∧ τ.objs b = some [.nilsl, .bool false] ∧ R (.ret (.agg [lv', .bool b'])) (τ.setO b [lv', .bool b'])
theorem LO.ends {E1 : Int} {r r1 : Res St} {n n1 b : Nat} {τ : AS} (hR : LO R xl fs mm mn f ls E r n σ) (hx : xl < σ.no) (hc : E1 = 0 → ∀ s', r1 = .ok s' → E = 0 ∧ r = .ok s') (hn : n1 ≤ n) (A : AddB xl σ τ) (hb : σ.no ≤ b) (hb2 : b < τ.no) (ho : τ.objs b = some [.nilsl, .bool false]) :
  LO (EndL b R) xl fs mm mn f ls E1 r1 n1 τ := by
 intro E' s' lv' τ2 h2 h3 h4 A' L'
 refine ⟨lv', s'.any, rfl, h4.one.1, h4.one.2.1, h4.one.2.2, (A'.obj _ hb2 (by omega)).trans ho, hR E' s' lv' _ (fun e => ?_) (Nat.le_trans h3 hn) h4 ((A.trans A').setO hb _) (L'.keep (by simp [show ¬ xl = b by omega]))⟩
 obtain ⟨g1, g2⟩ := h2 e
 exact hc g1 s' g2
theorem takeI_calls {t : Int} (h : LkAt σ xl fs mm mn f ls E) (hx : xl < σ.no) (hv : IntsV lv s.stack) (hl : s.stack.length ≤ 2 ^ 39) (hR : LO R xl fs mm mn f ls E (takeE [t] s) s.stack.length σ) : ACalls Tryz.prog G 68 [.ptr xl 0, .agg [lv, .bool s.any], .int .i64 t] σ R := by
 refine calls68 rfl ?_
 have v1 := hv.one
 have v2 := hv.len
 rw [takeE_one] at hR
 obtain ⟨fsv, pv, lv2, tv, cv, h0, hfs, hp, hl2, ht, hc, lk⟩ := h.any
 have n1 : ¬ xl = σ.no := by omega
 have n2 : ¬ xl = σ.no + 1 := by omega
 have n3 : ¬ σ.no = xl := by omega
 have n4 : ¬ σ.no + 1 = xl := by omega
 obtain ⟨st, any⟩ := s
 simp only at hv hl hR v1 v2
 have A2 : AddB xl σ ((σ.newO [lv, .bool any]).newO [.nilsl, .bool false]) := ((AddB.refl σ).newO _).newO _
 by_cases hz : st.length = 0
 ·have hz' : st = [] := List.length_eq_zero_iff.1 hz
  simp [pc68, v1, v2, hz]
  refine (dropI_calls (s := ⟨st, any⟩) (E := E) (lk _ _ (by simp [n1, n2, h0])) (by simp; omega) hv hl (hR.ends hx (b := σ.no + 1) (fun e s' h => ⟨e, by rw [if_pos (.inl hz)]; exact h⟩) (Nat.le_refl _) A2 (by omega) (by simp) (by simp))).mono fun o τ2 ⟨lv', b', e1, e2, e6, e3, e4, e5⟩ => ?_
  subst e1
  simp [e2, e3, e4, splice]
  exact ⟨e6, e5⟩
 ·have hne : 0 < st.length := by omega
  have w1 : IntKind.wrap .i64 ((st.length : Int) - 1) = ((st.length - 1 : Nat) : Int) := by rw [wrap_i64] <;> omega
  have hgl : st.getLast? = some st[st.length - 1] := by rw [List.getLast?_eq_getElem?, List.getElem?_eq_getElem (by omega)]
  obtain ⟨b, hix⟩ := hv.at (show st.length - 1 < st.length by omega)
  generalize st[st.length - 1] = v at *
  by_cases hvt : v = t
  ·subst hvt
   simp [pc68, v1, v2, hne, w1, hix]
   refine (dropI_calls (s := ⟨st, any⟩) (E := E) (lk _ _ (by simp [n1, n2, h0])) (by simp; omega) hv hl (hR.ends hx (b := σ.no + 1) (fun e s' h => ⟨e, by rw [if_pos (.inr hgl)]; exact h⟩) (Nat.le_refl _) A2 (by omega) (by simp) (by simp))).mono fun o τ2 ⟨lv', b', e1, e2, e6, e3, e4, e5⟩ => ?_
   subst e1
   simp [e2, e3, e4, splice]
   exact ⟨e6, e5⟩
  ·by_cases hE : E = 0
   ·simp [pc68, v1, v2, hne, w1, hix, hvt, h0, n1, n2, n3, n4, hE, splice]
    refine (dropI_calls (s := ⟨st, any⟩) (E := 14) (lk _ _ (by simp)) (by simp; omega) hv hl (hR.ends hx (b := σ.no + 1) (fun e => by omega) (Nat.le_refl _) (A2.set _) (by omega) (by simp) (by simp [n4]))).mono fun o τ2 ⟨lv', b', e1, e2, e6, e3, e4, e5⟩ => ?_
    subst e1
    simp [e2, e3, e4, splice]
    exact ⟨e6, e5⟩
   ·simp [pc68, v1, v2, hne, w1, hix, hvt, h0, n1, n2, n3, n4, hE, splice]
    refine (dropI_calls (s := ⟨st, any⟩) (E := E) (lk _ _ (by simp [n1, n2, h0])) (by simp; omega) hv hl (hR.ends hx (b := σ.no + 1) (fun e => absurd e hE) (Nat.le_refl _) A2 (by omega) (by simp) (by simp))).mono fun o τ2 ⟨lv', b', e1, e2, e6, e3, e4, e5⟩ => ?_
    subst e1
    simp [e2, e3, e4, splice]
    exact ⟨e6, e5⟩
theorem returnsI_calls (h : LkAt σ xl fs mm mn f ls E) (hx : xl < σ.no) (hv : IntsV lv s.stack) (hl : s.stack.length ≤ 2 ^ 39) (hR : LO R xl fs mm mn f ls E (returnsE f.type s) s.stack.length σ) : ACalls Tryz.prog G 47 [.ptr xl 0, .agg [lv, .bool s.any]] σ R := by
 refine calls47 rfl ?_
 have v1 := hv.one
 have v2 := hv.len
 obtain ⟨fsv, pv, lv2, tv, cv, h0, hfs, hp, hl2, ht, hc, lk⟩ := h.any
 have n1 : ¬ xl = σ.no := by omega
 have n2 : ¬ xl = σ.no + 1 := by omega
 have A2 : AddB xl σ ((σ.newO [lv, .bool s.any]).newO [.nilsl, .bool false]) := ((AddB.refl σ).newO _).newO _
 by_cases ht0 : f.type = 0
 ·have hr : returnsE f.type s = .ok s := by unfold returnsE; rw [if_pos ht0]
  simp [pc47, v1, h0, n1, n2, ht0, splice]
  exact hR E s lv _ (fun e => ⟨e, hr⟩) (Nat.le_refl _) hv (A2.setO (by omega) _) (lk _ _ (by simp [n1, n2, h0]))
 ·have hr : returnsE f.type s = takeE [f.type] s := by unfold returnsE; rw [if_neg ht0]
  simp [pc47, v1, h0, n1, n2, ht0, splice]
  refine (takeI_calls (E := E) (lk _ _ (by simp [n1, n2, h0])) (by simp; omega) hv hl (hR.ends hx (b := σ.no + 1) (fun e s' h => ⟨e, by rw [hr]; exact h⟩) (Nat.le_refl _) A2 (by omega) (by simp) (by simp))).mono fun o τ2 ⟨lv', b', e1, e2, e6, e3, e4, e5⟩ => ?_
  subst e1
  simp [e2, e3, e4, splice]
  exact ⟨e6, e5⟩
theorem giveI_calls {t : Int} (hv : IntsV lv s.stack) (hl : s.stack.length ≤ 2 ^ 39) (hR : ∀ lv' σ', IntsV lv' (giveS s t).stack → Adds σ σ' → R (.ret (.agg [lv', .bool s.any])) σ') : ACalls Tryz.prog G 71 [.agg [lv, .bool s.any], .int .i64 t] σ R := by
 refine freezing (calls71 rfl ?_)
 have v1 := hv.one
 have v2 := hv.len
 by_cases ht0 : t = 0
 ·simp [pc71, v1, ht0, splice]
  refine .inl (hR _ _ (by rw [giveS, if_pos ht0]; exact hv) ?_)
  exact ((Adds.refl σ).newO.newO).setO (by omega)
 ·have e : (giveS s t).stack = s.stack ++ [t] := by rw [giveS, if_neg ht0]
  rw [e] at hR
  simp [pc71, v1, ht0, splice]
  refine copyIntsF_calls hv (by omega) (fun σ1 hn A => ?_) (fun σ1 g A g1 g2 g3 => ?_)
  ·have o1 := A.obj σ.no (by simp; omega)
   have o2 := A.obj (σ.no + 1) (by simp)
   simp at o1 o2
   simp [o1, o2, splice]
   refine .froze σ1.nf (fun _ => false) (by simp) ?_
   have A3 : Adds σ ((σ1.newF).setO (σ.no + 1) [.sl (.fam σ1.nf false) 1 [.int .i64 t], .bool s.any]) := (((((Adds.refl σ).newO).newO).trans A).newF).setO (by omega)
   have := hR (.sl (.stat false) 1 [.int .i64 t]) (((σ1.newF).setO (σ.no + 1) [.sl (.fam σ1.nf false) 1 [.int .i64 t], .bool s.any]).frz σ1.nf fun _ => false) (.inr ⟨false, by rw [hn]; rfl⟩) (A3.frz (by have := A.nf; simpa using this) fun _ _ => rfl)
   simpa using this
  ·have o1 := A.obj σ.no (by simp; omega)
   have o2 := A.obj (σ.no + 1) (by simp)
   simp at o1 o2
   simp [o1, o2, g3, splice]
   refine ⟨by omega, ?_⟩
   refine .froze σ1.nf (fun _ => false) (by simp) ?_
   have hnf := A.nf
   simp at hnf g1
   have A3 : Adds σ (((σ1.setF g .dead).newF).setO (σ.no + 1) [.sl (.fam σ1.nf false) 1 (List.map (AV.int .i64) s.stack ++ [.int .i64 t]), .bool s.any]) :=
    ((((((Adds.refl σ).newO).newO).trans A).setF (by simpa using g1)).newF (σ' := σ1.setF g .dead)).setO (by omega)
   have := hR (.sl (.stat false) 1 (List.map (AV.int .i64) s.stack ++ [.int .i64 t])) ((((σ1.setF g .dead).newF).setO (σ.no + 1) [.sl (.fam σ1.nf false) 1 (List.map (AV.int .i64) s.stack ++ [.int .i64 t]), .bool s.any]).frz σ1.nf fun _ => false) (.inr ⟨false, by simp⟩) (A3.frz hnf fun _ _ => rfl)
   simpa [Function.comp_def] using this
end
end Go.Proofs.YthifgodgfhbnfaaGreatDoor.Rf
set_option linter.unusedSimpArgs false
set_option linter.unusedVariables false
namespace Go.Proofs.YthifgodgfhbnfaaGreatDoor.Rf
open Go Go.Abs Go.Proofs.YthifgodgfhbnfaaGreatDoor
theorem bits_step (X : Nat) (i : Nat) : X / 2 ^ i = 2 * (X / 2 ^ (i + 1)) + (X.testBit i).toNat := by
 rw [Nat.pow_succ, ← Nat.div_div_eq_div_mul, Nat.testBit_eq_decide_div_mod_eq]
 have := Nat.div_add_mod (X / 2 ^ i) 2
 by_cases h : X / 2 ^ i % 2 = 1
 ·simp [h]; omega
 ·simp [h]; omega
theorem u64_eq (n : Int) : IntKind.u64.wrap n = n % 2 ^ 64 := by simp [IntKind.wrap, IntKind.bits, IntKind.signed]
def widthW (t : Int) : Int := if t = 3 then 8 else if t = 1 then 32 else if t = 2 then 64 else 0
section
variable {G : Env} {σ : AS} {R : Out → AS → Prop}
theorem width_calls {t : Int} (h : R (.ret (.int .i64 (widthW t))) σ) : ACalls Tryz.prog G 89 [.int .i64 t] σ R := by
 refine calls89 rfl ?_
 unfold widthW at h
 by_cases h3 : t = 3
 ·simp [h3] at h; simp [pc89, h3]; exact h
 by_cases h1 : t = 1
 ·simp [h1] at h; simp [pc89, h1]; exact h
 by_cases h2 : t = 2
 ·simp [h2] at h; simp [pc89, h2]; exact h
 simp [h1, h2, h3] at h; simp [pc89, h1, h2, h3]; exact h
theorem tmod256 (v : Int) : (if v.tmod 256 < 0 then v.tmod 256 + 256 else v.tmod 256) = v % 256 := by
 have h := @Int.tmod_eq_emod v 256
 rw [h]
 by_cases hc : 0 ≤ v ∨ (256 : Int) ∣ v
 ·rw [if_pos hc]; simp; omega
 ·rw [if_neg hc]; simp; omega
theorem tmod32 (v : Int) : (if v.tmod 4294967296 < 0 then v.tmod 4294967296 + 4294967296 else v.tmod 4294967296) = v % 4294967296 := by
 have h := @Int.tmod_eq_emod v 4294967296
 rw [h]
 by_cases hc : 0 ≤ v ∨ (4294967296 : Int) ∣ v
 ·rw [if_pos hc]; simp; omega
 ·rw [if_neg hc]; simp; omega
theorem wrapI0_calls {t v : Int} (hv : t = 2 → -(2 ^ 63) ≤ v ∧ v < 2 ^ 63) (h : R (.ret (.int .i64 (wrapT t v))) σ) : ACalls Tryz.prog G 60 [.int .i64 t, .int .i64 v] σ R := by
 refine calls60 rfl ?_
 simp [pc60]
 refine width_calls ?_
 unfold wrapT at h
 unfold widthW
 by_cases h3 : t = 3
 ·simp [h3] at h
  rw [wrap8_eq] at h
  have e := tmod256 v
  have r0 : 0 ≤ v % 256 := Int.emod_nonneg _ (by decide)
  have r1 : v % 256 < 256 := Int.emod_lt_of_pos _ (by decide)
  have k0 : IntKind.u64.wrap 8 = 8 := by decide
  have k1 : IntKind.wrap .i64 (2 ^ min (8 : Nat) IntKind.i64.bits) = 256 := by decide
  have k2 : IntKind.wrap .i64 128 = 128 := by decide
  have w2 : IntKind.wrap .i64 (v % 256 - 256) = v % 256 - 256 := by rw [wrap_i64] <;> omega
  by_cases c1 : v.tmod 256 < 0
  ·rw [if_pos c1] at e
   have w1 : IntKind.wrap .i64 (v.tmod 256 + 256) = v % 256 := by rw [e, wrap_i64] <;> omega
   by_cases c2 : 128 ≤ v % 256
   ·simp [c2] at h
    simp [h3, c1, w1, c2, w2, k0, k1, k2]
    exact h
   ·simp [c2] at h
    simp [h3, c1, w1, c2, w2, k0, k1, k2]
    exact h
  ·rw [if_neg c1] at e
   have c3 : ¬ v % 256 < 0 := by omega
   by_cases c2 : 128 ≤ v % 256
   ·simp [c2] at h
    simp [h3, c1, c3, e, c2, w2, k0, k1, k2]
    exact h
   ·simp [c2] at h
    simp [h3, c1, c3, e, c2, w2, k0, k1, k2]
    exact h
 by_cases h1 : t = 1
 ·simp [h1] at h
  rw [wrap32_eq] at h
  have e := tmod32 v
  have r0 : 0 ≤ v % 4294967296 := Int.emod_nonneg _ (by decide)
  have r1 : v % 4294967296 < 4294967296 := Int.emod_lt_of_pos _ (by decide)
  have k0 : IntKind.u64.wrap 32 = 32 := by decide
  have k1 : IntKind.wrap .i64 (2 ^ min (32 : Nat) IntKind.i64.bits) = 4294967296 := by decide
  have k2 : IntKind.wrap .i64 2147483648 = 2147483648 := by decide
  have w2 : IntKind.wrap .i64 (v % 4294967296 - 4294967296) = v % 4294967296 - 4294967296 := by rw [wrap_i64] <;> omega
  by_cases c1 : v.tmod 4294967296 < 0
  ·rw [if_pos c1] at e
   have w1 : IntKind.wrap .i64 (v.tmod 4294967296 + 4294967296) = v % 4294967296 := by rw [e, wrap_i64] <;> omega
   by_cases c2 : 2147483648 ≤ v % 4294967296
   ·simp [c2] at h
    simp [h1, h3, c1, w1, c2, w2, k0, k1, k2]
    exact h
   ·simp [c2] at h
    simp [h1, h3, c1, w1, c2, w2, k0, k1, k2]
    exact h
  ·rw [if_neg c1] at e
   have c3 : ¬ v % 4294967296 < 0 := by omega
   by_cases c2 : 2147483648 ≤ v % 4294967296
   ·simp [c2] at h
    simp [h1, h3, c1, c3, e, c2, w2, k0, k1, k2]
    exact h
   ·simp [c2] at h
    simp [h1, h3, c1, c3, e, c2, w2, k0, k1, k2]
    exact h
 have k1 : IntKind.wrap .i64 1 = 1 := by decide
 have k0 : IntKind.wrap .i64 0 = 0 := by decide
 by_cases h2 : t = 2
 ·simp [h2] at h; simp [h2, k1]; rw [show IntKind.wrap .i64 v = v by rw [wrap_i64] <;> (have := hv h2; omega)]; exact h
 simp [h1, h2, h3] at h; simp [h1, h2, h3, k0]; exact h
theorem wrapI_calls {t v : Int} (hv : -(2 ^ 63) ≤ v ∧ v < 2 ^ 63) (h : R (.ret (.int .i64 (wrapT t v))) σ) : ACalls Tryz.prog G 60 [.int .i64 t, .int .i64 v] σ R := wrapI0_calls (fun _ => hv) h
theorem wrapI1_calls {v : Int} (h : R (.ret (.int .i64 (IntKind.i32.wrap v))) σ) : ACalls Tryz.prog G 60 [.int .i64 1, .int .i64 v] σ R := wrapI0_calls (fun e => by omega) (by simpa [wrapT] using h)
def natOf (v : Int) : Nat := (v % 2 ^ 64).toNat
theorem natOf_eq (v : Int) : IntKind.u64.wrap v = (natOf v : Int) := by
 rw [u64_eq]
 exact (Int.toNat_of_nonneg (Int.emod_nonneg _ (by decide))).symm
theorem natOf_lt (v : Int) : natOf v < 2 ^ 64 := by
 have h1 := Int.emod_nonneg v (show (2 ^ 64 : Int) ≠ 0 by decide)
 have h2 := Int.emod_lt_of_pos v (show (0 : Int) < 2 ^ 64 by decide)
 unfold natOf
 omega
theorem natOf_bv (v : Int) : natOf v = (BitVec.ofInt 64 v).toNat := by
 simp only [BitVec.toNat_ofInt, natOf]
 rw [show (((2 ^ 64 : Nat) : Int)) = 2 ^ 64 by norm_cast]
theorem u64_nat {n : Nat} (h : n < 2 ^ 64) : IntKind.u64.wrap (n : Int) = (n : Int) := by rw [u64_eq]; omega
def BTI (X n : Nat) (a : Nat → AV) : Prop := ∃ i : Nat, i ≤ n ∧ a 1 = .int .i64 (n : Int) ∧ a 5 = .int .u64 ((X / 2 ^ i : Nat) : Int) ∧ a 6 = .int .i64 (i : Int)
theorem bit_calls {v : Int} {n : Nat} (hn : n < 64) (h : R (.ret (.bool ((natOf v).testBit n))) σ) : ACalls Tryz.prog G 118 [.int .i64 v, .int .i64 (n : Int)] σ R := by
 refine calls118 rfl ?_
 have hX := natOf_lt v
 simp [pc118, natOf_eq]
 refine aloop (fun a τ => BTI (natOf v) n a ∧ τ = σ) (MU 6 (n + 1)) ⟨⟨0, by omega, by simp, by simp, by simp⟩, rfl⟩ fun a τ hI => ?_
 obtain ⟨⟨i, hi, a1, a5, a6⟩, rfl⟩ := hI
 have hd : natOf v / 2 ^ i < 2 ^ 64 := Nat.lt_of_le_of_lt (Nat.div_le_self _ _) hX
 by_cases hlt : i < n
 ·have w1 : IntKind.wrap .i64 ((i : Int) + 1) = ((i + 1 : Nat) : Int) := by rw [wrap_i64] <;> omega
  have e3 : natOf v / 2 ^ (i + 1) = (natOf v / 2 ^ i) / 2 := by rw [Nat.pow_succ, ← Nat.div_div_eq_div_mul]
  obtain ⟨Z, hZ⟩ : ∃ Z, Z = natOf v / 2 ^ (i + 1) := ⟨_, rfl⟩
  generalize natOf v / 2 ^ i = Y at *
  have e1 : ((Y : Int)).tdiv 2 = (Z : Int) := by
   rw [Int.tdiv_eq_ediv_of_nonneg (by omega), hZ, e3]; rfl
  have e2 : IntKind.u64.wrap (Z : Int) = (Z : Int) := u64_nat (by omega)
  simp [pc118_l1, a1, a5, a6, hlt, e1, e2, w1]
  refine ⟨⟨i + 1, by omega, by simp [a1], by rw [← hZ]; simp, by simp⟩, ?_⟩
  simp only [MU, a6]; simp; omega
 ·have he : i = n := by omega
  subst he
  rw [Nat.testBit_eq_decide_div_mod_eq] at h
  generalize natOf v / 2 ^ i = Y at *
  have e1 : (((Y : Int)).tmod 2 = 1) = (Y % 2 = 1) := by
   rw [Int.tmod_eq_emod_of_nonneg (by omega)]; exact propext ⟨fun q => by omega, fun q => by omega⟩
  simp [pc118_l1, pc118_r1, a1, a5, a6, e1]
  exact h
theorem oneI_calls {b : Bool} (h : R (.ret (.int .i64 (oneB b))) σ) : ACalls Tryz.prog G 108 [.bool b] σ R := by
 refine calls108 rfl ?_
 unfold oneB at h
 cases b <;> simp [pc108] at h ⊢ <;> exact h
def MD (slot : Nat) (a : Nat → AV) (_ : AS) : Nat := match a slot with
 | .int _ n => (n + 1).toNat
 | _ => 0
def BSI (X W : Nat) (t : Int) (op : List UInt8) (a b : Int) (fr : Nat → AV) : Prop := ∃ j : Nat, j ≤ W ∧ fr 0 = .int .i64 t ∧ fr 1 = .str op ∧ fr 2 = .int .i64 a ∧ fr 3 = .int .i64 b ∧ fr 10 = .int .u64 ((X / 2 ^ j : Nat) : Int) ∧ fr 11 = .int .i64 ((j : Int) - 1)
def opG (op : List UInt8) (x y : Bool) : Bool := if op = [38] then x && y else if op = [124] then x || y else if op = [94] then x != y else false
theorem neq_bool {K : AV → Prop} (x y : Bool) : abin Tryz.prog .neq 4 (.bool x) (.bool y) K = K (.bool (!decide (x = y))) := by
 simp [abin, aeq]
set_option maxHeartbeats 1000000 in
theorem bits_calls {t a b : Int} {op : List UInt8} {W C : Nat} (hW : widthW t = (W : Int)) (hW2 : W ≤ 64) (hC : ∀ i, i < 64 → C.testBit i = opG op ((natOf a).testBit i) ((natOf b).testBit i))
  (h : R (.ret (.int .i64 (wrapT t (IntKind.i64.wrap ((C % 2 ^ W : Nat) : Int))))) σ) : ACalls Tryz.prog G 106 [.int .i64 t, .str op, .int .i64 a, .int .i64 b] σ R := by
 refine calls106 rfl ?_
 have hX : C % 2 ^ W < 2 ^ W := Nat.mod_lt _ (Nat.pow_pos (by decide))
 have hX2 : 2 ^ W ≤ 2 ^ 64 := Nat.pow_le_pow_right (by decide) hW2
 have hbit : ∀ i, i < W → (C % 2 ^ W).testBit i = opG op ((natOf a).testBit i) ((natOf b).testBit i) := fun i hi => by
  rw [Nat.testBit_mod_two_pow]
  simp [hi, hC i (by omega)]
 generalize C % 2 ^ W = X at *
 simp [pc106]
 refine width_calls ?_
 rw [hW]
 have w0 : IntKind.wrap .i64 ((W : Int) - 1) = (W : Int) - 1 := by rw [wrap_i64] <;> omega
 simp [w0]
 refine aloop (fun fr τ => BSI X W t op a b fr ∧ τ = σ) (MD 11) ⟨⟨W, by omega, by simp, by simp, by simp, by simp, by simp [Nat.div_eq_of_lt hX], by simp⟩, rfl⟩ fun fr τ hI => ?_
 obtain ⟨⟨j, hj, f0, f1, f2, f3, f10, f11⟩, rfl⟩ := hI
 cases j with
 | zero =>
  have e1 : X / 2 ^ 0 = X := by simp
  rw [e1] at f10
  have hlt : X < 2 ^ 64 := by omega
  simp [pc106_l1, pc106_r1, f0, f10, f11]
  refine wrapI_calls (wrap64_range _) ?_
  simp
  exact h
 | succ i =>
  have hs := bits_step X i
  have hb := hbit i (by omega)
  obtain ⟨Y, hY⟩ : ∃ Y, Y = X / 2 ^ (i + 1) := ⟨_, rfl⟩
  have hY2 : X / 2 ^ i < 2 ^ 64 := Nat.lt_of_le_of_lt (Nat.div_le_self _ _) (by omega)
  have f11' : fr 11 = .int .i64 (i : Int) := by rw [f11]; congr 1; omega
  rw [← hY] at hs f10
  have w1 : IntKind.wrap .i64 ((i : Int) - 1) = (i : Int) - 1 := by rw [wrap_i64] <;> omega
  have w2 : IntKind.u64.wrap ((Y : Int) * 2) = ((2 * Y : Nat) : Int) := by
   rw [show ((Y : Int) * 2) = ((2 * Y : Nat) : Int) by omega]; exact u64_nat (by omega)
  simp [pc106_l1, f0, f1, f2, f3, f10, f11']
  refine bit_calls (n := i) (by omega) ?_
  simp [f3, f11']
  refine bit_calls (n := i) (by omega) ?_
  simp
  generalize hp : (natOf a).testBit i = p at *
  generalize hq : (natOf b).testBit i = q at *
  have fin : ∀ fr' : Nat → AV, fr' 0 = .int .i64 t → fr' 1 = .str op → fr' 2 = .int .i64 a → fr' 3 = .int .i64 b → fr' 10 = .int .u64 ((X / 2 ^ i : Nat) : Int) → fr' 11 = .int .i64 ((i : Int) - 1) → BSI X W t op a b fr' ∧ MD 11 fr' τ < MD 11 fr τ := fun fr' g0 g1 g2 g3 g10 g11 => by
   refine ⟨⟨i, by omega, g0, g1, g2, g3, g10, g11⟩, ?_⟩
   simp only [MD, g11, f11']; omega
  have w3 : (X.testBit i = true) → IntKind.u64.wrap (((2 * Y : Nat) : Int) + 1) = ((X / 2 ^ i : Nat) : Int) := fun e => by
   rw [e] at hs; simp at hs
   rw [show (((2 * Y : Nat) : Int) + 1) = ((X / 2 ^ i : Nat) : Int) by omega]; exact u64_nat (by omega)
  have w4 : (X.testBit i = false) → ((2 * Y : Nat) : Int) = ((X / 2 ^ i : Nat) : Int) := fun e => by
   rw [e] at hs; simp at hs; omega
  rw [hb] at w3 w4
  generalize X / 2 ^ i = Z at *
  clear h hs hb hX hX2 hbit hp hq
  unfold opG at w3 w4
  by_cases o1 : op = [38]
  ·subst o1
   simp at w3 w4
   cases p <;> cases q <;> simp at w3 w4 <;> simp [f0, f1, f2, f3, f10, f11', w1, w2, neq_bool] <;> (try simp [w3]) <;> (try rw [w4]) <;> refine fin _ ?_ ?_ ?_ ?_ ?_ ?_ <;> simp [f0, f1, f2, f3]
  by_cases o2 : op = [124]
  ·subst o2
   simp at w3 w4
   cases p <;> cases q <;> simp at w3 w4 <;> simp [f0, f1, f2, f3, f10, f11', w1, w2, neq_bool] <;> (try simp [w3]) <;> (try rw [w4]) <;> refine fin _ ?_ ?_ ?_ ?_ ?_ ?_ <;> simp [f0, f1, f2, f3]
  by_cases o3 : op = [94]
  ·subst o3
   simp at w3 w4
   cases p <;> cases q <;> simp at w3 w4 <;> simp [f0, f1, f2, f3, f10, f11', w1, w2, neq_bool] <;> (try simp [w3]) <;> (try rw [w4]) <;> refine fin _ ?_ ?_ ?_ ?_ ?_ ?_ <;> simp [f0, f1, f2, f3]
  simp [o1, o2, o3] at w3 w4
  simp [o1, o2, o3, f0, f1, f2, f3, f10, f11', w1, w2]
  refine fin _ ?_ ?_ ?_ ?_ ?_ ?_ <;> simp [f0, f1, f2, f3, w4]
end
end Go.Proofs.YthifgodgfhbnfaaGreatDoor.Rf
set_option linter.unusedSimpArgs false
set_option linter.unusedVariables false
namespace Go.Proofs.YthifgodgfhbnfaaGreatDoor.Rf
open Go Go.Abs Go.Proofs.YthifgodgfhbnfaaGreatDoor
theorem w32_id {v : Int} (h : -(2 ^ 31) ≤ v ∧ v < 2 ^ 31) : IntKind.i32.wrap v = v := by rw [wrap32_eq]; split <;> omega
theorem w64_id {v : Int} (h : -(2 ^ 63) ≤ v ∧ v < 2 ^ 63) : IntKind.i64.wrap v = v := by rw [wrap64_eq]; split <;> omega
theorem w32_64 (v : Int) : IntKind.i32.wrap (IntKind.i64.wrap v) = IntKind.i32.wrap v := by rw [wrap32_eq, wrap32_eq, wrap64_eq]; omega
theorem inT1 {v : Int} (h : inT 1 v = true) : -(2 ^ 31) ≤ v ∧ v < 2 ^ 31 := by simpa [inT] using h
theorem tdiv_lt {a b : Int} (h0 : b ≠ 0) (h1 : b ≠ -1) {N : Nat} (hN : 0 < N) (ha : -(N : Int) ≤ a ∧ a < N) : -(N : Int) ≤ a.tdiv b ∧ a.tdiv b < N := by
 by_cases hb : b = 1
 ·subst hb; simpa using ha
 have e : (a.tdiv b).natAbs = a.natAbs / b.natAbs := Int.natAbs_tdiv a b
 have h2 : 2 ≤ b.natAbs := by omega
 have h3 : a.natAbs / b.natAbs ≤ a.natAbs / 2 := Nat.div_le_div_left h2 (by omega)
 omega
theorem wrapT1 (v : Int) : wrapT 1 v = IntKind.i32.wrap v := by simp [wrapT]
theorem wrapT2 (v : Int) : wrapT 2 v = v := by simp [wrapT]
def kindOf (t : Int) : IntKind := if t = 1 then .i32 else .i64
theorem kind_wrap {t v : Int} (ht : t = 1 ∨ t = 2) : wrapT t (IntKind.i64.wrap v) = (kindOf t).wrap v := by
 rcases ht with rfl | rfl
 ·rw [wrapT1, w32_64]; rfl
 ·rw [wrapT2]; rfl
theorem kind_id {t v : Int} (ht : t = 1 ∨ t = 2) (h : inT t v = true) : (kindOf t).wrap v = v ∧ wrapT t v = v := by
 rcases ht with rfl | rfl
 ·exact ⟨w32_id (inT1 h), by rw [wrapT1]; exact w32_id (inT1 h)⟩
 ·exact ⟨w64_id (inT_long h), wrapT2 v⟩
theorem kind_div {t a b : Int} (ht : t = 1 ∨ t = 2) (ha : inT t a = true) (h0 : b ≠ 0) (h1 : b ≠ -1) : (kindOf t).wrap (a.tdiv b) = IntKind.i64.wrap (a.tdiv b) := by
 rcases ht with rfl | rfl
 ·have h := inT1 ha
  have k := tdiv_lt h0 h1 (N := 2 ^ 31) (by decide) (by simpa using h)
  have k' : -(2 ^ 31) ≤ a.tdiv b ∧ a.tdiv b < 2 ^ 31 := by simpa using k
  exact (w32_id k').trans (w64_id (by omega)).symm
 ·rfl
section
variable {G : Env} {σ : AS} {R : Out → AS → Prop}
theorem divided_calls {t a b : Int} {op : List UInt8} (ht : t = 1 ∨ t = 2) (ha : inT t a = true) (h : R (.ret (.tuple [.int .i64 (divideW (kindOf t) op a b).1, .int .i64 (divideW (kindOf t) op a b).2])) σ) :
  ACalls Tryz.prog G 105 [.int .i64 t, .str op, .int .i64 a, .int .i64 b] σ R := by
 refine calls105 rfl ?_
 unfold divideW at h
 by_cases h0 : b = 0
 ·simp [h0] at h; simp [pc105, h0]; exact h
 have hl := inT_long ha
 by_cases h1 : b = -1
 ·by_cases h2 : op = [37]
  ·simp [h1, h2] at h; simp [pc105, h1, h2]; exact h
  ·have hkw := kind_wrap (v := -a) ht
   simp [h1, h2] at h
   simp [pc105, h1, h2]
   refine wrapI_calls (wrap64_range _) ?_
   rw [hkw]
   by_cases h4 : (kindOf t).wrap (-a) = a
   ·by_cases h5 : a = 0
    ·subst h5
     have k0 : (kindOf t).wrap 0 = 0 := by simpa using h4
     simp [k0] at h
     have z : IntKind.wrap .i64 0 = 0 := by decide
     simp [k0, z]
     exact h
    ·simp [h4, h5] at h
     simp [h4, h5]
     exact h
   ·have e : (kindOf t).wrap (-a) = IntKind.i64.wrap (-a) := by
     rcases ht with rfl | rfl
     ·have k := inT1 ha
      have hne : a ≠ -(2 ^ 31) := fun e => h4 (by subst e; decide)
      exact (w32_id (by omega)).trans (w64_id (by omega)).symm
     ·rfl
    simp [h4] at h
    simp [h4]
    rw [← e]
    exact h
 ·by_cases h2 : op = [37]
  ·simp [h0, h1, h2] at h; simp [pc105, h0, h1, h2]; exact h
  ·simp [h0, h1, h2] at h; simp [pc105, h0, h1, h2]; rw [← kind_div ht ha h0 h1]; exact h
theorem shift_mask {b : Int} {n : Nat} (hn : n < 64) : bits2 .u64 (· &&& ·) (IntKind.u64.wrap b) (IntKind.u64.wrap (((2 ^ n - 1 : Nat) : Int))) = b % 2 ^ n := by
 have h1 : (2 ^ n - 1 : Nat) < 2 ^ 64 := by
  have := Nat.pow_lt_pow_right (a := 2) (by decide) hn; omega
 unfold bits2
 rw [u64_nat h1, natOf_eq b]
 have e1 : (BitVec.ofInt IntKind.u64.bits ((natOf b : Nat) : Int)).toNat = natOf b := by
  simp [IntKind.bits]
  have := natOf_lt b; omega
 have e2 : (BitVec.ofInt IntKind.u64.bits ((2 ^ n - 1 : Nat) : Int)).toNat = 2 ^ n - 1 := by
  simp only [IntKind.bits, BitVec.ofInt_natCast, BitVec.toNat_ofNat]
  exact Nat.mod_eq_of_lt h1
 rw [BitVec.toNat_and, e1, e2, Nat.and_two_pow_sub_one_eq_mod, u64_nat (Nat.lt_of_le_of_lt (Nat.mod_le _ _) (natOf_lt b))]
 unfold natOf
 have hd : ((2 : Int) ^ n) ∣ 2 ^ 64 := ⟨2 ^ (64 - n), by rw [← Int.pow_add]; congr 1; omega⟩
 have h0 := Int.emod_nonneg b (show (2 ^ 64 : Int) ≠ 0 by decide)
 rw [Int.natCast_emod, Int.toNat_of_nonneg h0]
 rw [show (((2 ^ n : Nat) : Int)) = 2 ^ n by norm_cast]
 exact Int.emod_emod_of_dvd b hd
theorem dbl {t x : Int} (ht : t = 1 ∨ t = 2) : (kindOf t).wrap ((kindOf t).wrap x + (kindOf t).wrap x) = (kindOf t).wrap (x * 2) := by
 rcases ht with rfl | rfl
 ·simp only [kindOf, if_true]; rw [wrap32_eq, wrap32_eq, wrap32_eq]; omega
 ·simp only [kindOf]; rw [if_neg (by decide), wrap64_eq, wrap64_eq, wrap64_eq]; omega
theorem tdiv2 (a : Int) : a.tdiv 2 = if 0 ≤ a ∨ (2 : Int) ∣ a then a / 2 else a / 2 + 1 := by
 have h := @Int.tdiv_eq_ediv a 2
 rw [h, show Int.sign 2 = 1 from rfl]
 split <;> simp
theorem tmod2 (a : Int) : a.tmod 2 = if 0 ≤ a ∨ (2 : Int) ∣ a then a % 2 else a % 2 - 2 := by
 have h := @Int.tmod_eq_emod a 2
 rw [h]
 split <;> simp
theorem half_floor (a : Int) : (if a < 0 ∧ ¬ a.tmod 2 = 0 then a.tdiv 2 - 1 else a.tdiv 2) = a.fdiv 2 := by
 rw [Int.fdiv_eq_ediv_of_nonneg a (by decide), tdiv2, tmod2]
 by_cases hc : 0 ≤ a ∨ (2 : Int) ∣ a
 ·rw [if_pos hc, if_pos hc]; split <;> omega
 ·rw [if_neg hc, if_neg hc]; split <;> omega
theorem half_range {y : Int} (h : -(2 ^ 63) ≤ y ∧ y < 2 ^ 63) : IntKind.wrap .i64 (y.tdiv 2) = y.tdiv 2 ∧ IntKind.wrap .i64 (y.tdiv 2 - 1) = y.tdiv 2 - 1 := by
 have e := tdiv2 y
 constructor <;> (rw [wrap_i64] <;> (rw [e]; split <;> omega))
theorem tmodS (a : Int) : (a.tmod 32 = if 0 ≤ a ∨ (32 : Int) ∣ a then a % 32 else a % 32 - 32) ∧ (a.tmod 64 = if 0 ≤ a ∨ (64 : Int) ∣ a then a % 64 else a % 64 - 64) := by
 have h := @Int.tmod_eq_emod a 32
 have k := @Int.tmod_eq_emod a 64
 rw [h, k]
 constructor <;> split <;> simp
def SHI (t a b : Int) (op : List UInt8) (n : Nat) (fr : Nat → AV) : Prop := ∃ i : Nat, i ≤ n ∧ fr 0 = .int .i64 t ∧ fr 1 = .str op ∧ fr 2 = .int .i64 (if op = [60, 60] then (kindOf t).wrap (a * 2 ^ i) else a.fdiv (2 ^ i)) ∧ fr 10 = .int .i64 (n : Int) ∧ fr 11 = .int .i64 (i : Int)
theorem shifted_calls {t a b : Int} {op : List UInt8} (ht : t = 1 ∨ t = 2) (ha : inT t a = true) (hb : -(2 ^ 63) ≤ b ∧ b < 2 ^ 63) {n : Nat} (hn : b % widthW t = (n : Int)) (h : R (.ret (.int .i64 (if op = [60, 60] then (kindOf t).wrap (a * 2 ^ n) else a.fdiv (2 ^ n)))) σ) :
  ACalls Tryz.prog G 107 [.int .i64 t, .str op, .int .i64 a, .int .i64 b] σ R := by
 refine calls107 rfl ?_
 have hl := inT_long ha
 have hW : widthW t = 32 ∨ widthW t = 64 := by rcases ht with rfl | rfl <;> simp [widthW]
 have hnn : n < 64 := by rcases hW with e | e <;> rw [e] at hn <;> omega
 simp [pc107]
 refine width_calls ?_
 have key : ∀ fr τ, SHI t a b op n fr → τ = σ → ALoop Tryz.prog G 47 pc107_l1 (ablock 0 (athen (avc Tryz.prog G 47 pc107_r1 (afin Tryz.prog [ResultVar.tmp 8] R)) (afin Tryz.prog [ResultVar.tmp 8] R))) fr τ := by
  intro fr τ h0 h1
  refine aloop (fun fr τ => SHI t a b op n fr ∧ τ = σ) (MU 11 (n + 1)) ⟨h0, h1⟩ fun fr τ hI => ?_
  obtain ⟨⟨i, hi, f0, f1, f2, f10, f11⟩, rfl⟩ := hI
  by_cases hlt : i < n
  ·have w1 : IntKind.wrap .i64 ((i : Int) + 1) = ((i + 1 : Nat) : Int) := by rw [wrap_i64] <;> omega
   have fin : ∀ fr' : Nat → AV, fr' 0 = .int .i64 t → fr' 1 = .str op → fr' 2 = .int .i64 (if op = [60, 60] then (kindOf t).wrap (a * 2 ^ (i + 1)) else a.fdiv (2 ^ (i + 1))) → fr' 10 = .int .i64 (n : Int) → fr' 11 = .int .i64 ((i : Int) + 1) → SHI t a b op n fr' ∧ MU 11 (n + 1) fr' τ < MU 11 (n + 1) fr τ := fun fr' g0 g1 g2 g10 g11 => by
    refine ⟨⟨i + 1, by omega, g0, g1, g2, g10, by rw [g11]; simp⟩, ?_⟩
    simp only [MU, g11, f11]; omega
   by_cases ho : op = [60, 60]
   ·have e := dbl (x := a * 2 ^ i) ht
    have e2 : a * 2 ^ i * 2 = a * 2 ^ (i + 1) := by rw [Int.pow_succ, Int.mul_assoc]
    rw [e2] at e
    subst ho
    rw [if_pos rfl] at f2 fin
    simp [pc107_l1, f0, f1, f2, f10, f11, hlt]
    refine wrapI_calls (wrap64_range _) ?_
    rw [kind_wrap ht, e]
    simp [w1, f11]
    refine fin _ ?_ ?_ ?_ ?_ ?_ <;> simp [f0, f1, f10]
   ·have e := half_floor (a.fdiv (2 ^ i))
    have e2 : (a.fdiv (2 ^ i)).fdiv 2 = a.fdiv (2 ^ (i + 1)) := by
     have p : (0 : Int) ≤ 2 ^ i := Int.le_of_lt (Int.pow_pos (by decide))
     have p2 : (0 : Int) ≤ 2 ^ (i + 1) := Int.le_of_lt (Int.pow_pos (by decide))
     rw [Int.fdiv_eq_ediv_of_nonneg _ p, Int.fdiv_eq_ediv_of_nonneg _ (by decide), Int.fdiv_eq_ediv_of_nonneg _ p2, Int.pow_succ, Int.ediv_ediv_of_nonneg p]
    rw [e2] at e
    have hr : -(2 ^ 63) ≤ a.fdiv (2 ^ i) ∧ a.fdiv (2 ^ i) < 2 ^ 63 := by
     have p : (0 : Int) < 2 ^ i := Int.pow_pos (by decide)
     rw [Int.fdiv_eq_ediv_of_nonneg _ (by omega)]
     constructor
     ·refine (Int.le_ediv_iff_mul_le p).2 ?_
      generalize (2 : Int) ^ i = P at *
      omega
     ·refine Int.ediv_lt_of_lt_mul p ?_
      generalize (2 : Int) ^ i = P at *
      omega
    rw [if_neg ho] at f2 fin
    generalize a.fdiv (2 ^ i) = y at *
    by_cases hy : y < 0
    ·by_cases hm : y.tmod 2 = 0
     ·rw [if_neg (fun q => q.2 hm)] at e
      have w2 := (half_range hr).1
      rw [e] at w2
      simp [pc107_l1, f0, f1, f2, f10, f11, hlt, ho, hy, hm, w1, w2, e]
      refine fin _ ?_ ?_ ?_ ?_ ?_ <;> simp [f0, f1, f10, e]
     ·rw [if_pos ⟨hy, hm⟩] at e
      have w2 := (half_range hr).1
      have w3 := (half_range hr).2
      rw [e] at w3
      simp [pc107_l1, f0, f1, f2, f10, f11, hlt, ho, hy, hm, w1, w2, w3, e]
      refine fin _ ?_ ?_ ?_ ?_ ?_ <;> simp [f0, f1, f10, e]
    ·rw [if_neg (fun q => hy q.1)] at e
     have w2 := (half_range hr).1
     rw [e] at w2
     simp [pc107_l1, f0, f1, f2, f10, f11, hlt, ho, hy, w1, w2, e]
     refine fin _ ?_ ?_ ?_ ?_ ?_ <;> simp [f0, f1, f10, e]
  ·have he : i = n := by omega
   subst he
   simp [pc107_l1, pc107_r1, f2, f10, f11]
   exact h
 have k1 : (if ht : t = 1 ∨ t = 2 then True else True) := by split <;> trivial
 have hz : a * 2 ^ 0 = a := by simp
 have hk := (kind_id ht ha).1
 have hst : ∀ fr : Nat → AV, fr 0 = .int .i64 t → fr 1 = .str op → fr 2 = .int .i64 a → fr 10 = .int .i64 (n : Int) → fr 11 = .int .i64 0 → SHI t a b op n fr := fun fr g0 g1 g2 g10 g11 => by
  refine ⟨0, by omega, g0, g1, ?_, g10, g11⟩
  rw [g2]; simp [hk, Int.fdiv_one]
 clear h
 rcases hW with e | e <;> rw [e] at hn ⊢
 ·have h1 := (tmodS b).1
  by_cases hc : b.tmod 32 < 0
  ·have w1 : IntKind.wrap .i64 (b.tmod 32 + 32) = (n : Int) := by
    split at h1 <;> (rw [wrap_i64] <;> omega)
   simp [hc, w1]
   exact key _ _ (hst _ (by simp) (by simp) (by simp) (by simp) (by simp)) rfl
  ·have w1 : b.tmod 32 = (n : Int) := by
    split at h1 <;> omega
   have hc2 : ¬ (n : Int) < 0 := by omega
   simp [hc2, w1]
   exact key _ _ (hst _ (by simp) (by simp) (by simp) (by simp) (by simp)) rfl
 ·have h1 := (tmodS b).2
  by_cases hc : b.tmod 64 < 0
  ·have w1 : IntKind.wrap .i64 (b.tmod 64 + 64) = (n : Int) := by
    split at h1 <;> (rw [wrap_i64] <;> omega)
   simp [hc, w1]
   exact key _ _ (hst _ (by simp) (by simp) (by simp) (by simp) (by simp)) rfl
  ·have w1 : b.tmod 64 = (n : Int) := by
    split at h1 <;> omega
   have hc2 : ¬ (n : Int) < 0 := by omega
   simp [hc2, w1]
   exact key _ _ (hst _ (by simp) (by simp) (by simp) (by simp) (by simp)) rfl
end
end Go.Proofs.YthifgodgfhbnfaaGreatDoor.Rf
set_option linter.unusedSimpArgs false
set_option linter.unusedVariables false
namespace Go.Proofs.YthifgodgfhbnfaaGreatDoor.Rf
open Go Go.Abs Go.Proofs.YthifgodgfhbnfaaGreatDoor
theorem binW_eq {t a b : Int} {op : List UInt8} (ht : t = 1 ∨ t = 2) (ha : inT t a = true) (hb : inT t b = true) : binW t op a b = binK (kindOf t) op a b (widthW t) := by
 rcases ht with rfl | rfl
 ·have ha' := inT1 ha
  have hb' := inT1 hb
  have r : -(2 ^ 31) ≤ (binK .i32 op a b 32).1 ∧ (binK .i32 op a b 32).1 < 2 ^ 31 :=
   binK_in (R := fun n => -(2 ^ 31) ≤ n ∧ n < 2 ^ 31) (by omega) (by omega) wrap32_range (fun a n h => fdiv_range h.1 h.2 (by omega) (by omega)) (fun a b h => tmod_range h.1 h.2 (by omega) (by omega)) ha'
  unfold binW
  rw [if_pos rfl, w32_id ha', w32_id hb', w64_id (by omega)]
  simp [kindOf, widthW]
 ·unfold binW
  rw [if_neg (by decide), if_pos rfl]
  simp [kindOf, widthW]
theorem bits_kind {t a b : Int} (ht : t = 1 ∨ t = 2) (C : Nat) (f : (k : IntKind) → BitVec k.bits → BitVec k.bits → BitVec k.bits) (h64 : (f .i64 (BitVec.ofInt 64 a) (BitVec.ofInt 64 b)).toNat = C) (h32 : (f .i32 (BitVec.ofInt 32 a) (BitVec.ofInt 32 b)).toNat = C % 2 ^ 32) {W : Nat} (hW : widthW t = (W : Int)) (hC : C < 2 ^ 64) :
  wrapT t (IntKind.i64.wrap ((C % 2 ^ W : Nat) : Int)) = bits2 (kindOf t) (f (kindOf t)) a b := by
 rcases ht with rfl | rfl
 ·have e : W = 32 := by simp [widthW] at hW; omega
  subst e
  rw [wrapT1, w32_64]
  unfold bits2 kindOf
  simp only [if_true]
  congr 2
  exact h32.symm
 ·have e : W = 64 := by simp [widthW] at hW; omega
  subst e
  rw [wrapT2, Nat.mod_eq_of_lt hC]
  unfold bits2 kindOf
  rw [if_neg (by decide)]
  congr 2
  exact h64.symm
theorem ofInt32 (a : Int) : BitVec.ofInt 32 a = (BitVec.ofInt 64 a).setWidth 32 := by
 apply BitVec.eq_of_toNat_eq
 simp only [BitVec.toNat_setWidth, BitVec.toNat_ofInt]
 omega
theorem and32 (a b : Int) : (BitVec.ofInt 32 a &&& BitVec.ofInt 32 b).toNat = (BitVec.ofInt 64 a &&& BitVec.ofInt 64 b).toNat % 2 ^ 32 := by
 rw [ofInt32, ofInt32, ← BitVec.setWidth_and, BitVec.toNat_setWidth]
theorem or32 (a b : Int) : (BitVec.ofInt 32 a ||| BitVec.ofInt 32 b).toNat = (BitVec.ofInt 64 a ||| BitVec.ofInt 64 b).toNat % 2 ^ 32 := by
 rw [ofInt32, ofInt32, ← BitVec.setWidth_or, BitVec.toNat_setWidth]
theorem xor32 (a b : Int) : (BitVec.ofInt 32 a ^^^ BitVec.ofInt 32 b).toNat = (BitVec.ofInt 64 a ^^^ BitVec.ofInt 64 b).toNat % 2 ^ 32 := by
 rw [ofInt32, ofInt32, ← BitVec.setWidth_xor, BitVec.toNat_setWidth]
theorem width_nat {t : Int} (ht : t = 1 ∨ t = 2) : ∃ W : Nat, widthW t = (W : Int) ∧ W ≤ 64 ∧ ∃ n : Nat, n < 64 ∧ widthW t = 2 ^ n ∧ widthW t - 1 = ((2 ^ n - 1 : Nat) : Int) ∧ W ≤ (kindOf t).bits := by
 rcases ht with rfl | rfl
 ·exact ⟨32, by simp [widthW], by decide, 5, by decide, by simp [widthW], by simp [widthW], by decide⟩
 ·exact ⟨64, by simp [widthW], by decide, 6, by decide, by simp [widthW], by simp [widthW], by decide⟩
section
variable {G : Env} {σ : AS} {R : Out → AS → Prop}
set_option maxRecDepth 20000 in
set_option maxHeartbeats 4000000 in
theorem binI_calls {t a b : Int} {op : List UInt8} (ht : t = 1 ∨ t = 2) (ha : inT t a = true) (hb : inT t b = true) (h : R (.ret (.tuple [.int .i64 (binW t op a b).1, .int .i64 (binW t op a b).2])) σ) :
  ACalls Tryz.prog G 87 [.int .i64 t, .str op, .int .i64 a, .int .i64 b] σ R := by
 refine calls87 rfl ?_
 rw [binW_eq ht ha hb] at h
 have la := inT_long ha
 have lb := inT_long hb
 have ia := (kind_id ht ha).2
 have ib := (kind_id ht hb).2
 obtain ⟨W, hW, hW2, n, hn, hWn, hWm, hWb⟩ := width_nat ht
 have hsh : bits2 .u64 (· &&& ·) (IntKind.u64.wrap b) (IntKind.u64.wrap (widthW t - 1)) = b % widthW t := by
  rw [hWm, hWn]; exact shift_mask hn
 have hpos : (0 : Int) < widthW t := by rw [hWn]; exact Int.pow_pos (by decide)
 have hm0 := Int.emod_nonneg b (show widthW t ≠ 0 by omega)
 have hm1 := Int.emod_lt_of_pos b hpos
 obtain ⟨q, hq⟩ := Int.eq_ofNat_of_zero_le hm0
 have hqb : min q (kindOf t).bits = q := by omega
 have t12 : ¬ (¬ t = 1 ∧ ¬ t = 2) := by omega
 have kw : ∀ v, wrapT t (IntKind.i64.wrap v) = (kindOf t).wrap v := fun v => kind_wrap ht
 rcases ht with rfl | rfl
 all_goals
  simp [pc87]
  refine wrapI_calls la ?_
  simp [ia]
  refine wrapI_calls lb ?_
  rw [ib]
  by_cases h1 : op = [43]
  ·subst h1; simp [binK, doesW] at h; simp; refine wrapI_calls (wrap64_range _) ?_; rw [kw]; simp; exact h
  by_cases h2 : op = [45]
  ·subst h2; simp [binK, doesW] at h; simp; refine wrapI_calls (wrap64_range _) ?_; rw [kw]; simp; exact h
  by_cases h3 : op = [42]
  ·subst h3; simp [binK, doesW] at h; simp; refine wrapI_calls (wrap64_range _) ?_; rw [kw]; simp; exact h
  by_cases h4 : op = [47]
  ·subst h4; simp [binK] at h; simp; refine divided_calls (by decide) ha ?_; simp; exact h
  by_cases h5 : op = [37]
  ·subst h5; simp [binK] at h; simp; refine divided_calls (by decide) ha ?_; simp; exact h
  by_cases h6 : op = [38]
  ·subst h6; simp [binK, doesW] at h; simp
   refine bits_calls (W := W) (C := ((BitVec.ofInt 64 a) &&& (BitVec.ofInt 64 b)).toNat) hW hW2 (fun i _ => by simp [opG, natOf_bv, BitVec.toNat_and, Nat.testBit_and]) ?_
   rw [bits_kind (a := a) (b := b) (by decide) (((BitVec.ofInt 64 a) &&& (BitVec.ofInt 64 b)).toNat) (fun k x y => x &&& y) rfl (and32 a b) hW (BitVec.isLt _)]
   simp; exact h
  by_cases h7 : op = [124]
  ·subst h7; simp [binK, doesW] at h; simp
   refine bits_calls (W := W) (C := ((BitVec.ofInt 64 a) ||| (BitVec.ofInt 64 b)).toNat) hW hW2 (fun i _ => by simp [opG, natOf_bv, BitVec.toNat_or, Nat.testBit_or]) ?_
   rw [bits_kind (a := a) (b := b) (by decide) (((BitVec.ofInt 64 a) ||| (BitVec.ofInt 64 b)).toNat) (fun k x y => x ||| y) rfl (or32 a b) hW (BitVec.isLt _)]
   simp; exact h
  by_cases h8 : op = [94]
  ·subst h8; simp [binK, doesW] at h; simp
   refine bits_calls (W := W) (C := ((BitVec.ofInt 64 a) ^^^ (BitVec.ofInt 64 b)).toNat) hW hW2 (fun i _ => by simp [opG, natOf_bv, BitVec.toNat_xor, Nat.testBit_xor]) ?_
   rw [bits_kind (a := a) (b := b) (by decide) (((BitVec.ofInt 64 a) ^^^ (BitVec.ofInt 64 b)).toNat) (fun k x y => x ^^^ y) rfl (xor32 a b) hW (BitVec.isLt _)]
   simp; exact h
  by_cases h9 : op = [60, 60]
  ·subst h9; simp [binK, doesW, hsh, hq, hqb] at h; simp; refine shifted_calls (by decide) ha lb hq ?_; simp; exact h
  by_cases h10 : op = [62, 62]
  ·subst h10; simp [binK, doesW, hsh, hq, hqb] at h; simp; refine shifted_calls (by decide) ha lb hq ?_; simp; exact h
  by_cases h11 : op = [61, 61]
  ·subst h11; simp [binK, doesW] at h; simp; refine oneI_calls ?_; simp; exact h
  by_cases h12 : op = [33, 61]
  ·subst h12; simp [binK, doesW] at h; simp; refine oneI_calls ?_; simp; exact h
  by_cases h13 : op = [60]
  ·subst h13; simp [binK, doesW] at h; simp; refine oneI_calls ?_; simp; exact h
  by_cases h14 : op = [60, 61]
  ·subst h14; simp [binK, doesW] at h; simp; refine oneI_calls ?_; simp; exact h
  by_cases h15 : op = [62]
  ·subst h15; simp [binK, doesW] at h; simp; refine oneI_calls ?_; simp; exact h
  by_cases h16 : op = [62, 61]
  ·subst h16; simp [binK, doesW] at h; simp; refine oneI_calls ?_; simp; exact h
  simp [binK, doesW, h1, h2, h3, h4, h5, h6, h7, h8, h9, h10, h11, h12, h13, h14, h15, h16] at h
  simp [h1, h2, h3, h4, h5, h6, h7, h8, h9, h10, h11, h12, h13, h14, h15, h16]
  exact h
end
end Go.Proofs.YthifgodgfhbnfaaGreatDoor.Rf
set_option linter.unusedSimpArgs false
set_option linter.unusedVariables false
namespace Go.Proofs.YthifgodgfhbnfaaGreatDoor.Rf
open Go Go.Abs Go.Proofs.YthifgodgfhbnfaaGreatDoor
def leftV : List AV := signs.map fun p => .str p.1
def rightV : List AV := signs.map fun p => .str p.2
def placeOf : List (List UInt8 × List UInt8) → List UInt8 → Nat → Int
 | [], _, _ => -1
 | (x, _) :: r, s, i => if x = s then (i : Int) else placeOf r s (i + 1)
section
variable {G : Env} {σ : AS} {R : Out → AS → Prop}
set_option maxRecDepth 20000 in
theorem signs_calls (h : R (.ret (.tuple [.sl (.stat true) 1 leftV, .sl (.stat true) 1 rightV])) σ) : ACalls Tryz.prog G 86 [] σ R := by
 refine calls86 rfl ?_
 simp [pc86]
 simpa [leftV, rightV, signs] using h
def SGI (s : List UInt8) (σ : AS) (a : Nat → AV) (τ : AS) : Prop := ∃ i : Nat, i ≤ 16 ∧ a 0 = .str s ∧ a 3 = .sl (.stat true) 1 leftV ∧ a 5 = .int .i64 (i : Int) ∧ placeOf (signs.drop i) s i = placeOf signs s 0 ∧ τ = σ
set_option maxRecDepth 20000 in
theorem signI_calls {s : List UInt8} (h : R (.ret (.int .i64 (placeOf signs s 0))) σ) : ACalls Tryz.prog G 88 [.str s] σ R := by
 refine calls88 rfl ?_
 simp [pc88]
 refine signs_calls ?_
 simp
 have hl : leftV.length = 16 := rfl
 refine aloop (SGI s σ) (MU 5 17) ⟨0, by omega, by simp, by simp, by simp, rfl, rfl⟩ fun a τ hI => ?_
 obtain ⟨i, hi, a0, a3, a5, hs, rfl⟩ := hI
 by_cases hlt : i < 16
 ·have hsl : i < signs.length := hlt
  have hd : signs.drop i = signs[i] :: signs.drop (i + 1) := List.drop_eq_getElem_cons hsl
  have hg : leftV[i]? = some (.str (signs[i]).1) := by unfold leftV; simp [hsl]
  have hlt' : (i : Int) < 16 := by omega
  have hw3 : IntKind.wrap .i64 ((i : Int) + 1) = ((i + 1 : Nat) : Int) := by rw [wrap_i64] <;> omega
  rw [hd] at hs
  generalize signs[i] = p at *
  obtain ⟨p1, p2⟩ := p
  rw [placeOf] at hs
  by_cases he : p1 = s
  ·rw [if_pos he] at hs
   rw [← hs] at h
   simp [pc88_l1, a0, a3, a5, hl, hlt', hg, he]
   exact h
  ·rw [if_neg he] at hs
   simp [pc88_l1, a0, a3, a5, hl, hlt', hg, he, hw3]
   refine ⟨⟨i + 1, by omega, by simp [a0], by simp [a3], by simp, hs, rfl⟩, ?_⟩
   simp [MU, a5]; omega
 ·have he : i = 16 := by omega
  subst he
  have : placeOf signs s 0 = -1 := by rw [← hs]; rfl
  rw [this] at h
  simp [pc88_l1, pc88_r1, a3, a5, hl]
  exact h
theorem value_calls {t : Int} (h : R (.ret (.bool (numberB t))) σ) : ACalls Tryz.prog G 29 [.int .i64 t] σ R := by
 refine calls29 rfl ?_
 unfold numberB at h
 by_cases h1 : t = 1
 ·simp [h1] at h; simp [pc29, h1]; exact h
 ·by_cases h2 : t = 2
  ·simp [h2] at h; simp [pc29, h2]; exact h
  ·simp [h1, h2] at h; simp [pc29, h1, h2]; exact h
end
theorem place_spec : ∀ (l : List (List UInt8 × List UInt8)) (s : List UInt8) (i : Nat), (∀ p ∈ l, p.2 ≠ []) → (placeOf l s i = -1 ∧ signOf l s = []) ∨ ∃ j : Nat, placeOf l s i = ((i + j : Nat) : Int) ∧ j < l.length ∧ (l.map fun p => AV.str p.2)[j]? = some (.str (signOf l s)) ∧ signOf l s ≠ []
 | [], s, i, _ => .inl ⟨rfl, rfl⟩
 | (x, y) :: r, s, i, h => by
  rw [placeOf, signOf]
  by_cases he : x = s
  ·rw [if_pos he, if_pos he]
   exact .inr ⟨0, by simp, by simp, by simp, h (x, y) (by simp)⟩
  ·rw [if_neg he, if_neg he]
   rcases place_spec r s (i + 1) (fun p hp => h p (by simp [hp])) with h | ⟨j, h1, h2, h3, h4⟩
   ·exact .inl h
   ·exact .inr ⟨j + 1, by rw [h1]; congr 1; omega, by simp; omega, by simpa using h3, h4⟩
theorem sign_place (s : List UInt8) : (placeOf signs s 0 = -1 ∧ signOf signs s = []) ∨ ∃ j : Nat, placeOf signs s 0 = (j : Int) ∧ j < 16 ∧ rightV[j]? = some (.str (signOf signs s)) ∧ signOf signs s ≠ [] := by
 rcases place_spec signs s 0 (by decide) with h | ⟨j, h1, h2, h3, h4⟩
 ·exact .inl h
 ·exact .inr ⟨j, by simpa using h1, h2, h3, h4⟩
end Go.Proofs.YthifgodgfhbnfaaGreatDoor.Rf
set_option linter.unusedSimpArgs false
set_option linter.unusedVariables false
namespace Go.Proofs.YthifgodgfhbnfaaGreatDoor.Rf
open Go Go.Abs Go.Proofs.YthifgodgfhbnfaaGreatDoor
theorem place_mem : ∀ (l : List (List UInt8 × List UInt8)) (s : List UInt8) (i : Nat), 0 ≤ placeOf l s i → ∃ p ∈ l, p.1 = s
 | [], s, i, h => by simp [placeOf] at h
 | (x, y) :: r, s, i, h => by
  rw [placeOf] at h
  by_cases he : x = s
  ·exact ⟨_, List.mem_cons_self .., he⟩
  ·rw [if_neg he] at h
   obtain ⟨p, h1, h2⟩ := place_mem r s _ h
   exact ⟨p, List.mem_cons_of_mem _ h1, h2⟩
set_option maxRecDepth 100000 in
theorem place_all : ∀ p ∈ signs, decide (10 ≤ placeOf signs p.1 0) = cmpB p.1 := by decide
theorem place_cmp {s : List UInt8} (h : 0 ≤ placeOf signs s 0) : decide (10 ≤ placeOf signs s 0) = cmpB s := by
 obtain ⟨p, h1, rfl⟩ := place_mem _ _ _ h
 exact place_all p h1
theorem place_sign (s : List UInt8) : decide (0 ≤ placeOf signs s 0) = !(signOf signs s == []) := by
 rcases sign_place s with ⟨h1, h2⟩ | ⟨j, h1, _, _, h2⟩
 ·rw [h1, h2]; rfl
 ·rw [h1]
  have : ¬ (signOf signs s == []) = true := by simpa using h2
  simp [this]
section
variable {G : Env} {fs : List F} {mm mn : Int} {xl : Nat} {f : F} {ls : List Int} {E : Int} {σ : AS} {lv : AV} {s : St} {R : Out → AS → Prop}
set_option maxHeartbeats 1000000 in
theorem formI_calls {w : W} (h : ∀ σ', Adds σ σ' → R (.ret (.bool (formB w))) σ') : ACalls Tryz.prog G 65 [w.av] σ R := by
 refine calls65 rfl ?_
 obtain ⟨wop, wty, wn, wbody, wother, wname⟩ := w
 have h := h (σ.newO [.int .i64 wop, .int .i64 wty, .int .i64 wn, .int .i64 wbody, .int .i64 wother, .str wname]) (Adds.refl σ).newO
 by_cases h1 : wop = 1
 ·simp [pc65, W.av, W.cs, h1]
  exact value_calls (by simpa [formB, h1, W.cs] using h)
 by_cases h5 : wop = 5
 ·simp [pc65, W.av, W.cs, h5]
  exact value_calls (by simpa [formB, h5, W.cs] using h)
 by_cases h4 : wop = 4
 ·have hp := place_sign wname
  subst h4
  simp [formB] at h
  cases hn : numberB wty with
  | false =>
   simp [pc65, W.av, W.cs]
   refine value_calls ?_
   rw [hn] at h
   simp [hn]
   simpa using h
  | true =>
   simp [pc65, W.av, W.cs]
   refine value_calls ?_
   rw [hn] at h
   simp [hn]
   refine signI_calls ?_
   simp
   rw [hp]
   simpa using h
 by_cases h8 : wop = 8 ∨ wop = 9
 ·have e : formB ⟨wop, wty, wn, wbody, wother, wname⟩ = bytesB wty wn := by unfold formB; simp only; rw [if_neg (by omega), if_neg (by omega), if_pos h8]
  rw [e] at h
  have go : ∀ b, R (.ret (.bool b)) (σ.newO [.int .i64 wop, .int .i64 wty, .int .i64 wn, .int .i64 wbody, .int .i64 wother, .str wname]) = R (.ret (.bool b)) (σ.newO [.int .i64 wop, .int .i64 wty, .int .i64 wn, .int .i64 wbody, .int .i64 wother, .str wname]) := fun _ => rfl
  unfold bytesB at h
  by_cases t1 : wty = 1
  ·subst t1
   by_cases k1 : wn = 1
   ·subst k1; rcases h8 with rfl | rfl <;> simp [pc65, W.av, W.cs] <;> simpa using h
   by_cases k4 : wn = 4
   ·subst k4; rcases h8 with rfl | rfl <;> simp [pc65, W.av, W.cs] <;> simpa using h
   rcases h8 with rfl | rfl <;> simp [pc65, W.av, W.cs, k1, k4] <;> simpa [k1, k4] using h
  ·by_cases t2 : wty = 2
   ·subst t2
    by_cases k8 : wn = 8
    ·subst k8; rcases h8 with rfl | rfl <;> simp [pc65, W.av, W.cs] <;> simpa using h
    rcases h8 with rfl | rfl <;> simp [pc65, W.av, W.cs, k8] <;> simpa [k8] using h
   rcases h8 with rfl | rfl <;> simp [pc65, W.av, W.cs, t1, t2] <;> simpa [t1, t2] using h
 have e : formB ⟨wop, wty, wn, wbody, wother, wname⟩ = (decide (1 ≤ wop) && decide (wop ≤ 18)) := by unfold formB; simp only; rw [if_neg (by omega), if_neg h4, if_neg h8]
 rw [e] at h
 have k8 : ¬ wop = 8 := fun e => h8 (.inl e)
 have k9 : ¬ wop = 9 := fun e => h8 (.inr e)
 by_cases q1 : 1 ≤ wop
 ·by_cases q2 : wop ≤ 18
  ·simp [pc65, W.av, W.cs, h1, h5, h4, k8, k9, q1, q2]; simpa [q1, q2] using h
  ·simp [pc65, W.av, W.cs, h1, h5, h4, k8, k9, q1, q2]; simpa [q1, q2] using h
 ·simp [pc65, W.av, W.cs, h1, h5, h4, k8, k9, q1]; simpa [q1] using h
theorem headI_calls {fsv : AV} (hv : FsV fsv fs) (hl : fs.length ≤ 2 ^ 38) {n : Int} (h : ∀ tv σ', IntsV tv ((headOf fs n).getD ([], 0)).1 → Adds σ σ' → R (.ret (.tuple [tv, .int .i64 ((headOf fs n).getD ([], 0)).2, .bool (headOf fs n).isSome])) σ') :
  ACalls Tryz.prog G 93 [.agg [fsv, .int .i64 mm, .int .i64 mn], .int .i64 n] σ R := by
 refine calls93 rfl ?_
 have v1 := hv.one
 have v2 := hv.len
 have A1 : Adds σ (σ.newO [fsv, .int .i64 mm, .int .i64 mn]) := (Adds.refl σ).newO
 by_cases n0 : n = 0
 ·subst n0
  simp [pc93, v1]
  exact h .nilsl _ (.inl ⟨rfl, rfl⟩) A1
 by_cases n1 : n = 1
 ·subst n1
  simp [pc93, v1]
  exact h (.sl (.stat true) 1 [.int .i64 2]) _ (.inr ⟨true, rfl⟩) A1
 by_cases n2 : n = 2
 ·subst n2
  simp [pc93, v1]
  exact h (.sl (.stat true) 1 [.int .i64 1]) _ (.inr ⟨true, rfl⟩) A1
 have w1 : IntKind.wrap .i64 ((fs.length : Int) + 2) = (fs.length : Int) + 2 := by rw [wrap_i64] <;> omega
 by_cases hn : n < 0
 ·have e : headOf fs n = none := by unfold headOf; simp [n0, n1, n2, hn]
  rw [e] at h
  simp [pc93, v1, n0, n1, n2, hn]
  exact h .nilsl _ (.inl ⟨rfl, rfl⟩) A1
 by_cases hn2 : (fs.length : Int) + 2 < n
 ·have e : headOf fs n = none := by unfold headOf; simp [n0, n1, n2, hn]; omega
  rw [e] at h
  simp [pc93, v1, v2, n0, n1, n2, hn, w1, hn2]
  exact h .nilsl _ (.inl ⟨rfl, rfl⟩) A1
 obtain ⟨k, rfl⟩ : ∃ k : Nat, n = (k : Int) + 3 := ⟨(n - 3).toNat, by omega⟩
 have hi : k < fs.length := by omega
 have e : headOf fs ((k : Int) + 3) = some (fs[k].params, fs[k].type) := by unfold headOf; simp [n0, n1, n2, hn, hi]
 rw [e] at h
 obtain ⟨b, fv, hfv, hix⟩ := hv.at hi
 have w2 : IntKind.wrap .i64 (k : Int) = (k : Int) := by rw [wrap_i64] <;> omega
 have w3 : IntKind.wrap .i64 ((k : Int) + 3 - 3) = (k : Int) := by rw [wrap_i64] <;> omega
 generalize fs[k] = g at *
 obtain ⟨pv, lv, tv, rfl, hp, hl2, ht⟩ := hfv
 have p1 := hp.one
 have l1 := hl2.one
 have t1 := ht.one
 simp [pc93, v1, v2, n0, n1, n2, hn, w1, hn2, w2, w3, hix, p1, l1, t1]
 exact h pv _ hp A1
theorem rangedI_calls {w : W} {deep : Int} (h : LkAt σ xl fs mm mn f ls E) (hx : xl < σ.no) (hl : fs.length ≤ 2 ^ 38) (hwn : -(2 ^ 63) ≤ w.n ∧ w.n < 2 ^ 63) (hR : ∀ σ', Adds σ σ' → R (.ret (.bool (rangedB fs ls deep w))) σ') : ACalls Tryz.prog G 66 [.ptr xl 0, w.av, .int .i64 deep] σ R := by
 refine calls66 rfl ?_
 obtain ⟨fsv, pv, lv2, tv, cv, h0, hfs, hp, hl2, ht, hc, lk⟩ := h.any
 have f1 := hfs.one
 have c1 := hc.one
 have c2 := hc.len
 obtain ⟨wop, wty, wn, wbody, wother, wname⟩ := w
 have n1 : ¬ xl = σ.no := by omega
 have A1 : Adds σ (σ.newO [.int .i64 wop, .int .i64 wty, .int .i64 wn, .int .i64 wbody, .int .i64 wother, .str wname]) := (Adds.refl σ).newO
 have h1 := hR _ A1
 unfold rangedB at hR h1
 simp only at hR h1 hwn
 by_cases o1 : wop = 1
 ·subst o1
  simp [pc66, W.av, W.cs]
  refine wrapI_calls hwn ?_
  simp
  simpa using h1
 by_cases o2 : wop = 2 ∨ wop = 3
 ·rw [if_neg o1, if_pos o2] at h1
  by_cases q1 : 0 ≤ wn
  ·by_cases q2 : wn < (ls.length : Int)
   ·rcases o2 with rfl | rfl <;> simp [pc66, W.av, W.cs, n1, h0, c1, c2, q1, q2] <;> simpa [q1, q2] using h1
   ·rcases o2 with rfl | rfl <;> simp [pc66, W.av, W.cs, n1, h0, c1, c2, q1, q2] <;> simpa [q1, q2] using h1
  ·rcases o2 with rfl | rfl <;> simp [pc66, W.av, W.cs, n1, h0, c1, c2, q1] <;> simpa [q1] using h1
 by_cases o3 : wop = 10
 ·subst o3
  simp [pc66, W.av, W.cs, n1, h0, f1]
  refine headI_calls hfs hl fun tv' σ' htv A => ?_
  have := hR _ (A1.trans A)
  have t1 := htv.one
  simp [t1]
  simpa using this
 by_cases o4 : wop = 14 ∨ wop = 15
 ·rw [if_neg o1, if_neg o2, if_neg o3, if_pos o4] at h1
  by_cases q1 : 0 ≤ wn
  ·by_cases q2 : wn ≤ deep
   ·rcases o4 with rfl | rfl <;> simp [pc66, W.av, W.cs, q1, q2] <;> simpa [q1, q2] using h1
   ·rcases o4 with rfl | rfl <;> simp [pc66, W.av, W.cs, q1, q2] <;> simpa [q1, q2] using h1
  ·rcases o4 with rfl | rfl <;> simp [pc66, W.av, W.cs, q1] <;> simpa [q1] using h1
 rw [if_neg o1, if_neg o2, if_neg o3, if_neg o4] at h1
 have a2 : ¬ wop = 2 := fun e => o2 (.inl e)
 have a3 : ¬ wop = 3 := fun e => o2 (.inr e)
 have a14 : ¬ wop = 14 := fun e => o4 (.inl e)
 have a15 : ¬ wop = 15 := fun e => o4 (.inr e)
 simp [pc66, W.av, W.cs, o1, a2, a3, o3, a14, a15]
 exact h1
end
end Go.Proofs.YthifgodgfhbnfaaGreatDoor.Rf
set_option linter.unusedSimpArgs false
set_option linter.unusedVariables false
namespace Go.Proofs.YthifgodgfhbnfaaGreatDoor.Rf
open Go Go.Abs Go.Proofs.YthifgodgfhbnfaaGreatDoor
def ruleL (fs : List F) (locals : List Int) (w : W) : List Int × Int :=
 if w.op = 1 then ([], w.ty) else if w.op = 2 then ([], localAt locals w.n) else if w.op = 3 then ([localAt locals w.n], 0) else if w.op = 4 then ([w.ty, w.ty], if cmpB w.name then 1 else w.ty)
 else if w.op = 5 then ([w.ty], 1) else if w.op = 6 then ([2], 1) else if w.op = 7 then ([1], 2) else if w.op = 8 then ([1], w.ty) else if w.op = 9 then ([1, w.ty], 0)
 else if w.op = 10 then (headOf fs w.n).getD ([], 0) else ([], 0)
theorem gives_zero (r : Res St) : gives r 0 = r := by cases r <;> simp [gives, giveS]
theorem plainE_rule {fs : List F} {locals : List Int} {w : W} {s : St} (h : w.op ≠ 18) : plainE fs locals w s = gives (takeE (ruleL fs locals w).1.reverse s) (ruleL fs locals w).2 := by
 unfold plainE ruleL
 by_cases h1 : w.op = 1
 ·simp [h1, takeE, gives]
 by_cases h2 : w.op = 2
 ·simp [h2, takeE, gives]
 by_cases h3 : w.op = 3
 ·simp [h3, gives_zero]
 by_cases h4 : w.op = 4
 ·simp [h4]
 by_cases h5 : w.op = 5
 ·simp [h5]
 by_cases h6 : w.op = 6
 ·simp [h6]
 by_cases h7 : w.op = 7
 ·simp [h7]
 by_cases h8 : w.op = 8
 ·simp [h8]
 by_cases h9 : w.op = 9
 ·simp [h9, gives_zero]
 by_cases h10 : w.op = 10
 ·simp only [h1, h2, h3, h4, h5, h6, h7, h8, h9, h10, if_true, if_false]
  simp
  cases headOf fs w.n with
  | none => simp [takeE, gives, giveS]
  | some p => simp
 ·simp only [h1, h2, h3, h4, h5, h6, h7, h8, h9, h10, h, if_false, List.reverse_nil, takeE, gives_zero]
section
variable {G : Env} {fs : List F} {mm mn : Int} {xl : Nat} {f : F} {ls : List Int} {E : Int} {σ : AS} {lv : AV} {s : St} {R : Out → AS → Prop}
set_option maxHeartbeats 2000000 in
theorem ruleI_calls {w : W} {deep : Int} (h : LkAt σ xl fs mm mn f ls E) (hx : xl < σ.no) (hl : fs.length ≤ 2 ^ 38) (hf : formB w = true) (hg : rangedB fs ls deep w = true) (hR : ∀ tv σ', IntsV tv (ruleL fs ls w).1 → Adds σ σ' → R (.ret (.tuple [tv, .int .i64 (ruleL fs ls w).2])) σ') : ACalls Tryz.prog G 70 [.ptr xl 0, w.av] σ R := by
 refine calls70 rfl ?_
 obtain ⟨fsv, pv, lv2, tv, cv, h0, hfs, hp, hl2, ht, hc, lk⟩ := h.any
 have f1 := hfs.one
 have c1 := hc.one
 have c2 := hc.len
 obtain ⟨wop, wty, wn, wbody, wother, wname⟩ := w
 have n1 : ¬ xl = σ.no := by omega
 have A1 : Adds σ (σ.newO [.int .i64 wop, .int .i64 wty, .int .i64 wn, .int .i64 wbody, .int .i64 wother, .str wname]) := (Adds.refl σ).newO
 by_cases o23 : wop = 2 ∨ wop = 3
 ·have hb : 0 ≤ wn ∧ wn < (ls.length : Int) := by
   unfold rangedB at hg; simp only at hg; rw [if_neg (by omega), if_pos o23] at hg; simpa using hg
  obtain ⟨k, rfl⟩ := Int.eq_ofNat_of_zero_le hb.1
  have hk : k < ls.length := by omega
  obtain ⟨b, hix⟩ := hc.at hk
  have hla : localAt ls (k : Int) = ls[k] := by unfold localAt; simp [hk]
  rcases o23 with rfl | rfl
  ·simp [pc70, W.av, W.cs, n1, h0, c1, hix]
   have := hR .nilsl _ (.inl ⟨rfl, rfl⟩) A1
   simp only [ruleL, hla] at this
   simpa using this
  ·simp [pc70, W.av, W.cs, n1, h0, c1, hix]
   have := hR (.sl (.stat true) 1 [.int .i64 ls[k]]) _ (.inr ⟨true, by simp [ruleL, hla]⟩) A1
   simpa [ruleL] using this
 have a2 : ¬ wop = 2 := fun e => o23 (.inl e)
 have a3 : ¬ wop = 3 := fun e => o23 (.inr e)
 by_cases o1 : wop = 1
 ·subst o1
  simp [pc70, W.av, W.cs]
  have := hR .nilsl _ (.inl ⟨rfl, rfl⟩) A1
  simpa [ruleL] using this
 by_cases o4 : wop = 4
 ·subst o4
  have hp0 : 0 ≤ placeOf signs wname 0 := by
   have : formB ⟨4, wty, wn, wbody, wother, wname⟩ = (numberB wty && !(signOf signs wname == [])) := by unfold formB; simp
   rw [this, ← place_sign] at hf
   simp at hf
   exact hf.2
  have hcm := place_cmp hp0
  have := hR (.sl (.stat true) 1 [.int .i64 wty, .int .i64 wty]) _ (.inr ⟨true, by simp [ruleL]⟩) A1
  by_cases hc10 : 10 ≤ placeOf signs wname 0
  ·have e : cmpB wname = true := by rw [← hcm]; simpa using hc10
   simp [ruleL, e] at this
   simp [pc70, W.av, W.cs]
   refine signI_calls ?_
   simp [hc10]
   exact this
  ·have e : cmpB wname = false := by rw [← hcm]; simpa using hc10
   simp [ruleL, e] at this
   simp [pc70, W.av, W.cs]
   refine signI_calls ?_
   simp [hc10]
   exact this
 by_cases o5 : wop = 5
 ·subst o5
  simp [pc70, W.av, W.cs]
  have := hR (.sl (.stat true) 1 [.int .i64 wty]) _ (.inr ⟨true, by simp [ruleL]⟩) A1
  simpa [ruleL] using this
 by_cases o6 : wop = 6
 ·subst o6
  simp [pc70, W.av, W.cs]
  have := hR (.sl (.stat true) 1 [.int .i64 2]) _ (.inr ⟨true, by simp [ruleL]⟩) A1
  simpa [ruleL] using this
 by_cases o7 : wop = 7
 ·subst o7
  simp [pc70, W.av, W.cs]
  have := hR (.sl (.stat true) 1 [.int .i64 1]) _ (.inr ⟨true, by simp [ruleL]⟩) A1
  simpa [ruleL] using this
 by_cases o8 : wop = 8
 ·subst o8
  simp [pc70, W.av, W.cs]
  have := hR (.sl (.stat true) 1 [.int .i64 1]) _ (.inr ⟨true, by simp [ruleL]⟩) A1
  simpa [ruleL] using this
 by_cases o9 : wop = 9
 ·subst o9
  simp [pc70, W.av, W.cs]
  have := hR (.sl (.stat true) 1 [.int .i64 1, .int .i64 wty]) _ (.inr ⟨true, by simp [ruleL]⟩) A1
  simpa [ruleL] using this
 by_cases o10 : wop = 10
 ·subst o10
  simp [pc70, W.av, W.cs, n1, h0, f1]
  refine headI_calls hfs hl fun tv' σ' htv A => ?_
  have t1 := htv.one
  have := hR tv' σ' (by simpa [ruleL] using htv) (A1.trans A)
  simp [t1]
  simpa [ruleL] using this
 ·simp [pc70, W.av, W.cs, o1, a2, a3, o4, o5, o6, o7, o8, o9, o10]
  have := hR .nilsl _ (.inl ⟨by simp [ruleL, o1, a2, a3, o4, o5, o6, o7, o8, o9, o10], rfl⟩) A1
  simpa [ruleL, o1, a2, a3, o4, o5, o6, o7, o8, o9, o10] using this
end
end Go.Proofs.YthifgodgfhbnfaaGreatDoor.Rf
set_option linter.unusedSimpArgs false
set_option linter.unusedVariables false
namespace Go.Proofs.YthifgodgfhbnfaaGreatDoor.Rf
open Go Go.Abs Go.Proofs.YthifgodgfhbnfaaGreatDoor
def leavesE (ty deep : Int) (w : W) (s : St) : Res St :=
 if w.op = 15 then match takeE [1] s with
  | .error e => .error e
  | .ok s1 => if w.n = deep then gives (returnsE ty s1) ty else .ok s1
 else if w.op = 16 ∨ (w.op = 14 ∧ w.n = deep) then match returnsE ty s with
  | .error e => .error e
  | .ok _ => .ok leftS
 else .ok leftS
section
variable {G : Env} {fs : List F} {mm mn : Int} {xl : Nat} {f : F} {ls : List Int} {E : Int} {σ : AS} {lv : AV} {s : St} {R : Out → AS → Prop}
theorem give_len (s : St) (t : Int) : (giveS s t).stack.length ≤ s.stack.length + 1 := by unfold giveS; split <;> simp
theorem give_any (s : St) (t : Int) : (giveS s t).any = s.any := by unfold giveS; split <;> rfl
set_option maxHeartbeats 2000000 in
theorem leavesI_calls {w : W} {deep : Int} (h : LkAt σ xl fs mm mn f ls E) (hx : xl < σ.no) (hv : IntsV lv s.stack) (hl : s.stack.length ≤ 2 ^ 38) (hR : LO R xl fs mm mn f ls E (leavesE f.type deep w s) (s.stack.length + 1) σ) : ACalls Tryz.prog G 67 [.ptr xl 0, .agg [lv, .bool s.any], w.av, .int .i64 deep] σ R := by
 refine calls67 rfl ?_
 have v1 := hv.one
 obtain ⟨wop, wty, wn, wbody, wother, wname⟩ := w
 have n1 : ¬ xl = σ.no := by omega
 have n2 : ¬ xl = σ.no + 1 := by omega
 have n3 : ¬ xl = σ.no + 2 := by omega
 have m1 : ¬ σ.no = xl := by omega
 have m2 : ¬ σ.no + 1 = xl := by omega
 have m3 : ¬ σ.no + 2 = xl := by omega
 have k1 : ¬ σ.no = σ.no + 1 + 1 := by omega
 have k2 : ¬ σ.no = σ.no + 2 := by omega
 have k3 : ¬ σ.no + 1 + 1 = σ.no := by omega
 have k4 : ¬ σ.no + 2 = σ.no := by omega
 have A0 : AddB xl σ (((σ.newO [lv, .bool s.any]).newO [.int .i64 wop, .int .i64 wty, .int .i64 wn, .int .i64 wbody, .int .i64 wother, .str wname]).newO [.nilsl, .bool false]) := (((AddB.refl σ).newO _).newO _).newO _
 have L0 := h.keep (σ' := (((σ.newO [lv, .bool s.any]).newO [.int .i64 wop, .int .i64 wty, .int .i64 wn, .int .i64 wbody, .int .i64 wother, .str wname]).newO [.nilsl, .bool false])) (by simp [n1, n2, n3])
 by_cases o15 : wop = 15
 ·subst o15
  simp [pc67, W.av, W.cs, v1, k1, k2, k3, k4]
  refine takeI_calls (s := s) L0 (by simp; omega) hv (by omega) fun E1 s1 lv1 σ1 hE1 hn1 hv1 A1 L1 => ?_
  have p1 := hv1.one
  have b1 := A1.obj σ.no (by simp; omega) m1
  have b2 := A1.obj (σ.no + 1) (by simp) m2
  have b3 := A1.obj (σ.no + 2) (by simp) m3
  have hno := A1.no
  simp [k1, k2] at b1 b2 b3 hno
  by_cases hd : wn = deep
  ·subst hd
   obtain ⟨fsv, pv, lv9, tv, cv, h0, hfs, hp, hl2, ht, hc, lk⟩ := L1.any
   simp [p1, b1, b2, b3, k1, k2, k3, k4, n1, h0, splice]
   have L2 := L1.keep (σ' := σ1.setO σ.no [lv1, .bool s1.any]) (by simp [n1])
   refine returnsI_calls (s := s1) L2 (by simp; omega) hv1 (by omega) fun E2 s2 lv2 σ2 hE2 hn2 hv2 A2 L3 => ?_
   have p2 := hv2.one
   have c1 := A2.obj σ.no (by simp; omega) m1
   have c2 := A2.obj (σ.no + 1) (by simp; omega) m2
   have c3 := A2.obj (σ.no + 2) (by simp; omega) m3
   have hno2 := A2.no
   simp [b2, b3, k4] at c1 c2 c3 hno2
   obtain ⟨fsv', pv', lv9', tv', cv', h0', _, _, _, _, _, _⟩ := L3.any
   simp [p2, c1, c2, c3, h0', k1, k2, k3, k4, splice]
   refine giveI_calls (s := s2) hv2 (by omega) fun lv3 σ3 hv3 A3 => ?_
   have p3 := hv3.one
   have d1 := (A3.obj σ.no (by omega)).trans c1
   have d2 := (A3.obj (σ.no + 1) (by omega)).trans c2
   have d3 := (A3.obj (σ.no + 2) (by omega)).trans c3
   have hx3 := A3.obj xl (by omega)
   simp [p3, d1, d2, d3, k1, k2, k3, k4, splice]
   have hg := give_len s2 f.type
   have := hR E2 (giveS s2 f.type) lv3 ((σ3.setO σ.no [lv3, AV.bool s2.any]).setO (σ.no + 2) [lv3, AV.bool s2.any]) (fun e => ?_) (by omega) hv3 (((((A0.trans A1).setO (Nat.le_refl _) _).trans A2).trans (.of A3)).setO (Nat.le_refl _) _ |>.setO (by omega) _) (L3.keep (by simp [n1, n3, hx3]))
   ·rw [give_any] at this; exact this
   ·obtain ⟨e1, e2⟩ := hE2 e
    obtain ⟨e3, e4⟩ := hE1 e1
    refine ⟨e3, ?_⟩
    unfold leavesE
    simp [e4, e2, gives]
  ·simp [p1, b1, b2, b3, hd, k1, k2, k3, k4, splice]
   refine hR E1 s1 lv1 _ (fun e => ?_) (by omega) hv1 (((A0.trans A1).setO (Nat.le_refl _) _).setO (by omega) _) (L1.keep (by simp [n1, n3]))
   obtain ⟨e3, e4⟩ := hE1 e
   refine ⟨e3, ?_⟩
   unfold leavesE
   simp [e4, hd]
 by_cases hret : wop = 16 ∨ (wop = 14 ∧ wn = deep)
 ·have e : leavesE f.type deep ⟨wop, wty, wn, wbody, wother, wname⟩ s = match returnsE f.type s with
    | .error e => .error e
    | .ok _ => .ok leftS := by unfold leavesE; simp only; rw [if_neg o15, if_pos hret]
  rw [e] at hR
  have go : ACalls Tryz.prog G 47 [.ptr xl 0, .agg [lv, .bool s.any]] (((σ.newO [lv, .bool s.any]).newO [.int .i64 wop, .int .i64 wty, .int .i64 wn, .int .i64 wbody, .int .i64 wother, .str wname]).newO [.nilsl, .bool false]) fun o τ => (∃ v, o = .ret v) ∧ τ.objs (σ.no + 2) = some [.nilsl, .bool false] ∧ R (.ret (.agg [.nilsl, .bool true])) (τ.setO (σ.no + 2) [.nilsl, .bool true]) := by
   refine returnsI_calls (s := s) L0 (by simp; omega) hv (by omega) fun E1 s1 lv1 σ1 hE1 hn1 hv1 A1 L1 => ?_
   have b3 := A1.obj (σ.no + 2) (by simp) m3
   simp at b3
   refine ⟨⟨_, rfl⟩, b3, hR E1 leftS .nilsl _ (fun e => ?_) (by simp [leftS]) (.inl ⟨rfl, rfl⟩) ((A0.trans A1).setO (by omega) _) (L1.keep (by simp [n3]))⟩
   obtain ⟨e3, e4⟩ := hE1 e
   exact ⟨e3, by rw [e4]⟩
  rcases hret with rfl | ⟨rfl, rfl⟩
  ·simp [pc67, W.av, W.cs, v1, k1, k2, k3, k4]
   refine go.mono fun o τ ⟨⟨v, hv⟩, h1, h2⟩ => ?_
   subst hv
   simp [h1, splice]
   exact h2
  ·simp [pc67, W.av, W.cs, v1, k1, k2, k3, k4]
   refine go.mono fun o τ ⟨⟨v, hv⟩, h1, h2⟩ => ?_
   subst hv
   simp [h1, splice]
   exact h2
 ·have e : leavesE f.type deep ⟨wop, wty, wn, wbody, wother, wname⟩ s = .ok leftS := by unfold leavesE; simp only; rw [if_neg o15, if_neg hret]
  rw [e] at hR
  have a16 : ¬ wop = 16 := fun e => hret (.inl e)
  have := hR E leftS .nilsl _ (fun e => ⟨e, rfl⟩) (by simp [leftS]) (.inl ⟨rfl, rfl⟩) (A0.setO (o := σ.no + 2) (by omega) [.nilsl, .bool true]) (L0.keep (by simp [n3]))
  by_cases a14 : wop = 14
  ·have hd : ¬ wn = deep := fun e => hret (.inr ⟨a14, e⟩)
   simp [pc67, W.av, W.cs, v1, k1, k2, k3, k4, o15, a16, a14, hd, k1, k2, k3, k4, splice]
   simpa [leftS, a14] using this
  ·simp [pc67, W.av, W.cs, v1, k1, k2, k3, k4, o15, a16, a14, splice]
   exact this
end
end Go.Proofs.YthifgodgfhbnfaaGreatDoor.Rf
set_option linter.unusedSimpArgs false
set_option linter.unusedVariables false
namespace Go.Proofs.YthifgodgfhbnfaaGreatDoor.Rf
open Go Go.Abs Go.Proofs.YthifgodgfhbnfaaGreatDoor
theorem takeE_snoc {t : Int} : ∀ {ts : List Int} {s : St}, takeE (ts ++ [t]) s = match takeE ts s with
  | .ok s1 => takeE [t] s1
  | .error e => .error e
 | [], s => rfl
 | u :: ts, s => by
  rw [List.cons_append, takeE, takeE]
  split
  ·cases dropE s with
   | ok s' => simp only; exact takeE_snoc
   | error e => rfl
  ·rfl
theorem instrE_leaves {fs : List F} {locals : List Int} {ty deep : Int} {look : Look} {w : W} {s : St} (hf : formB w = true) (hg : rangedB fs locals deep w = true) (h : w.op = 14 ∨ w.op = 15 ∨ w.op = 16 ∨ w.op = 17) : instrE fs locals ty deep look w s = leavesE ty deep w s := by
 unfold instrE leavesE
 rw [if_neg (by simp [hf]), if_neg (by simp [hg]), if_neg (by omega), if_neg (by omega)]
 by_cases h15 : w.op = 15
 ·rw [if_pos h15, if_pos h15]
  cases takeE [1] s <;> rfl
 rw [if_neg h15, if_neg h15]
 by_cases h14 : w.op = 14
 ·rw [if_pos h14]
  by_cases hd : w.n = deep
  ·rw [if_pos hd, if_pos (by omega)]
   cases returnsE ty s <;> rfl
  ·rw [if_neg hd, if_neg (by omega)]
 rw [if_neg h14]
 by_cases h16 : w.op = 16
 ·rw [if_pos h16, if_pos (by omega)]
  cases returnsE ty s <;> rfl
 ·rw [if_neg h16, if_pos (by omega), if_neg (by omega)]
theorem headOf_len {fs : List F} {n : Int} (hts : ∀ f ∈ fs, f.params.length ≤ 2 ^ 38) : ((headOf fs n).getD ([], 0)).1.length ≤ 2 ^ 38 := by
 unfold headOf
 split
 ·simp
 split
 ·simp
 split
 ·simp
 split
 ·simp
 cases h : fs[(n - 3).toNat]? with
 | none => simp
 | some g => simpa using hts g (List.mem_of_getElem? h)
theorem ruleL_len {fs : List F} {ls : List Int} {w : W} (hts : ∀ f ∈ fs, f.params.length ≤ 2 ^ 38) : (ruleL fs ls w).1.length ≤ 2 ^ 38 := by
 have := headOf_len (n := w.n) hts
 unfold ruleL
 repeat' split
 all_goals first | exact this | simp
def ListC (G : Env) (xl : Nat) (fs : List F) (mm mn : Int) (f : F) (ls : List Int) (k : Nat) : Prop :=
 ∀ (at_ deep E : Int) (σ : AS) (R : Out → AS → Prop), 0 ≤ at_ → at_ < (k : Int) → 0 ≤ deep → deep + at_ ≤ 2 ^ 39 → LkAt σ xl fs mm mn f ls E → xl < σ.no →
  (∀ (E' : Int) (σ' : AS), (E' = 0 → E = 0 ∧ lookE fs ls f.type f.lists k at_ deep = .ok ()) → AddB xl σ σ' → LkAt σ' xl fs mm mn f ls E' → R (.ret (.tuple [])) σ') → ACalls Tryz.prog G 31 [.ptr xl 0, .int .i64 at_, .int .i64 deep] σ R
section
variable {G : Env} {fs : List F} {mm mn : Int} {xl : Nat} {f : F} {ls : List Int} {σ : AS} {lv : AV} {s : St} {R : Out → AS → Prop} {k : Nat}
def TI (σ : AS) (xl : Nat) (fs : List F) (mm mn : Int) (f : F) (ls : List Int) (wcs : List AV) (s : St) (tv : AV) (ts : List Int) (g : Int) (a : Nat → AV) (τ : AS) : Prop :=
 ∃ (j : Nat) (E1 : Int) (s1 : St) (lv1 : AV), j ≤ ts.length ∧ a 0 = .ptr xl 0 ∧ a 5 = .ptr σ.no 0 ∧ a 8 = .ptr (σ.no + 2) 0 ∧ a 9 = tv ∧ a 10 = .int .i64 g ∧ a 11 = .int .i64 ((j : Int) - 1) ∧ τ.objs σ.no = some [lv1, .bool s1.any] ∧ τ.objs (σ.no + 2) = some [.nilsl, .bool false] ∧
  IntsV lv1 s1.stack ∧ s1.stack.length ≤ s.stack.length ∧ σ.no + 2 < τ.no ∧ AddB xl σ τ ∧ LkAt τ xl fs mm mn f ls E1 ∧ (E1 = 0 → takeE (ts.drop j).reverse s = .ok s1)
def MDn (r : Nat) (a : Nat → AV) (_ : AS) : Nat := match a r with | .int _ i => (i + 1).toNat | _ => 0
set_option maxHeartbeats 4000000 in
theorem instrI_calls {w : W} {deep at_ : Int} (rec : ListC G xl fs mm mn f ls k) (hw : ∀ n ∈ namesL w, 0 ≤ n ∧ n < at_) (hat : 0 ≤ at_ ∧ at_ ≤ (k : Int)) (hk : deep + at_ ≤ 2 ^ 39) (hd0 : 0 ≤ deep) (h : LkAt σ xl fs mm mn f ls 0) (hx : xl < σ.no) (hl : fs.length ≤ 2 ^ 38) (hts : ∀ f ∈ fs, f.params.length ≤ 2 ^ 38)
  (hwn : -(2 ^ 63) ≤ w.n ∧ w.n < 2 ^ 63) (hv : IntsV lv s.stack) (hsl : s.stack.length ≤ 2 ^ 38) (hR : LO R xl fs mm mn f ls 0 (instrE fs ls f.type deep (lookE fs ls f.type f.lists k) w s) (s.stack.length + 1) σ) : ACalls Tryz.prog G 46 [.ptr xl 0, .agg [lv, .bool s.any], w.av, .int .i64 deep] σ R := by
 refine calls46 rfl ?_
 have v1 := hv.one
 obtain ⟨fsv, pv, lv2, tv, cv, h0, hfs, hp, hl2, ht, hc, lk⟩ := h.any
 obtain ⟨wop, wty, wn, wbody, wother, wname⟩ := w
 have n1 : ¬ xl = σ.no := by omega
 have n2 : ¬ xl = σ.no + 1 := by omega
 have n3 : ¬ xl = σ.no + 2 := by omega
 have m1 : ¬ σ.no = xl := by omega
 have m2 : ¬ σ.no + 1 = xl := by omega
 have m3 : ¬ σ.no + 2 = xl := by omega
 have k1 : ¬ σ.no = σ.no + 1 + 1 := by omega
 have k2 : ¬ σ.no = σ.no + 2 := by omega
 have k3 : ¬ σ.no + 1 + 1 = σ.no := by omega
 have k4 : ¬ σ.no + 2 = σ.no := by omega
 have A0 : AddB xl σ (((σ.newO [lv, .bool s.any]).newO [.int .i64 wop, .int .i64 wty, .int .i64 wn, .int .i64 wbody, .int .i64 wother, .str wname]).newO [.nilsl, .bool false]) := (((AddB.refl σ).newO _).newO _).newO _
 have L0 := h.keep (σ' := (((σ.newO [lv, .bool s.any]).newO [.int .i64 wop, .int .i64 wty, .int .i64 wn, .int .i64 wbody, .int .i64 wother, .str wname]).newO [.nilsl, .bool false])) (by simp [n1, n2, n3])
 simp [pc46, W.av, W.cs, v1, k1, k2, k3, k4]
 refine formI_calls (w := ⟨wop, wty, wn, wbody, wother, wname⟩) fun σ1 A1 => ?_
 have b0 := A1.obj σ.no (by simp; omega)
 have b1 := A1.obj (σ.no + 1) (by simp)
 have b2 := A1.obj (σ.no + 2) (by simp)
 have L1 := L0.adds (by simp; omega) A1
 have hno1 := A1.no
 have B1 : AddB xl σ σ1 := A0.trans (.of A1)
 simp [k1, k2] at b0 b1 b2 hno1
 obtain ⟨fsv', pv', lv2', tv', cv', h0', hfs', hp', hl2', ht', hc', lk'⟩ := L1.any
 by_cases hf : formB ⟨wop, wty, wn, wbody, wother, wname⟩ = false
 ·simp [hf, h0', v1, b0, b1, b2, splice, m1, m2, m3, n1, n2, n3]
  refine hR 2 s lv _ (fun e => by omega) (by omega) hv ?_ (lk' _ _ ?_)
  ·exact ((B1.set _).setO (by omega) _)
  ·simp [n3]
 have hf : formB ⟨wop, wty, wn, wbody, wother, wname⟩ = true := by simpa using hf
 simp [hf, b0, b1, b2, splice]
 refine rangedI_calls (w := ⟨wop, wty, wn, wbody, wother, wname⟩) L1 (by omega) hl hwn fun σ2 A2 => ?_
 have c0 := (A2.obj σ.no (by omega)).trans b0
 have c1 := (A2.obj (σ.no + 1) (by omega)).trans b1
 have c2 := (A2.obj (σ.no + 2) (by omega)).trans b2
 have hno2 := A2.no
 have B2 : AddB xl σ σ2 := B1.trans (.of A2)
 have L2 := L1.adds (by omega) A2
 obtain ⟨fsv', pv', lv2', tv', cv', h0', hfs', hp', hl2', ht', hc', lk'⟩ := L2.any
 by_cases hg : rangedB fs ls deep ⟨wop, wty, wn, wbody, wother, wname⟩ = false
 ·simp [hg, h0', v1, c0, c1, c2, splice, m1, m2, m3, n1, n2, n3]
  refine hR 11 s lv _ (fun e => by omega) (by omega) hv ?_ (lk' _ _ ?_)
  ·exact ((B2.set _).setO (by omega) _)
  ·simp [n3]
 have hg : rangedB fs ls deep ⟨wop, wty, wn, wbody, wother, wname⟩ = true := by simpa using hg
 simp [hg, c0, c1, c2, splice]
 by_cases hlv : wop = 14 ∨ wop = 15 ∨ wop = 16 ∨ wop = 17
 ·rw [instrE_leaves hf hg hlv] at hR
  have go : ACalls Tryz.prog G 67 [.ptr xl 0, .agg [lv, .bool s.any], W.av ⟨wop, wty, wn, wbody, wother, wname⟩, .int .i64 deep] σ2 fun o τ => EndL (σ.no + 2) R o τ :=
   leavesI_calls L2 (by omega) hv hsl (hR.ends hx (fun e s' h => ⟨e, h⟩) (Nat.le_refl _) B2 (by omega) (by omega) c2)
  have fin : ∀ o τ, EndL (σ.no + 2) R o τ → True := fun _ _ _ => trivial
  rcases hlv with rfl | rfl | rfl | rfl
  all_goals
   simp [c0, c1, c2, k1, k2, k3, k4, v1]
   refine go.mono fun o τ ⟨lv', b', e1, e2, e6, e3, e4, e5⟩ => ?_
   subst e1
   simp [e2, e3, e4, splice]
   exact ⟨e6, e5⟩
 have a14 : ¬ wop = 14 := fun e => hlv (.inl e)
 have a15 : ¬ wop = 15 := fun e => hlv (.inr (.inl e))
 have a16 : ¬ wop = 16 := fun e => hlv (.inr (.inr (.inl e)))
 have a17 : ¬ wop = 17 := fun e => hlv (.inr (.inr (.inr e)))
 have w1 : IntKind.wrap .i64 (deep + 1) = deep + 1 := by rw [wrap_i64] <;> omega
 unfold instrE at hR
 rw [if_neg (by simp [hf]), if_neg (by simp [hg])] at hR
 simp only at hR
 by_cases hbl : wop = 11 ∨ wop = 12
 ·rw [if_pos hbl] at hR
  have hb := hw wbody (by unfold namesL; simp only; rw [if_pos (by omega)]; simp)
  have go : ACalls Tryz.prog G 31 [.ptr xl 0, .int .i64 wbody, .int .i64 (deep + 1)] σ2 fun o τ => o = .ret (.tuple []) ∧ τ.objs σ.no = some [lv, .bool s.any] ∧ τ.objs (σ.no + 2) = some [.nilsl, .bool false] ∧ R (.ret (.agg [lv, .bool s.any])) (τ.setO (σ.no + 2) [lv, .bool s.any]) := by
   refine rec wbody (deep + 1) 0 σ2 _ hb.1 (by omega) (by omega) (by omega) L2 (by omega) fun E' σ3 hE' A3 L3 => ?_
   refine ⟨rfl, (A3.obj _ (by omega) m1).trans c0, (A3.obj _ (by omega) m3).trans c2, hR E' s lv _ (fun e => ?_) (by omega) hv ((B2.trans A3).setO (by omega) _) (L3.keep (by simp [n3]))⟩
   exact ⟨rfl, by rw [(hE' e).2]⟩
  rcases hbl with rfl | rfl
  all_goals
   simp [c0, c1, c2, k1, k2, k3, k4, v1, w1]
   refine go.mono fun o τ ⟨e1, e2, e3, e4⟩ => ?_
   subst e1
   simp [e2, e3, v1, splice]
   exact e4
 have a11 : ¬ wop = 11 := fun e => hbl (.inl e)
 have a12 : ¬ wop = 12 := fun e => hbl (.inr e)
 rw [if_neg hbl] at hR
 by_cases h13 : wop = 13
 ·subst h13
  rw [if_pos rfl] at hR
  simp [c0, c1, c2, k1, k2, k3, k4, v1]
  refine takeI_calls (s := s) L2 (by omega) hv (by omega) fun E3 s3 lv3 σ3 hE3 hn3 hv3 A3 L3 => ?_
  have p3 := hv3.one
  have d0 := (A3.obj _ (by omega) m1).trans c0
  have d1' := (A3.obj _ (by omega) m2).trans c1
  have d2' := (A3.obj _ (by omega) m3).trans c2
  have hno3 := A3.no
  have B3 := (B2.trans A3).setO (Nat.le_refl _) [lv3, AV.bool s3.any]
  have L3 := L3.keep (σ' := σ3.setO σ.no [lv3, AV.bool s3.any]) (by simp [n1])
  have d1 : (σ3.setO σ.no [lv3, AV.bool s3.any]).objs (σ.no + 1) = some [.int .i64 13, .int .i64 wty, .int .i64 wn, .int .i64 wbody, .int .i64 wother, .str wname] := by simpa using d1'
  have d2 : (σ3.setO σ.no [lv3, AV.bool s3.any]).objs (σ.no + 2) = some [.nilsl, .bool false] := by simpa [k4] using d2'
  have d3 : (σ3.setO σ.no [lv3, AV.bool s3.any]).objs σ.no = some [lv3, AV.bool s3.any] := by simp
  have hno3 : (σ3.setO σ.no [lv3, AV.bool s3.any]).no = σ3.no := by simp
  simp [p3, d0, d1', d2', w1, k4, splice]
  generalize σ3.setO σ.no [lv3, AV.bool s3.any] = σ4 at *
  have hb := hw wbody (by unfold namesL; simp only; split <;> simp_all)
  refine rec wbody (deep + 1) E3 σ4 _ hb.1 (by omega) (by omega) (by omega) L3 (by omega) fun E5 σ5 hE5 A5 L5 => ?_
  have f1 := (A5.obj _ (by omega) m2).trans d1
  have f2 := (A5.obj _ (by omega) m3).trans d2
  have f3 := (A5.obj _ (by omega) m1).trans d3
  have hno5 := A5.no
  by_cases hoth : 0 ≤ wother
  ·simp [f1, f2, f3, w1, hoth]
   have hb2 := hw wother (by unfold namesL; simp [show ¬ wother < 0 by omega])
   refine rec wother (deep + 1) E5 σ5 _ hb2.1 (by omega) (by omega) (by omega) L5 (by omega) fun E6 σ6 hE6 A6 L6 => ?_
   have g2 := (A6.obj _ (by omega) m3).trans f2
   have g3 := (A6.obj _ (by omega) m1).trans f3
   simp [g2, g3, p3, splice]
   refine hR E6 s3 lv3 _ (fun e => ?_) (by omega) hv3 (((B3.trans A5).trans A6).setO (by omega) _) (L6.keep (by simp [n3]))
   obtain ⟨e1, e2⟩ := hE6 e
   obtain ⟨e3, e4⟩ := hE5 e1
   obtain ⟨e5, e6⟩ := hE3 e3
   refine ⟨rfl, ?_⟩
   rw [e6]
   simp only
   rw [e4]
   simp only
   rw [if_pos hoth, e2]
  ·simp [f1, f2, f3, hoth, p3, splice]
   refine hR E5 s3 lv3 _ (fun e => ?_) (by omega) hv3 ((B3.trans A5).setO (by omega) _) (L5.keep (by simp [n3]))
   obtain ⟨e3, e4⟩ := hE5 e
   obtain ⟨e5, e6⟩ := hE3 e3
   refine ⟨rfl, ?_⟩
   rw [e6]
   simp only
   rw [e4]
   simp only
   rw [if_neg hoth]
 rw [if_neg h13, if_neg a15, if_neg a14, if_neg a16, if_neg a17] at hR
 by_cases h18 : wop = 18
 ·subst h18
  have e : plainE fs ls ⟨18, wty, wn, wbody, wother, wname⟩ s = dropE s := by unfold plainE; simp
  rw [e] at hR
  simp [c0, c1, c2, k1, k2, k3, k4, v1]
  refine (dropI_calls (s := s) L2 (by omega) hv (by omega) (hR.ends (b := σ.no + 2) hx (fun e s' h => ⟨e, h⟩) (by omega) B2 (by omega) (by omega) c2)).mono fun o τ ⟨lv', b', e1, e2, e6, e3, e4, e5⟩ => ?_
  subst e1
  simp [e2, e3, e4, splice]
  exact ⟨e6, e5⟩
 rw [plainE_rule (by simpa using h18)] at hR
 simp [c0, c1, c2, k1, k2, k3, k4, v1, a14, a15, a16, a17, a11, a12, h13, h18]
 refine ruleI_calls (w := ⟨wop, wty, wn, wbody, wother, wname⟩) L2 (by omega) hl hf hg fun tv3 σ3 htv A3 => ?_
 have q1 := htv.one
 have q2 := htv.len
 have d0 := (A3.obj _ (by omega)).trans c0
 have d1 := (A3.obj _ (by omega)).trans c1
 have d2 := (A3.obj _ (by omega)).trans c2
 have hno3 := A3.no
 have B3 := B2.trans (.of A3)
 have L3 := L2.adds (by omega) A3
 have htl : (ruleL fs ls ⟨wop, wty, wn, wbody, wother, wname⟩).1.length ≤ 2 ^ 38 := ruleL_len hts
 generalize ruleL fs ls ⟨wop, wty, wn, wbody, wother, wname⟩ = rl at *
 obtain ⟨ts, g⟩ := rl
 simp only at htv hR q2 htl
 have w2 : IntKind.wrap .i64 ((ts.length : Int) - 1) = (ts.length : Int) - 1 := by rw [wrap_i64] <;> omega
 simp [q1, q2, w2]
 refine aloop (TI σ xl fs mm mn f ls [] s tv3 ts g) (MDn 11) ⟨ts.length, 0, s, lv, by omega, by simp, by simp, by simp, by simp, by simp, by simp, d0, d2, hv, by omega, by omega, B3, L3, fun _ => by simp [takeE]⟩ fun a τ hI => ?_
 obtain ⟨j, E1, s1, lv1, hj, a0, a5, a8, a9, a10, a11', x0, x2, hv1, hs1, hno, B, L, hE⟩ := hI
 have r1 := hv1.one
 by_cases hj0 : j = 0
 ·subst hj0
  simp [pc46_l1, pc46_r1, a0, a5, a8, a9, a10, a11', x0, x2, r1]
  refine giveI_calls (s := s1) hv1 (by omega) fun lv4 σ4 hv4 A4 => ?_
  have y2 := (A4.obj _ (by omega)).trans x2
  have r4 := hv4.one
  simp [r4, y2, a8, splice]
  have hgl := give_len s1 g
  have := hR E1 (giveS s1 g) lv4 (σ4.setO (σ.no + 2) [lv4, .bool s1.any]) (fun e => ⟨rfl, by have := hE e; rw [List.drop_zero] at this; rw [this]; rfl⟩) (by omega) hv4 ((B.trans (.of A4)).setO (by omega) _) ((L.adds (by omega) A4).keep (by simp [n3]))
  rw [give_any] at this
  exact this
 ·obtain ⟨i, rfl⟩ : ∃ i, j = i + 1 := ⟨j - 1, by omega⟩
  have hi : i < ts.length := by omega
  obtain ⟨b, hix⟩ := htv.at hi
  have hdr : (ts.drop i).reverse = (ts.drop (i + 1)).reverse ++ [ts[i]] := by rw [List.drop_eq_getElem_cons hi]; simp
  generalize ts[i] = t at *
  have a11' : a 11 = .int .i64 (i : Int) := by rw [a11']; congr 1; omega
  have w3 : IntKind.wrap .i64 ((i : Int) - 1) = (i : Int) - 1 := by rw [wrap_i64] <;> omega
  simp [pc46_l1, a0, a5, a8, a9, a10, a11', x0, x2, r1, hix]
  refine takeI_calls (s := s1) L (by omega) hv1 (by omega) fun E4 s4 lv4 σ4 hE4 hn4 hv4 A4 L4 => ?_
  have r4 := hv4.one
  have y0 := (A4.obj _ (by omega) m1).trans x0
  have y2 := (A4.obj _ (by omega) m3).trans x2
  have hno4 := A4.no
  simp [r4, y0, w3, a5, a11', splice]
  refine ⟨⟨i, E4, s4, lv4, by omega, by simp [a0], by simp [a5], by simp [a8], by simp [a9], by simp [a10], by simp, by simp, by simp [k4, y2], hv4, by omega, by simp; omega, (B.trans A4).setO (Nat.le_refl _) _, L4.keep (by simp [n1]), fun e => ?_⟩, ?_⟩
  ·obtain ⟨e1, e2⟩ := hE4 e
   rw [hdr, takeE_snoc, hE e1]
   exact e2
  ·simp only [MDn, a11']; simp
end
end Go.Proofs.YthifgodgfhbnfaaGreatDoor.Rf
set_option linter.unusedSimpArgs false
set_option linter.unusedVariables false
namespace Go.Proofs.YthifgodgfhbnfaaGreatDoor.Rf
open Go Go.Abs Go.Proofs.YthifgodgfhbnfaaGreatDoor
section
variable {G : Env} {fs : List F} {mm mn : Int} {xl : Nat} {f : F} {ls : List Int}
def LI (σ : AS) (xl : Nat) (fs : List F) (mm mn : Int) (f : F) (ls : List Int) (k : Nat) (E deep : Int) (rv : AV) (row : List W) (a : Nat → AV) (τ : AS) : Prop :=
 ∃ (i : Nat) (E1 : Int) (s1 : St) (lv1 : AV), i ≤ row.length ∧ a 0 = .ptr xl 0 ∧ a 2 = .int .i64 deep ∧ a 6 = .ptr σ.no 0 ∧ a 7 = rv ∧ a 8 = .int .i64 (i : Int) ∧ τ.objs σ.no = some [lv1, .bool s1.any] ∧
  IntsV lv1 s1.stack ∧ s1.stack.length ≤ i ∧ σ.no < τ.no ∧ AddB xl σ τ ∧ LkAt τ xl fs mm mn f ls E1 ∧
  (E1 = 0 → E = 0 ∧ instrsE fs ls f.type deep (lookE fs ls f.type f.lists k) row ⟨[], false⟩ = instrsE fs ls f.type deep (lookE fs ls f.type f.lists k) (row.drop i) s1)
set_option maxHeartbeats 4000000 in
theorem listI_calls (hl : fs.length ≤ 2 ^ 38) (hts : ∀ f ∈ fs, f.params.length ≤ 2 ^ 38) (ha : Ahead f.lists) (hrl : ∀ r ∈ f.lists, r.length ≤ 2 ^ 38) (hwn : ∀ r ∈ f.lists, ∀ w ∈ r, -(2 ^ 63) ≤ w.n ∧ w.n < 2 ^ 63) :
  ∀ k : Nat, k ≤ f.lists.length → ListC G xl fs mm mn f ls k
 | 0, _ => fun at_ deep E σ R h0 h1 => by omega
 | k + 1, hkl => by
  have hrec := listI_calls hl hts ha hrl hwn k (by omega)
  intro at_ deep E σ R h0 h1 hd hda h hx hR
  refine calls31 rfl ?_
  obtain ⟨i, rfl⟩ := Int.eq_ofNat_of_zero_le h0
  have hi : i < f.lists.length := by omega
  have hrow : f.lists[i]? = some f.lists[i] := List.getElem?_eq_getElem hi
  have hgd : f.lists.getD (i : Int).toNat [] = f.lists[i] := by simp [hi]
  obtain ⟨fsv, pv, lv2, tv, cv, h0', hfs, hp, hl2, ht, hc, lk⟩ := h.any
  obtain ⟨lb, rv, hrv, hix⟩ := ht.at hi
  have hah := ha i _ hrow
  have hml := hrl _ (List.getElem_mem hi)
  have hmn := hwn _ (List.getElem_mem hi)
  generalize f.lists[i] = row at *
  have r1 := hrv.one
  have r2 := hrv.len
  have n1 : ¬ xl = σ.no := by omega
  have m1 : ¬ σ.no = xl := by omega
  simp [pc31, n1, h0', hix, r1, splice]
  refine aloop (LI σ xl fs mm mn f ls k E deep rv row) (MU 8 (row.length + 1)) ⟨0, E, ⟨[], false⟩, .nilsl, by omega, by simp, by simp, by simp, by simp, by simp, by simp, .inl ⟨rfl, rfl⟩, by simp, by simp, ?_, lk _ _ (by simp [n1, h0']), fun e => ⟨e, by simp⟩⟩ fun a τ hI => ?_
  ·exact ((AddB.refl σ).newO _).setO (Nat.le_refl _) _
  obtain ⟨j, E1, s1, lv1, hj, a0, a2, a6, a7, a8, x0, hv1, hs1, hno, B, L, hE⟩ := hI
  have q1 := hv1.one
  have q2 := hv1.len
  obtain ⟨fsv', pv', lv2', tv', cv', g0', _, _, _, _, _, lk'⟩ := L.any
  by_cases hgo : j < row.length ∧ E1 = 0
  ·obtain ⟨hlt, rfl⟩ := hgo
   have hlt' : (j : Int) < (row.length : Int) := by omega
   obtain ⟨wb, hwx⟩ := hrv.at hlt
   have hwg : row[j]? = some row[j] := List.getElem?_eq_getElem hlt
   have hdr : row.drop j = row[j] :: row.drop (j + 1) := List.drop_eq_getElem_cons hlt
   have hnm : ∀ n ∈ namesL row[j], 0 ≤ n ∧ n < (i : Int) := fun n hn => hah n (List.mem_flatMap.2 ⟨_, List.getElem_mem hlt, hn⟩)
   have hwn' := hmn _ (List.getElem_mem hlt)
   generalize row[j] = w at *
   have w3 : IntKind.wrap .i64 ((j : Int) + 1) = ((j + 1 : Nat) : Int) := by rw [wrap_i64] <;> omega
   obtain ⟨wop, wty, wn, wbody, wother, wname⟩ := w
   simp [pc31_l1, a0, a2, a6, a7, a8, x0, q1, r1, r2, hlt', g0', hwx, W.av, W.cs]
   refine instrI_calls (w := ⟨wop, wty, wn, wbody, wother, wname⟩) (s := s1) hrec hnm (by omega) hda hd L (by omega) hl hts hwn' hv1 (by omega) fun E4 s4 lv4 σ4 hE4 hn4 hv4 A4 L4 => ?_
   have r4 := hv4.one
   have y0 := (A4.obj _ (by omega) m1).trans x0
   have hno4 := A4.no
   simp [r4, y0, w3, a6, a8, splice]
   refine ⟨⟨j + 1, E4, s4, lv4, by omega, by simp [a0], by simp [a2], by simp [a6], by simp [a7], by simp, by simp, hv4, by omega, by simp; omega, (B.trans A4).setO (Nat.le_refl _) _, L4.keep (by simp [n1]), fun e => ?_⟩, ?_⟩
   ·obtain ⟨e1, e2⟩ := hE4 e
    obtain ⟨e3, e4⟩ := hE rfl
    refine ⟨e3, ?_⟩
    rw [e4, hdr, instrsE, e2]
   ·simp only [MU, a8]; simp; omega
  ·have hE2 : E1 = 0 → E = 0 ∧ instrsE fs ls f.type deep (lookE fs ls f.type f.lists k) row ⟨[], false⟩ = .ok s1 := fun e => by
    obtain ⟨e3, e4⟩ := hE e
    have hj' : j = row.length := by omega
    rw [e4, hj', List.drop_length]
    exact ⟨e3, rfl⟩
   by_cases hlt : j < row.length
   ·have hlt' : (j : Int) < (row.length : Int) := by omega
    have hE1 : ¬ E1 = 0 := fun e => hgo ⟨hlt, e⟩
    by_cases hd0 : deep = 0
    ·subst hd0
     simp [pc31_l1, pc31_r1, a0, a2, a6, a7, a8, x0, q1, q2, r1, r2, g0', n1, hlt', hE1]
     refine returnsI_calls (s := s1) L (by omega) hv1 (by omega) fun E5 s5 lv5 σ5 hE5 hn5 hv5 A5 L5 => ?_
     have r5 := hv5.one
     have r6 := hv5.len
     have y0 := (A5.obj _ (by omega) m1).trans x0
     have hno5 := A5.no
     obtain ⟨fsv5, pv5, lv25, tv5, cv5, g5, _, _, _, _, _, lk5⟩ := L5.any
     have fin5 : E5 = 0 → s5.stack.length = 0 → E = 0 ∧ lookE fs ls f.type f.lists (k + 1) (i : Int) 0 = .ok () := fun e e0 => by
      obtain ⟨e1, e2⟩ := hE5 e
      obtain ⟨e3, e4⟩ := hE2 e1
      refine ⟨e3, ?_⟩
      rw [lookE, hgd, e4]
      simp only [endE, if_true]
      rw [e2]
      simp [e0]
     have B5 := (B.trans A5).setO (Nat.le_refl _) [lv5, AV.bool s5.any]
     by_cases hz : s5.stack.length = 0
     ·simp [r5, r6, y0, a0, a6, hz, splice]
      exact hR E5 _ (fun e => fin5 e hz) B5 (L5.keep (by simp [n1]))
     ·have hz' : 0 < s5.stack.length := by omega
      by_cases hE0 : E5 = 0
      ·simp [r5, r6, y0, a0, a6, hz', n1, g5, hE0, splice]
       exact hR 14 _ (fun e => by omega) (B5.set _) (lk5 _ _ (by simp))
      ·simp [r5, r6, y0, a0, a6, hz', n1, g5, hE0, splice]
       exact hR E5 _ (fun e => absurd e hE0) B5 (L5.keep (by simp [n1]))
    ·have fin5 : E1 = 0 → s1.stack.length = 0 → E = 0 ∧ lookE fs ls f.type f.lists (k + 1) (i : Int) deep = .ok () := fun e1 e0 => by
      obtain ⟨e3, e4⟩ := hE2 e1
      refine ⟨e3, ?_⟩
      rw [lookE, hgd, e4]
      simp only [endE, if_neg hd0]
      simp [e0]
     by_cases hz : s1.stack.length = 0
     ·simp [pc31_l1, pc31_r1, a0, a2, a6, a7, a8, x0, q1, q2, r1, r2, g0', n1, hlt', hE1, hd0, hz]
      exact hR E1 _ (fun e => fin5 e hz) B L
     ·have hz' : 0 < s1.stack.length := by omega
      by_cases hE0 : E1 = 0
      ·exact absurd hE0 hE1
      ·simp [pc31_l1, pc31_r1, a0, a2, a6, a7, a8, x0, q1, q2, r1, r2, g0', n1, hlt', hE1, hd0, hz', hE0, splice]
       exact hR E1 _ (fun e => absurd e hE0) B L
   ·have hlt' : ¬ (j : Int) < (row.length : Int) := by omega
    by_cases hd0 : deep = 0
    ·subst hd0
     simp [pc31_l1, pc31_r1, a0, a2, a6, a7, a8, x0, q1, q2, r1, r2, g0', n1, hlt']
     refine returnsI_calls (s := s1) L (by omega) hv1 (by omega) fun E5 s5 lv5 σ5 hE5 hn5 hv5 A5 L5 => ?_
     have r5 := hv5.one
     have r6 := hv5.len
     have y0 := (A5.obj _ (by omega) m1).trans x0
     have hno5 := A5.no
     obtain ⟨fsv5, pv5, lv25, tv5, cv5, g5, _, _, _, _, _, lk5⟩ := L5.any
     have fin5 : E5 = 0 → s5.stack.length = 0 → E = 0 ∧ lookE fs ls f.type f.lists (k + 1) (i : Int) 0 = .ok () := fun e e0 => by
      obtain ⟨e1, e2⟩ := hE5 e
      obtain ⟨e3, e4⟩ := hE2 e1
      refine ⟨e3, ?_⟩
      rw [lookE, hgd, e4]
      simp only [endE, if_true]
      rw [e2]
      simp [e0]
     have B5 := (B.trans A5).setO (Nat.le_refl _) [lv5, AV.bool s5.any]
     by_cases hz : s5.stack.length = 0
     ·simp [r5, r6, y0, a0, a6, hz, splice]
      exact hR E5 _ (fun e => fin5 e hz) B5 (L5.keep (by simp [n1]))
     ·have hz' : 0 < s5.stack.length := by omega
      by_cases hE0 : E5 = 0
      ·simp [r5, r6, y0, a0, a6, hz', n1, g5, hE0, splice]
       exact hR 14 _ (fun e => by omega) (B5.set _) (lk5 _ _ (by simp))
      ·simp [r5, r6, y0, a0, a6, hz', n1, g5, hE0, splice]
       exact hR E5 _ (fun e => absurd e hE0) B5 (L5.keep (by simp [n1]))
    ·have fin5 : E1 = 0 → s1.stack.length = 0 → E = 0 ∧ lookE fs ls f.type f.lists (k + 1) (i : Int) deep = .ok () := fun e1 e0 => by
      obtain ⟨e3, e4⟩ := hE2 e1
      refine ⟨e3, ?_⟩
      rw [lookE, hgd, e4]
      simp only [endE, if_neg hd0]
      simp [e0]
     by_cases hz : s1.stack.length = 0
     ·simp [pc31_l1, pc31_r1, a0, a2, a6, a7, a8, x0, q1, q2, r1, r2, g0', n1, hlt', hd0, hz]
      exact hR E1 _ (fun e => fin5 e hz) B L
     ·have hz' : 0 < s1.stack.length := by omega
      by_cases hE0 : E1 = 0
      ·simp [pc31_l1, pc31_r1, a0, a2, a6, a7, a8, x0, q1, q2, r1, r2, g0', n1, hlt', hd0, hz', hE0, splice]
       exact hR 14 _ (fun e => by omega) (B.set _) (lk' _ _ (by simp))
      ·simp [pc31_l1, pc31_r1, a0, a2, a6, a7, a8, x0, q1, q2, r1, r2, g0', n1, hlt', hd0, hz', hE0, splice]
       exact hR E1 _ (fun e => absurd e hE0) B L
end
end Go.Proofs.YthifgodgfhbnfaaGreatDoor.Rf
set_option linter.unusedSimpArgs false
set_option linter.unusedVariables false
namespace Go.Proofs.YthifgodgfhbnfaaGreatDoor.Al
open Go Go.Abs Go.Proofs.YthifgodgfhbnfaaGreatDoor
def Rd (σ : AS) : Go.Abs.Own → Prop
 | .stat _ => True
 | .fam f _ => f < σ.nf ∧ σ.F f = .alive
theorem Rd.read {σ φ} (h : Rd σ φ) : Readable σ.F φ := by
 cases φ with
 | stat b => exact trivial
 | fam f b => exact h.2
theorem Rd.keep {σ σ' φ} (h : Rd σ φ) (A : Adds σ σ') : Rd σ' φ := by
 cases φ with
 | stat b => exact trivial
 | fam f b => exact ⟨by have := A.nf; have := h.1; omega, (A.fam f h.1).trans h.2⟩
def IntsO (σ : AS) (v : AV) (l : List Int) : Prop := (l = [] ∧ v = .nilsl) ∨ ∃ φ, v = .sl φ 1 (l.map (.int .i64)) ∧ Rd σ φ
def RepO (σ : AS) (v : AV) (l : List W) : Prop := (l = [] ∧ v = .nilsl) ∨ ∃ φ, v = .sl φ 6 (l.map W.av) ∧ Rd σ φ
def LstO (σ : AS) (v : AV) (l : To) : Prop := (l = [] ∧ v = .nilsl) ∨ ∃ φ rows, v = .sl φ 1 rows ∧ Rd σ φ ∧ All2 (RepO σ) rows l
def FVO (σ : AS) (v : AV) (f : F) : Prop := ∃ pv lv tv, v = .agg [.str f.name, pv, lv, .int .i64 f.type, tv] ∧ IntsO σ pv f.params ∧ IntsO σ lv f.locals ∧ LstO σ tv f.lists
def FsO (σ : AS) (v : AV) (l : List F) : Prop := (l = [] ∧ v = .nilsl) ∨ ∃ φ rows, v = .sl φ 5 rows ∧ Rd σ φ ∧ All2 (FVO σ) rows l
def MO (σ : AS) (v : AV) (m : M) : Prop := ∃ fv, v = .agg [fv, .int .i64 m.memory, .int .i64 m.main] ∧ FsO σ fv m.funcs
theorem IntsO.one {σ v l} (h : IntsO σ v l) : v.known = true ∧ v.one = true ∧ v.cells = [v] := by rcases h with ⟨_, rfl⟩ | ⟨b, rfl, _⟩ <;> simp
theorem RepO.one {σ v l} (h : RepO σ v l) : v.known = true ∧ v.one = true ∧ v.cells = [v] := by rcases h with ⟨_, rfl⟩ | ⟨b, rfl, _⟩ <;> simp
theorem LstO.one {σ v l} (h : LstO σ v l) : v.known = true ∧ v.one = true ∧ v.cells = [v] := by rcases h with ⟨_, rfl⟩ | ⟨b, _, rfl, _⟩ <;> simp
theorem FsO.one {σ v l} (h : FsO σ v l) : v.known = true ∧ v.one = true ∧ v.cells = [v] := by rcases h with ⟨_, rfl⟩ | ⟨b, _, rfl, _⟩ <;> simp
theorem IntsO.keep {σ σ' v l} (h : IntsO σ v l) (A : Adds σ σ') : IntsO σ' v l := by
 rcases h with h | ⟨φ, h, r⟩
 ·exact .inl h
 ·exact .inr ⟨φ, h, r.keep A⟩
theorem RepO.keep {σ σ' v l} (h : RepO σ v l) (A : Adds σ σ') : RepO σ' v l := by
 rcases h with h | ⟨φ, h, r⟩
 ·exact .inl h
 ·exact .inr ⟨φ, h, r.keep A⟩
theorem all2_mono {α β : Type} {R S : α → β → Prop} {xs ys} (h : All2 R xs ys) (hs : ∀ x y, R x y → S x y) : All2 S xs ys := by
 induction h with
 | nil => exact .nil
 | cons h r ih => exact .cons (hs _ _ h) ih
theorem LstO.keep {σ σ' v l} (h : LstO σ v l) (A : Adds σ σ') : LstO σ' v l := by
 rcases h with h | ⟨φ, rows, h, r, k⟩
 ·exact .inl h
 ·exact .inr ⟨φ, rows, h, r.keep A, all2_mono k fun _ _ q => q.keep A⟩
theorem FVO.keep {σ σ' v l} (h : FVO σ v l) (A : Adds σ σ') : FVO σ' v l := by
 obtain ⟨pv, lv, tv, h, a, b, c⟩ := h
 exact ⟨pv, lv, tv, h, a.keep A, b.keep A, c.keep A⟩
theorem FsO.keep {σ σ' v l} (h : FsO σ v l) (A : Adds σ σ') : FsO σ' v l := by
 rcases h with h | ⟨φ, rows, h, r, k⟩
 ·exact .inl h
 ·exact .inr ⟨φ, rows, h, r.keep A, all2_mono k fun _ _ q => q.keep A⟩
theorem IntsO.len {σ v l} (h : IntsO σ v l) (K : AV → Prop) : alen Tryz.prog 25 v K = K (.int .i64 (l.length : Int)) := by rcases h with ⟨rfl, rfl⟩ | ⟨b, rfl, _⟩ <;> simp
theorem LstO.len {σ v l} (h : LstO σ v l) (K : AV → Prop) : alen Tryz.prog 39 v K = K (.int .i64 (l.length : Int)) := by
 rcases h with ⟨rfl, rfl⟩ | ⟨b, rows, rfl, _, hr⟩
 ·simp
 ·simp [hr.length]
theorem FsO.len {σ v l} (h : FsO σ v l) (K : AV → Prop) : alen Tryz.prog 22 v K = K (.int .i64 (l.length : Int)) := by
 rcases h with ⟨rfl, rfl⟩ | ⟨b, rows, rfl, _, hr⟩
 ·simp
 ·simp [hr.length]
theorem IntsO.at {σ v l} (h : IntsO σ v l) {i : Nat} (hi : i < l.length) : ∃ φ, Rd σ φ ∧ ∀ K : AV → Prop, aindexAddr Tryz.prog 25 v (.int .i64 (i : Int)) K = K (.pv φ (.int .i64 l[i])) := by
 rcases h with ⟨rfl, _⟩ | ⟨φ, rfl, r⟩
 ·simp at hi
 ·exact ⟨φ, r, fun K => by simp [hi]⟩
theorem LstO.at {σ v l} (h : LstO σ v l) {i : Nat} (hi : i < l.length) : ∃ φ rv, Rd σ φ ∧ RepO σ rv l[i] ∧ ∀ K : AV → Prop, aindexAddr Tryz.prog 39 v (.int .i64 (i : Int)) K = K (.pv φ rv) := by
 rcases h with ⟨rfl, _⟩ | ⟨φ, rows, rfl, r, hr⟩
 ·simp at hi
 ·obtain ⟨rv, h1, h2⟩ := hr.get (List.getElem?_eq_getElem hi)
  exact ⟨φ, rv, r, h2, fun K => by simp [h1]⟩
theorem FsO.at {σ v l} (h : FsO σ v l) {i : Nat} (hi : i < l.length) : ∃ φ rv, Rd σ φ ∧ FVO σ rv l[i] ∧ ∀ K : AV → Prop, aindexAddr Tryz.prog 22 v (.int .i64 (i : Int)) K = K (.pv φ rv) := by
 rcases h with ⟨rfl, _⟩ | ⟨φ, rows, rfl, r, hr⟩
 ·simp at hi
 ·obtain ⟨rv, h1, h2⟩ := hr.get (List.getElem?_eq_getElem hi)
  exact ⟨φ, rv, r, h2, fun K => by simp [h1]⟩
def EI (va vb : AV) (n : Nat) (σ : AS) (a : Nat → AV) (τ : AS) : Prop := ∃ i : Nat, i ≤ n ∧ a 0 = va ∧ a 1 = vb ∧ a 5 = .int .i64 (i : Int) ∧ Adds σ τ
theorem eqInts_calls {G : Env} {σ : AS} {R : Out → AS → Prop} {va vb : AV} {l : List Int} (ha : IntsO σ va l) (hb : IntsO σ vb l) (hl : l.length ≤ 2 ^ 40) (h : ∀ σ', Adds σ σ' → R (.ret (.bool true)) σ') : ACalls Tryz.prog G 23 [va, vb] σ R := by
 refine calls23 rfl ?_
 have hal := ha.len
 have hbl := hb.len
 simp [pc23, hal, hbl]
 refine aloop (EI va vb l.length σ) (MU 5 (l.length + 1)) ⟨0, by omega, by simp, by simp, by simp, .refl _⟩ fun a τ hI => ?_
 obtain ⟨i, hi, a0, a1, a5, A⟩ := hI
 by_cases hlt : i < l.length
 ·obtain ⟨φ, r1, hx1⟩ := (ha.keep A).at hlt
  obtain ⟨ψ, r2, hx2⟩ := (hb.keep A).at hlt
  have q1 := r1.read
  have q2 := r2.read
  have w5 : IntKind.wrap .i64 ((i : Int) + 1) = ((i + 1 : Nat) : Int) := by rw [wrap_i64] <;> omega
  simp [pc23_l1, a0, a1, a5, hal, hlt, hx1, hx2, w5, q1, q2]
  refine ⟨⟨i + 1, by omega, by simp [a0], by simp [a1], by simp, A⟩, ?_⟩
  simp only [MU, a5]; simp; omega
 ·simp [pc23_l1, pc23_r1, a0, a1, a5, hal, hlt]
  exact h _ A
theorem eqLists_calls {G : Env} {σ : AS} {R : Out → AS → Prop} {va vb : AV} {l : To} (ha : LstO σ va l) (hb : LstO σ vb l) (hl : l.length ≤ 2 ^ 40) (hr : ∀ r ∈ l, r.length ≤ 2 ^ 30) (h : ∀ σ', Adds σ σ' → R (.ret (.bool true)) σ') : ACalls Tryz.prog G 64 [va, vb] σ R := by
 refine calls64 rfl ?_
 have hal := ha.len
 have hbl := hb.len
 simp [pc64, hal, hbl]
 refine aloop (EI va vb l.length σ) (MU 5 (l.length + 1)) ⟨0, by omega, by simp, by simp, by simp, .refl _⟩ fun a τ hI => ?_
 obtain ⟨i, hi, a0, a1, a5, A⟩ := hI
 by_cases hlt : i < l.length
 ·obtain ⟨φ, rv1, r1, e1, hx1⟩ := (ha.keep A).at hlt
  obtain ⟨ψ, rv2, r2, e2, hx2⟩ := (hb.keep A).at hlt
  have q1 := r1.read
  have q2 := r2.read
  have o1 := e1.one
  have o2 := e2.one
  have hrl := hr _ (List.getElem_mem hlt)
  have w5 : IntKind.wrap .i64 ((i : Int) + 1) = ((i + 1 : Nat) : Int) := by rw [wrap_i64] <;> omega
  have sl : ∀ {v : AV} {r : List W}, RepO τ v r → SlW τ v r := fun h => by
   rcases h with ⟨h1, h2⟩ | ⟨φ, h1, h2⟩
   ·exact .inl ⟨h1, h2⟩
   ·exact .inr ⟨φ, h1, h2.read⟩
  simp [pc64_l1, a0, a1, a5, hal, hlt, hx1, hx2, q1, q2, o1, o2]
  refine same_calls (sl e1) (sl e2) hrl ?_
  simp [w5, a5]
  refine ⟨⟨i + 1, by omega, by simp [a0], by simp [a1], by simp, A⟩, ?_⟩
  simp only [MU, a5]; simp; omega
 ·simp [pc64_l1, pc64_r1, a0, a1, a5, hal, hlt]
  exact h _ A
structure SzE (f : F) : Prop where
 params : f.params.length ≤ 2 ^ 40
 locals : f.locals.length ≤ 2 ^ 40
 lists : f.lists.length ≤ 2 ^ 40
 rows : ∀ r ∈ f.lists, r.length ≤ 2 ^ 30
theorem eqF_calls {G : Env} {σ : AS} {R : Out → AS → Prop} {va vb : AV} {f : F} (ha : FVO σ va f) (hb : FVO σ vb f) (hs : SzE f) (h : ∀ σ', Adds σ σ' → R (.ret (.bool true)) σ') : ACalls Tryz.prog G 44 [va, vb] σ R := by
 refine calls44 rfl ?_
 obtain ⟨pa, la, ta, rfl, hpa, hla, hta⟩ := ha
 obtain ⟨pb, lb, tb, rfl, hpb, hlb, htb⟩ := hb
 have a1 := hpa.one
 have a2 := hla.one
 have a3 := hta.one
 have b1 := hpb.one
 have b2 := hlb.one
 have b3 := htb.one
 simp [pc44, a1, a2, a3, b1, b2, b3]
 have A1 : Adds σ ((σ.newO [AV.str f.name, pa, la, AV.int IntKind.i64 f.type, ta]).newO [AV.str f.name, pb, lb, AV.int IntKind.i64 f.type, tb]) := (Adds.refl σ).newO.newO
 have oa : ((σ.newO [AV.str f.name, pa, la, AV.int IntKind.i64 f.type, ta]).newO [AV.str f.name, pb, lb, AV.int IntKind.i64 f.type, tb]).objs σ.no = some [AV.str f.name, pa, la, AV.int IntKind.i64 f.type, ta] := by simp
 have ob : ((σ.newO [AV.str f.name, pa, la, AV.int IntKind.i64 f.type, ta]).newO [AV.str f.name, pb, lb, AV.int IntKind.i64 f.type, tb]).objs (σ.no + 1) = some [AV.str f.name, pb, lb, AV.int IntKind.i64 f.type, tb] := by simp
 have n1 : ((σ.newO [AV.str f.name, pa, la, AV.int IntKind.i64 f.type, ta]).newO [AV.str f.name, pb, lb, AV.int IntKind.i64 f.type, tb]).no = σ.no + 2 := by simp
 generalize (σ.newO [AV.str f.name, pa, la, AV.int IntKind.i64 f.type, ta]).newO [AV.str f.name, pb, lb, AV.int IntKind.i64 f.type, tb] = σ1 at *
 refine eqInts_calls (hpa.keep A1) (hpb.keep A1) hs.params fun σ2 A2 => ?_
 have oa2 := (A2.obj _ (by omega)).trans oa
 have ob2 := (A2.obj _ (by omega)).trans ob
 have n2 := A2.no
 have B2 := A1.trans A2
 simp [oa2, ob2, a1, a2, a3, b1, b2, b3]
 refine eqInts_calls (hla.keep B2) (hlb.keep B2) hs.locals fun σ3 A3 => ?_
 have oa3 := (A3.obj _ (by omega)).trans oa2
 have ob3 := (A3.obj _ (by omega)).trans ob2
 have B3 := B2.trans A3
 simp [oa3, ob3, a1, a2, a3, b1, b2, b3]
 refine eqLists_calls (hta.keep B3) (htb.keep B3) hs.lists hs.rows fun σ4 A4 => ?_
 simp
 exact h _ (B3.trans A4)
theorem eqFs_calls {G : Env} {σ : AS} {R : Out → AS → Prop} {va vb : AV} {l : List F} (ha : FsO σ va l) (hb : FsO σ vb l) (hl : l.length ≤ 2 ^ 40) (hs : ∀ f ∈ l, SzE f) (h : ∀ σ', Adds σ σ' → R (.ret (.bool true)) σ') : ACalls Tryz.prog G 28 [va, vb] σ R := by
 refine calls28 rfl ?_
 have hal := ha.len
 have hbl := hb.len
 simp [pc28, hal, hbl]
 refine aloop (EI va vb l.length σ) (MU 5 (l.length + 1)) ⟨0, by omega, by simp, by simp, by simp, .refl _⟩ fun a τ hI => ?_
 obtain ⟨i, hi, a0, a1, a5, A⟩ := hI
 by_cases hlt : i < l.length
 ·obtain ⟨φ, rv1, r1, e1, hx1⟩ := (ha.keep A).at hlt
  obtain ⟨ψ, rv2, r2, e2, hx2⟩ := (hb.keep A).at hlt
  have q1 := r1.read
  have q2 := r2.read
  have hsz := hs _ (List.getElem_mem hlt)
  generalize l[i] = f at *
  have w5 : IntKind.wrap .i64 ((i : Int) + 1) = ((i + 1 : Nat) : Int) := by rw [wrap_i64] <;> omega
  have f1 := e1
  have f2 := e2
  obtain ⟨pa, la, ta, rfl, hpa, hla, hta⟩ := e1
  obtain ⟨pb, lb, tb, rfl, hpb, hlb, htb⟩ := e2
  have o1 := hpa.one
  have o2 := hla.one
  have o3 := hta.one
  have o4 := hpb.one
  have o5 := hlb.one
  have o6 := htb.one
  simp [pc28_l1, a0, a1, a5, hal, hlt, hx1, hx2, q1, q2, o1, o2, o3, o4, o5, o6]
  refine eqF_calls f1 f2 hsz fun σ2 A2 => ?_
  simp [w5, a5]
  refine ⟨⟨i + 1, by omega, by simp [a0], by simp [a1], by simp, A.trans A2⟩, ?_⟩
  simp only [MU, a5]; simp; omega
 ·simp [pc28_l1, pc28_r1, a0, a1, a5, hal, hlt]
  exact h _ A
theorem eqM_calls {G : Env} {σ : AS} {R : Out → AS → Prop} {va vb : AV} {m : M} (ha : MO σ va m) (hb : MO σ vb m) (hl : m.funcs.length ≤ 2 ^ 40) (hs : ∀ f ∈ m.funcs, SzE f) (h : ∀ σ', Adds σ σ' → R (.ret (.bool true)) σ') : ACalls Tryz.prog G 12 [va, vb] σ R := by
 refine calls12 rfl ?_
 obtain ⟨fa, rfl, hfa⟩ := ha
 obtain ⟨fb, rfl, hfb⟩ := hb
 have a1 := hfa.one
 have b1 := hfb.one
 simp [pc12, a1, b1]
 have A1 : Adds σ ((σ.newO [fa, AV.int IntKind.i64 m.memory, AV.int IntKind.i64 m.main]).newO [fb, AV.int IntKind.i64 m.memory, AV.int IntKind.i64 m.main]) := (Adds.refl σ).newO.newO
 refine eqFs_calls (hfa.keep A1) (hfb.keep A1) hl hs fun σ2 A2 => ?_
 simp
 exact h _ (A1.trans A2)
theorem rep_o {σ : AS} {v l} (h : RepL v l) : RepO σ v l := by
 rcases h with h | ⟨b, h⟩
 ·exact .inl h
 ·exact .inr ⟨_, h, trivial⟩
theorem ints_o {σ : AS} {v l} (h : IntsV v l) : IntsO σ v l := by
 rcases h with h | ⟨b, h⟩
 ·exact .inl h
 ·exact .inr ⟨_, h, trivial⟩
theorem lists_o {σ : AS} {v l} (h : ListsV v l) : LstO σ v l := by
 rcases h with h | ⟨b, rows, h, k⟩
 ·exact .inl h
 ·exact .inr ⟨_, rows, h, trivial, all2_mono k fun _ _ q => rep_o q⟩
theorem m_o {σ : AS} {v m} (h : MV v m) : MO σ v m := by
 obtain ⟨fv, rfl, hf⟩ := h
 refine ⟨fv, rfl, ?_⟩
 rcases hf with h | ⟨b, rows, h, k⟩
 ·exact .inl h
 ·refine .inr ⟨_, rows, h, trivial, all2_mono k fun _ _ q => ?_⟩
  obtain ⟨pv, lv, tv, h, a, b, c⟩ := q
  exact ⟨pv, lv, tv, h, ints_o a, ints_o b, lists_o c⟩
end Go.Proofs.YthifgodgfhbnfaaGreatDoor.Al
set_option linter.unusedSimpArgs false
set_option linter.unusedVariables false
namespace Go.Proofs.YthifgodgfhbnfaaGreatDoor.Rf
open Go Go.Abs Go.Proofs.YthifgodgfhbnfaaGreatDoor
theorem namesL_len (w : W) : (namesL w).length ≤ 2 := by unfold namesL; split <;> (try split) <;> simp
theorem rowN_len (r : List W) : (rowN r).length ≤ r.length * 2 := by
 induction r with
 | nil => simp [rowN]
 | cons w r ih =>
  have e : rowN (w :: r) = namesL w ++ rowN r := by simp [rowN]
  have := namesL_len w
  rw [e]; simp; omega
theorem rowsN_len {a : Nat} : ∀ {l : To}, (∀ r ∈ l, r.length ≤ a) → (rowsN l).length ≤ l.length * (a * 2)
 | [], _ => by simp [rowsN]
 | r :: l, h => by
  have e : rowsN (r :: l) = rowN r ++ rowsN l := by simp [rowsN]
  have h1 := rowN_len r
  have h2 := h r (by simp)
  have h3 := rowsN_len (l := l) fun r hr => h r (by simp [hr])
  rw [e]; simp
  rw [Nat.add_mul]; omega
theorem fsv_frz {v : AV} {l : List F} (h : FsV v l) (g : Nat) : Go.Abs.frz g v = v := by
 rcases h with ⟨_, rfl⟩ | ⟨b, rows, rfl, hr⟩
 ·simp
 ·simp [frz_fs hr g]
def pc14_a : PC := match pc14 with | .seq a _ => a | _ => .skip
def pc14_b : PC := match pc14 with | .seq _ (.seq b _) => b | _ => .skip
def pc14_t : PC := match pc14 with | .seq _ (.seq _ t) => t | _ => .skip
theorem pc14_split : pc14 = .seq pc14_a (.seq pc14_b pc14_t) := rfl
def pc14_c : PC := match pc14_t with | .seq c _ => c | _ => .skip
def pc14_w : PC := match pc14_t with | .seq _ t => t | _ => .skip
theorem pc14_tsplit : pc14_t = .seq pc14_c pc14_w := rfl
theorem numbers_all {l : List Int} (h : (l.any fun t => !numberB t) = false) : l.all numberB = true := by
 rw [List.all_eq_true]
 intro x hx
 rw [List.any_eq_false] at h
 have := h x hx
 simpa using this
section
variable {G : Env} {fs : List F} {mm mn : Int} {f : F} {σ : AS} {R : Out → AS → Prop}
theorem AddB.adds {xl : Nat} {σ τ τ' : AS} (A : Adds σ τ) (B : AddB xl τ τ') (hx : σ.no ≤ xl) : Adds σ τ' :=
 ⟨Nat.le_trans A.no B.no, Nat.le_trans A.nf B.nf, fun o ho => (B.obj o (Nat.lt_of_lt_of_le ho A.no) (by omega)).trans (A.obj o ho), fun g hg => (B.fam g (Nat.lt_of_lt_of_le hg A.nf)).trans (A.fam g hg)⟩
def FI14 (fo xl : Nat) (τ0 : AS) (ls : List Int) (bad0 : Bool) (a : Nat → AV) (τ : AS) : Prop :=
 ∃ i : Nat, i ≤ ls.length ∧ τ = τ0 ∧ a 3 = .ptr fo 0 ∧ a 5 = .ptr xl 0 ∧ a 7 = .int .i64 (i : Int) ∧ a 6 = .bool (bad0 || (ls.take i).any fun t => !numberB t)
def OwnL (σ τ : AS) (cv : AV) (ls : List Int) : Prop := (ls = [] ∧ cv = .nilsl) ∨ ∃ q, cv = .sl (.fam q false) 1 (ls.map (.int .i64)) ∧ τ.F q = .alive ∧ σ.nf ≤ q ∧ q < τ.nf
theorem OwnL.ints {σ τ cv ls} (h : OwnL σ τ cv ls) : Al.IntsO τ cv ls := by
 rcases h with h | ⟨q, h, h1, h2, h3⟩
 ·exact .inl h
 ·exact .inr ⟨_, h, h3, h1⟩
set_option maxHeartbeats 4000000 in
theorem function_tail {fsv pv lv tv cv : AV} {a : Nat → AV} {τ : AS} {xl fo : Nat} {bad0 : Bool} (hv : FsV fsv fs) (hp : IntsV pv f.params) (hlo : IntsV lv f.locals) (ht : ListsV tv f.lists) (hc : OwnL σ τ cv (f.params ++ f.locals)) (hl : fs.length ≤ 2 ^ 38) (hts : ∀ f ∈ fs, f.params.length ≤ 2 ^ 38) (hs : SmallF f) (hwn : ∀ r ∈ f.lists, ∀ w ∈ r, -(2 ^ 63) ≤ w.n ∧ w.n < 2 ^ 63)
  (hR : ∀ e σ', (e = 0 → functionE fs f = .ok ()) → Adds σ σ' → R (.ret (.int .i64 e)) σ') (hbad : bad0 = !(decide (0 ≤ f.type) && decide (f.type ≤ 2))) (a3 : a 3 = .ptr fo 0) (a5 : a 5 = .ptr xl 0) (a6 : a 6 = .bool bad0) (hfo : τ.objs fo = some [.str f.name, pv, lv, .int .i64 f.type, tv])
  (hxo : τ.objs xl = some [fsv, .int .i64 mm, .int .i64 mn, .str f.name, pv, lv, .int .i64 f.type, tv, cv, .int .i64 0]) (A : Adds σ τ) (hx : σ.no ≤ xl ∧ xl < τ.no) (hfn : fo < τ.no) (hne : ¬ fo = xl) : avc Tryz.prog G 61 pc14_w (afin Tryz.prog [.tmp 4] R) a τ := by
 have v1 := hv.one
 have p1 := hp.one
 have l1 := hlo.one
 have t1 := ht.one
 have t2 := ht.len
 obtain ⟨s1, s2, s3, s4⟩ := hs
 have hlsl : (f.params ++ f.locals).length ≤ 6000 := by simp; omega
 have hio := hc.ints
 have c1 := hio.one
 have c2 := hio.len
 have hfE : functionE fs f = if ((f.params ++ f.locals).all numberB && decide (0 ≤ f.type) && decide (f.type ≤ 2)) = false then .error 6 else match listsE f.lists with
  | .error e => .error e
  | .ok _ => lookE fs (f.params ++ f.locals) f.type f.lists f.lists.length ((f.lists.length : Int) - 1) 0 := rfl
 generalize f.params ++ f.locals = ls at *
 simp [pc14_w, pc14_t, pc14]
 refine aloop (FI14 fo xl τ ls bad0) (MU 7 (ls.length + 1)) ⟨0, by omega, rfl, by simp [a3], by simp [a5], by simp, by simp [a6]⟩ fun a2 τ2 hI => ?_
 obtain ⟨i, hi, rfl, b3, b5, b7, b6⟩ := hI
 by_cases hlt : i < ls.length
 ·have hlt' : (i : Int) < (ls.length : Int) := by omega
  obtain ⟨φ, hrd, hix⟩ := hio.at hlt
  have hread := hrd.read
  have hts' : (ls.take (i + 1)).any (fun t => !numberB t) = ((ls.take i).any (fun t => !numberB t) || !numberB ls[i]) := by
   rw [List.take_succ_eq_append_getElem hlt, List.any_append]; simp only [List.any_cons, List.any_nil, Bool.or_false]
  generalize ls[i] = t at *
  have w3 : IntKind.wrap .i64 ((i : Int) + 1) = ((i + 1 : Nat) : Int) := by rw [wrap_i64] <;> omega
  by_cases hb : (bad0 || (ls.take i).any fun t => !numberB t) = true
  ·simp [pc14_l1, b3, b5, b6, b7, hxo, c1, c2, hlt', hb, w3]
   refine ⟨⟨i + 1, by omega, rfl, by simp [b3], by simp [b5], by simp, ?_⟩, ?_⟩
   ·rw [hts', ← Bool.or_assoc, hb]; simp
   ·simp only [MU, b7]; simp; omega
  ·have hb : (bad0 || (ls.take i).any fun t => !numberB t) = false := by simpa using hb
   simp [pc14_l1, b3, b5, b6, b7, hxo, c1, c2, hlt', hb, w3, hix, hread]
   refine value_calls ?_
   simp [b7, w3]
   refine ⟨⟨i + 1, by omega, rfl, by simp [b3], by simp [b5], by simp, ?_⟩, ?_⟩
   ·rw [hts', ← Bool.or_assoc, hb]; simp
   ·simp only [MU, b7]; simp; omega
 ·have hie : i = ls.length := by omega
  subst hie
  have hlt' : ¬ (ls.length : Int) < (ls.length : Int) := by omega
  rw [List.take_length] at b6
  by_cases hb : (bad0 || ls.any fun t => !numberB t) = true
  ·simp [pc14_l1, pc14_r1, b3, b5, b6, b7, hxo, c1, c2, hb]
   exact hR 6 _ (fun e => by omega) A
  ·have hb : (bad0 || ls.any fun t => !numberB t) = false := by simpa using hb
   simp [pc14_l1, pc14_r1, b3, b5, b6, b7, hxo, c1, c2, hb, hfo, p1, l1, t1]
   simp only [Bool.or_eq_false_iff] at hb
   have hall := numbers_all hb.2
   have hty : (decide (0 ≤ f.type) && decide (f.type ≤ 2)) = true := by rw [hb.1] at hbad; simpa using hbad.symm
   rw [if_neg (by rw [Bool.and_assoc, hall, hty]; simp)] at hfE
   have hrows := rowsN_len s4
   refine named_calls (f := f) ⟨pv, lv, tv, rfl, hp, hlo, ht⟩ (by omega) (fun r hr => by have := s4 r hr; omega) (by have := Nat.mul_le_mul_right (3000 * 2) s3; omega) fun b σ3 hb3 A3 => ?_
   have y0 := (A3.obj fo (by omega)).trans hfo
   have y1 := (A3.obj xl (by omega)).trans hxo
   have hno3 := A3.no
   have hnf3 := A3.nf
   have A4 := A.trans A3
   cases b with
   | false =>
    simp [b5]
    exact hR 11 _ (fun e => by omega) A4
   | true =>
    have hls := hb3 rfl
    rw [hls] at hfE
    simp only at hfE
    obtain ⟨hl0, hah, _⟩ := listsE_ok hls
    have w4 : IntKind.wrap .i64 ((f.lists.length : Int) - 1) = (f.lists.length : Int) - 1 := by rw [wrap_i64] <;> omega
    have hlist := listI_calls (G := G) (xl := xl) (mm := mm) (mn := mn) (ls := ls) hl hts hah (fun r hr => by have := s4 r hr; omega) hwn f.lists.length (Nat.le_refl _)
    simp [b3, b5, y0, t1, t2, w4]
    rcases hc with ⟨e, rfl⟩ | ⟨q, rfl, hq1, hq2, hq3⟩
    ·refine hlist ((f.lists.length : Int) - 1) 0 0 σ3 _ (by omega) (by omega) (by omega) (by omega) ⟨fsv, pv, lv, tv, .nilsl, y1, hv, hp, hlo, ht, .inl ⟨e, rfl⟩⟩ (by omega) fun E' σ5 hE A5 L5 => ?_
     obtain ⟨fsv5, pv5, lv25, tv5, cv5, g5, _, _, _, _, _, _⟩ := L5.any
     simp [b5, g5]
     exact hR E' _ (fun e => by rw [hfE]; exact (hE e).2) (AddB.adds A4 A5 hx.1)
    ·refine ACalls.frzIn (· == xl) (f := q) (by rw [A3.fam q hq3]; exact hq1) ?_
     have A6 : Adds σ (σ3.frz q (· == xl)) := A4.frz hq2 fun o ho => by simp; omega
     have y6 : (σ3.frz q (· == xl)).objs xl = some [fsv, .int .i64 mm, .int .i64 mn, .str f.name, pv, lv, .int .i64 f.type, tv, .sl (.stat false) 1 (ls.map (.int .i64)), .int .i64 0] := by
      simp [AS.frz, y1, fsv_frz hv, hp.frz, hlo.frz, ht.frz, Function.comp_def]
     have n6 : (σ3.frz q (· == xl)).no = σ3.no := rfl
     generalize σ3.frz q (· == xl) = σ6 at *
     refine hlist ((f.lists.length : Int) - 1) 0 0 σ6 _ (by omega) (by omega) (by omega) (by omega) ⟨fsv, pv, lv, tv, _, y6, hv, hp, hlo, ht, .inr ⟨_, rfl⟩⟩ (by omega) fun E' σ5 hE A5 L5 => ?_
     obtain ⟨fsv5, pv5, lv25, tv5, cv5, g5, _, _, _, _, _, _⟩ := L5.any
     simp [b5, g5]
     exact hR E' _ (fun e => by rw [hfE]; exact (hE e).2) (AddB.adds A6 A5 hx.1)
set_option maxHeartbeats 4000000 in
theorem functionI_calls {fsv fv : AV} (hv : FsV fsv fs) (hf : FV fv f) (hl : fs.length ≤ 2 ^ 38) (hts : ∀ f ∈ fs, f.params.length ≤ 2 ^ 38) (hs : SmallF f) (hwn : ∀ r ∈ f.lists, ∀ w ∈ r, -(2 ^ 63) ≤ w.n ∧ w.n < 2 ^ 63)
  (hR : ∀ e σ', (e = 0 → functionE fs f = .ok ()) → Adds σ σ' → R (.ret (.int .i64 e)) σ') : ACalls Tryz.prog G 14 [.agg [fsv, .int .i64 mm, .int .i64 mn], fv] σ R := by
 refine calls14 rfl ?_
 obtain ⟨pv, lv, tv, rfl, hp, hlo, ht⟩ := hf
 have v1 := hv.one
 have p1 := hp.one
 have l1 := hlo.one
 have t1 := ht.one
 have t2 := ht.len
 have mid : ∀ (a : Nat → AV) (τ : AS) (cv : AV) (xl fo : Nat), OwnL σ τ cv (f.params ++ f.locals) → a 3 = .ptr fo 0 → a 5 = .ptr xl 0 → τ.objs fo = some [.str f.name, pv, lv, .int .i64 f.type, tv] →
   τ.objs xl = some [fsv, .int .i64 mm, .int .i64 mn, .str f.name, pv, lv, .int .i64 f.type, tv, cv, .int .i64 0] → Adds σ τ → σ.no ≤ xl ∧ xl < τ.no → fo < τ.no → ¬ fo = xl → avc Tryz.prog G 61 pc14_t (afin Tryz.prog [.tmp 4] R) a τ := by
  intro a τ cv xl fo hc a3 a5 hfo hxo A hx hfn hne
  rw [pc14_tsplit]
  by_cases h1 : f.type < 0
  ·simp [pc14_c, pc14_t, pc14, a3, a5, hfo, h1]
   exact function_tail (bad0 := true) hv hp hlo ht hc hl hts hs hwn hR (by simp; omega) (by simp [a3]) (by simp [a5]) (by simp) hfo hxo A hx hfn hne
  ·by_cases h2 : 2 < f.type
   ·simp [pc14_c, pc14_t, pc14, a3, a5, hfo, h1, h2]
    exact function_tail (bad0 := true) hv hp hlo ht hc hl hts hs hwn hR (by simp; omega) (by simp [a3]) (by simp [a5]) (by simp) hfo hxo A hx hfn hne
   ·simp [pc14_c, pc14_t, pc14, a3, a5, hfo, h1, h2]
    exact function_tail (bad0 := false) hv hp hlo ht hc hl hts hs hwn hR (by simp; omega) (by simp [a3]) (by simp [a5]) (by simp) hfo hxo A hx hfn hne
 rw [pc14_split]
 have hs1 := hs.params
 have hs2 := hs.locals
 simp [pc14_a, pc14_b, pc14, v1, p1, l1, t1]
 refine copyIntsF_calls hp (by omega) (fun σ1 hn A => ?_) (fun σ1 g A g1 g2 g3 => ?_)
 ·have b0 := A.obj σ.no (by simp; omega)
  have b1 := A.obj (σ.no + 1) (by simp)
  have hno := A.no
  have hnf := A.nf
  simp at b0 b1 hno hnf
  have A1 : Adds σ σ1 := (Adds.refl σ).newO.newO.trans A
  have m1 : ¬ σ.no + 1 = σ1.no := by omega
  rcases hlo with ⟨hlo0, rfl⟩ | ⟨b, rfl⟩
  ·simp [v1, p1, t1, b0, b1, splice]
   exact mid _ _ .nilsl σ1.no (σ.no + 1) (.inl ⟨by rw [hn, hlo0]; rfl, rfl⟩) (by simp) (by simp) (by simp [m1, b1]) (by simp) A1.newO (by simp; omega) (by simp; omega) m1
  ·by_cases hll : f.locals = []
   ·simp [v1, p1, t1, b0, b1, hll, splice]
    exact mid _ _ .nilsl σ1.no (σ.no + 1) (.inl ⟨by rw [hn, hll]; rfl, rfl⟩) (by simp) (by simp) (by simp [m1, b1, hll]) (by simp [hll]) A1.newO (by simp; omega) (by simp; omega) m1
   ·obtain ⟨x, xs, hlc⟩ := List.exists_cons_of_ne_nil hll
    have hxs : xs.length + 1 ≤ 3000 := by rw [hlc] at hs2; simpa using hs2
    simp [v1, p1, t1, b0, b1, hlc, splice]
    refine ⟨by omega, ?_⟩
    exact mid _ _ (.sl (.fam σ1.nf false) 1 (f.locals.map (.int .i64))) σ1.no (σ.no + 1) (.inr ⟨_, by rw [hn]; rfl, by simp, by simpa using hnf, by simp⟩) (by simp) (by simp) (by simp [m1, b1, hlc]) (by simp [hlc]) A1.newF.newO (by simp; omega) (by simp; omega) m1
 ·have b0 := A.obj σ.no (by simp; omega)
  have b1 := A.obj (σ.no + 1) (by simp)
  have hno := A.no
  have hnf := A.nf
  simp at b0 b1 hno hnf g1
  have A1 : Adds σ σ1 := (Adds.refl σ).newO.newO.trans A
  have m1 : ¬ σ.no + 1 = σ1.no := by omega
  rcases hlo with ⟨hlo0, rfl⟩ | ⟨b, rfl⟩
  ·simp [v1, p1, t1, b0, b1, g3, splice]
   refine ⟨by omega, mid _ _ (.sl (.fam σ1.nf false) 1 (f.params.map (.int .i64))) σ1.no (σ.no + 1) (.inr ⟨_, by rw [hlo0, List.append_nil], by simp, by simpa using hnf, by simp⟩) (by simp) (by simp) (by simp [m1, b1]) (by simp) ((A1.setF g1).newF (σ' := σ1.setF g .dead)).newO (by simp; omega) (by simp; omega) m1⟩
  ·simp [v1, p1, t1, b0, b1, g3, splice]
   refine ⟨by omega, mid _ _ (.sl (.fam σ1.nf false) 1 (f.params.map (.int .i64) ++ f.locals.map (.int .i64))) σ1.no (σ.no + 1) (.inr ⟨_, by rw [List.map_append], by simp, by simpa using hnf, by simp⟩) (by simp) (by simp) (by simp [m1, b1]) (by simp) ((A1.setF g1).newF (σ' := σ1.setF g .dead)).newO (by simp; omega) (by simp; omega) m1⟩
end
end Go.Proofs.YthifgodgfhbnfaaGreatDoor.Rf
set_option linter.unusedSimpArgs false
set_option linter.unusedVariables false
namespace Go.Proofs.YthifgodgfhbnfaaGreatDoor.Rf
open Go Go.Abs Go.Proofs.YthifgodgfhbnfaaGreatDoor
theorem functionsE_of {fs : List F} : ∀ {r : List F}, (∀ g ∈ r, functionE fs g = .ok ()) → functionsE fs r = .ok ()
 | [], _ => rfl
 | g :: r, h => by
  rw [functionsE, h g (by simp)]
  exact functionsE_of fun x hx => h x (by simp [hx])
section
variable {G : Env} {m : M} {σ : AS} {R : Out → AS → Prop}
def CI5 (σ : AS) (m : M) (fsv : AV) (a : Nat → AV) (τ : AS) : Prop := ∃ i : Nat, i ≤ m.funcs.length ∧ a 1 = .ptr σ.no 0 ∧ a 3 = .int .i64 (i : Int) ∧ τ.objs σ.no = some [fsv, .int .i64 m.memory, .int .i64 m.main] ∧ Adds σ τ ∧ σ.no < τ.no ∧ ∀ j g, j < i → m.funcs[j]? = some g → functionE m.funcs g = .ok ()
set_option maxHeartbeats 4000000 in
theorem checkI_calls {mv : AV} (hm : MV mv m) (hl : m.funcs.length ≤ 2 ^ 38) (hs : ∀ f ∈ m.funcs, SmallF f) (hwn : ∀ f ∈ m.funcs, ∀ r ∈ f.lists, ∀ w ∈ r, -(2 ^ 63) ≤ w.n ∧ w.n < 2 ^ 63)
  (hR : ∀ e σ', (e = 0 → checkE m = .ok ()) → Adds σ σ' → R (.ret (.int .i64 e)) σ') : ACalls Tryz.prog G 5 [mv] σ R := by
 refine calls5 rfl ?_
 obtain ⟨fsv, rfl, hv⟩ := hm
 have v1 := hv.one
 have v2 := hv.len
 by_cases h1 : m.memory < 0
 ·simp [pc5, v1, h1]
  exact hR 11 _ (fun e => by omega) (Adds.refl σ).newO
 by_cases h2 : 4096 < m.memory
 ·simp [pc5, v1, h1, h2]
  exact hR 11 _ (fun e => by omega) (Adds.refl σ).newO
 simp [pc5, v1, h1, h2]
 refine aloop (CI5 σ m fsv) (MU 3 (m.funcs.length + 1)) ⟨0, by omega, by simp, by simp, by simp, (Adds.refl σ).newO, by simp, fun j g hj => by omega⟩ fun a τ hI => ?_
 obtain ⟨i, hi, a1, a3, hO, hA, hno, hall⟩ := hI
 by_cases hlt : i < m.funcs.length
 ·have hlt' : (i : Int) < (m.funcs.length : Int) := by omega
  obtain ⟨b, fv, hfv, hix⟩ := hv.at hlt
  have hg := List.getElem?_eq_getElem hlt
  have hmem := List.getElem_mem hlt
  have hs' := hs _ hmem
  have hwn' := hwn _ hmem
  generalize m.funcs[i] = g at *
  have hfv0 := hfv
  obtain ⟨pv, lv, tv, rfl, hp, hlo, ht⟩ := hfv
  have p1 := hp.one
  have l1 := hlo.one
  have t1 := ht.one
  have w3 : IntKind.wrap .i64 ((i : Int) + 1) = ((i + 1 : Nat) : Int) := by rw [wrap_i64] <;> omega
  simp [pc5_l1, a1, a3, hO, v1, v2, hlt', hix, p1, l1, t1]
  refine functionI_calls (f := g) hv hfv0 hl (fun f hf => by have := (hs f hf).params; omega) hs' hwn' fun e σ1 he A1 => ?_
  have y0 := (A1.obj _ hno).trans hO
  by_cases he0 : e = 0
  ·simp [he0, a3, w3]
   refine ⟨⟨i + 1, by omega, by simp [a1], by simp, y0, hA.trans A1, by have := A1.no; omega, fun j g' hj hgj => ?_⟩, ?_⟩
   ·by_cases hji : j < i
    ·exact hall j g' hji hgj
    ·have : j = i := by omega
     subst this
     rw [hg] at hgj
     cases hgj
     exact he he0
   ·simp only [MU, a3]; simp; omega
  ·simp [he0]
   exact hR e _ (fun e => absurd e he0) (hA.trans A1)
 ·have hie : i = m.funcs.length := by omega
  subst hie
  have hfs : functionsE m.funcs m.funcs = .ok () := functionsE_of fun g hg => by
   obtain ⟨j, hj, e⟩ := List.getElem_of_mem hg
   exact hall j g hj (by rw [List.getElem?_eq_getElem hj, e])
  have hck : checkE m = if mainB m then .ok () else .error 12 := by
   unfold checkE
   rw [if_neg (by simp; omega), hfs]
  by_cases k1 : m.main < 0
  ·simp [pc5_l1, pc5_r1, a1, a3, hO, v1, v2, k1]
   exact hR 12 _ (fun e => by omega) hA
  by_cases k2 : (m.funcs.length : Int) ≤ m.main
  ·simp [pc5_l1, pc5_r1, a1, a3, hO, v1, v2, k1, k2]
   exact hR 12 _ (fun e => by omega) hA
  obtain ⟨k, hk⟩ := Int.eq_ofNat_of_zero_le (show 0 ≤ m.main by omega)
  have hkl : k < m.funcs.length := by omega
  obtain ⟨b, fv, hfv, hix⟩ := hv.at hkl
  have hmb : mainB m = (decide ((m.funcs[k]).type = 1) && decide ((m.funcs[k]).params.length = 0)) := by
   unfold mainB
   rw [hk]
   simp [hkl]
  generalize m.funcs[k] = g at *
  obtain ⟨pv, lv, tv, rfl, hp, hlo, ht⟩ := hfv
  have p1 := hp.one
  have p2 := hp.len
  have l1 := hlo.one
  have t1 := ht.one
  rw [hk] at k1 k2 hO
  by_cases k3 : g.type = 1
  ·by_cases k4 : g.params.length = 0
   ·have k5 : g.params = [] := List.length_eq_zero_iff.1 k4
    simp [pc5_l1, pc5_r1, a1, a3, hO, v1, v2, k1, k2, hix, p1, p2, l1, t1, k3, k5]
    exact hR 0 _ (fun _ => by rw [hck, hmb, k3, k4]; rfl) hA
   ·have k5 : 0 < g.params.length := by omega
    simp [pc5_l1, pc5_r1, a1, a3, hO, v1, v2, k1, k2, hix, p1, p2, l1, t1, k3, k5]
    exact hR 12 _ (fun e => by omega) hA
  ·simp [pc5_l1, pc5_r1, a1, a3, hO, v1, v2, k1, k2, hix, p1, p2, l1, t1, k3]
   exact hR 12 _ (fun e => by omega) hA
end
end Go.Proofs.YthifgodgfhbnfaaGreatDoor.Rf
set_option linter.unusedSimpArgs false
set_option linter.unusedVariables false
namespace Go.Proofs.YthifgodgfhbnfaaGreatDoor
open Go Go.Abs
theorem bits2_nonneg (f : BitVec 64 → BitVec 64 → BitVec 64) (a b : Int) : 0 ≤ bits2 .u64 f a b := by
 unfold bits2
 simp [IntKind.wrap, IntKind.bits, IntKind.signed]
 omega
theorem one32_calls {G : Env} {σ : AS} {R : Out → AS → Prop} {b : Bool} (h : R (.ret (.int .i32 (oneB b))) σ) : ACalls Tryz.prog G 121 [.bool b] σ R := by
 refine calls121 rfl ?_
 unfold oneB at h
 cases b <;> simp [pc121, splice] at h ⊢ <;> exact h
theorem one64_calls {G : Env} {σ : AS} {R : Out → AS → Prop} {b : Bool} (h : R (.ret (.int .i64 (oneB b))) σ) : ACalls Tryz.prog G 122 [.bool b] σ R := by
 refine calls122 rfl ?_
 unfold oneB at h
 cases b <;> simp [pc122, splice] at h ⊢ <;> exact h
theorem divide32_calls {G : Env} {σ : AS} {R : Out → AS → Prop} {op : List UInt8} {a b : Int} (h : R (.ret (.tuple [.int .i32 (divideW .i32 op a b).1, .int .i64 (divideW .i32 op a b).2])) σ) : ACalls Tryz.prog G 114 [.str op, .int .i32 a, .int .i32 b] σ R := by
 refine calls114 rfl ?_
 unfold divideW at h
 by_cases h0 : b = 0
 ·simp [h0] at h; simp [pc114, splice, h0]; exact h
 ·by_cases h1 : op = [37]
  ·by_cases h2 : b = -1
   ·simp [h0, h1, h2] at h; simp [pc114, splice, h0, h1, h2]; exact h
   ·simp [h0, h1, h2] at h; simp [pc114, splice, h0, h1, h2]; exact h
  ·by_cases h2 : b = -1
   ·by_cases h3 : a = 0
    ·simp [h0, h1, h2, h3] at h; simp [pc114, splice, h0, h1, h2, h3]; exact h
    ·by_cases h4 : IntKind.wrap .i32 (-a) = a
     ·simp [h0, h1, h2, h3, h4] at h; simp [pc114, splice, h0, h1, h2, h3, h4]; exact h
     ·simp [h0, h1, h2, h3, h4] at h; simp [pc114, splice, h0, h1, h2, h3, h4]; exact h
   ·simp [h0, h1, h2] at h; simp [pc114, splice, h0, h1, h2]; exact h
theorem divide64_calls {G : Env} {σ : AS} {R : Out → AS → Prop} {op : List UInt8} {a b : Int} (h : R (.ret (.tuple [.int .i64 (divideW .i64 op a b).1, .int .i64 (divideW .i64 op a b).2])) σ) : ACalls Tryz.prog G 116 [.str op, .int .i64 a, .int .i64 b] σ R := by
 refine calls116 rfl ?_
 unfold divideW at h
 by_cases h0 : b = 0
 ·simp [h0] at h; simp [pc116, splice, h0]; exact h
 ·by_cases h1 : op = [37]
  ·by_cases h2 : b = -1
   ·simp [h0, h1, h2] at h; simp [pc116, splice, h0, h1, h2]; exact h
   ·simp [h0, h1, h2] at h; simp [pc116, splice, h0, h1, h2]; exact h
  ·by_cases h2 : b = -1
   ·by_cases h3 : a = 0
    ·simp [h0, h1, h2, h3] at h; simp [pc116, splice, h0, h1, h2, h3]; exact h
    ·by_cases h4 : IntKind.wrap .i64 (-a) = a
     ·simp [h0, h1, h2, h3, h4] at h; simp [pc116, splice, h0, h1, h2, h3, h4]; exact h
     ·simp [h0, h1, h2, h3, h4] at h; simp [pc116, splice, h0, h1, h2, h3, h4]; exact h
   ·simp [h0, h1, h2] at h; simp [pc116, splice, h0, h1, h2]; exact h
set_option maxRecDepth 20000 in
theorem does32_calls {G : Env} {σ : AS} {R : Out → AS → Prop} {op : List UInt8} {a b : Int} (h : R (.ret (.int .i32 (doesW .i32 op a b 32))) σ) : ACalls Tryz.prog G 115 [.str op, .int .i32 a, .int .i32 b, .int .i64 32] σ R := by
 refine calls115 rfl ?_
 unfold doesW at h
 by_cases h1 : op = [43]
 ·subst h1; simp at h; simp [pc115, splice]; exact h
 by_cases h2 : op = [45]
 ·subst h2; simp at h; simp [pc115, splice]; exact h
 by_cases h3 : op = [42]
 ·subst h3; simp at h; simp [pc115, splice]; exact h
 by_cases h4 : op = [38]
 ·subst h4; simp at h; simp [pc115, splice]; exact h
 by_cases h5 : op = [124]
 ·subst h5; simp at h; simp [pc115, splice]; exact h
 by_cases h6 : op = [94]
 ·subst h6; simp at h; simp [pc115, splice]; exact h
 by_cases h7 : op = [60, 60]
 ·subst h7; simp at h; simp [pc115, splice, show IntKind.wrap .i64 31 = 31 by decide]; exact ⟨bits2_nonneg _ _ _, h⟩
 by_cases h8 : op = [62, 62]
 ·subst h8; simp at h; simp [pc115, splice, show IntKind.wrap .i64 31 = 31 by decide]; exact ⟨bits2_nonneg _ _ _, h⟩
 by_cases h9 : op = [61, 61]
 ·subst h9; simp at h; simp [pc115, splice]; refine one32_calls ?_; simp; exact h
 by_cases h10 : op = [33, 61]
 ·subst h10; simp at h; simp [pc115, splice]; refine one32_calls ?_; simp; exact h
 by_cases h11 : op = [60]
 ·subst h11; simp at h; simp [pc115, splice]; refine one32_calls ?_; simp; exact h
 by_cases h12 : op = [60, 61]
 ·subst h12; simp at h; simp [pc115, splice]; refine one32_calls ?_; simp; exact h
 by_cases h13 : op = [62]
 ·subst h13; simp at h; simp [pc115, splice]; refine one32_calls ?_; simp; exact h
 by_cases h14 : op = [62, 61]
 ·subst h14; simp at h; simp [pc115, splice]; refine one32_calls ?_; simp; exact h
 ·simp [h1, h2, h3, h4, h5, h6, h7, h8, h9, h10, h11, h12, h13, h14] at h
  simp [pc115, splice, h1, h2, h3, h4, h5, h6, h7, h8, h9, h10, h11, h12, h13, h14]
  exact h
set_option maxRecDepth 20000 in
theorem does64_calls {G : Env} {σ : AS} {R : Out → AS → Prop} {op : List UInt8} {a b : Int} (h : R (.ret (.int .i64 (doesW .i64 op a b 64))) σ) : ACalls Tryz.prog G 117 [.str op, .int .i64 a, .int .i64 b, .int .i64 64] σ R := by
 refine calls117 rfl ?_
 unfold doesW at h
 by_cases h1 : op = [43]
 ·subst h1; simp at h; simp [pc117, splice]; exact h
 by_cases h2 : op = [45]
 ·subst h2; simp at h; simp [pc117, splice]; exact h
 by_cases h3 : op = [42]
 ·subst h3; simp at h; simp [pc117, splice]; exact h
 by_cases h4 : op = [38]
 ·subst h4; simp at h; simp [pc117, splice]; exact h
 by_cases h5 : op = [124]
 ·subst h5; simp at h; simp [pc117, splice]; exact h
 by_cases h6 : op = [94]
 ·subst h6; simp at h; simp [pc117, splice]; exact h
 by_cases h7 : op = [60, 60]
 ·subst h7; simp at h; simp [pc117, splice, show IntKind.wrap .i64 63 = 63 by decide]; exact ⟨bits2_nonneg _ _ _, h⟩
 by_cases h8 : op = [62, 62]
 ·subst h8; simp at h; simp [pc117, splice, show IntKind.wrap .i64 63 = 63 by decide]; exact ⟨bits2_nonneg _ _ _, h⟩
 by_cases h9 : op = [61, 61]
 ·subst h9; simp at h; simp [pc117, splice]; refine one64_calls ?_; simp; exact h
 by_cases h10 : op = [33, 61]
 ·subst h10; simp at h; simp [pc117, splice]; refine one64_calls ?_; simp; exact h
 by_cases h11 : op = [60]
 ·subst h11; simp at h; simp [pc117, splice]; refine one64_calls ?_; simp; exact h
 by_cases h12 : op = [60, 61]
 ·subst h12; simp at h; simp [pc117, splice]; refine one64_calls ?_; simp; exact h
 by_cases h13 : op = [62]
 ·subst h13; simp at h; simp [pc117, splice]; refine one64_calls ?_; simp; exact h
 by_cases h14 : op = [62, 61]
 ·subst h14; simp at h; simp [pc117, splice]; refine one64_calls ?_; simp; exact h
 ·simp [h1, h2, h3, h4, h5, h6, h7, h8, h9, h10, h11, h12, h13, h14] at h
  simp [pc117, splice, h1, h2, h3, h4, h5, h6, h7, h8, h9, h10, h11, h12, h13, h14]
  exact h
theorem bin32_calls {G : Env} {σ : AS} {R : Out → AS → Prop} {op : List UInt8} {a b : Int} (h : R (.ret (.tuple [.int .i64 (IntKind.wrap .i64 (binK .i32 op a b 32).1), .int .i64 (binK .i32 op a b 32).2])) σ) : ACalls Tryz.prog G 101 [.str op, .int .i32 a, .int .i32 b, .int .i64 32] σ R := by
 refine calls101 rfl ?_
 unfold binK at h
 by_cases h1 : op = [47]
 ·subst h1; simp at h
  simp [pc101, splice]
  refine divide32_calls ?_
  simp; exact h
 by_cases h2 : op = [37]
 ·subst h2; simp at h
  simp [pc101, splice]
  refine divide32_calls ?_
  simp; exact h
 ·simp [h1, h2] at h
  simp [pc101, splice, h1, h2]
  refine does32_calls ?_
  simp; exact h
theorem bin64_calls {G : Env} {σ : AS} {R : Out → AS → Prop} {op : List UInt8} {a b : Int} (h : R (.ret (.tuple [.int .i64 (binK .i64 op a b 64).1, .int .i64 (binK .i64 op a b 64).2])) σ) : ACalls Tryz.prog G 102 [.str op, .int .i64 a, .int .i64 b, .int .i64 64] σ R := by
 refine calls102 rfl ?_
 unfold binK at h
 by_cases h1 : op = [47]
 ·subst h1; simp at h
  simp [pc102, splice]
  refine divide64_calls ?_
  simp; exact h
 by_cases h2 : op = [37]
 ·subst h2; simp at h
  simp [pc102, splice]
  refine divide64_calls ?_
  simp; exact h
 ·simp [h1, h2] at h
  simp [pc102, splice, h1, h2]
  refine does64_calls ?_
  simp; exact h
theorem bin_calls {G : Env} {σ : AS} {R : Out → AS → Prop} {t : Int} {op : List UInt8} {a b : Int} (h : R (.ret (.tuple [.int .i64 (binW t op a b).1, .int .i64 (binW t op a b).2])) σ) : ACalls Tryz.prog G 80 [.int .i64 t, .str op, .int .i64 a, .int .i64 b] σ R := by
 refine calls80 rfl ?_
 unfold binW at h
 by_cases h1 : t = 1
 ·subst h1; simp at h
  simp [pc80, splice]
  refine bin32_calls ?_
  simp
  exact h
 by_cases h2 : t = 2
 ·subst h2; simp at h
  simp [pc80, splice]
  refine bin64_calls ?_
  simp; exact h
 ·simp [h1, h2] at h
  simp [pc80, splice, h1, h2]
  exact h
end Go.Proofs.YthifgodgfhbnfaaGreatDoor
set_option linter.unusedSimpArgs false
set_option linter.unusedVariables false
namespace Go.Proofs.YthifgodgfhbnfaaGreatDoor
open Go Go.Abs
def OwnV (σ : AS) (v : AV) (l : List Int) : Prop := (l = [] ∧ v = .nilsl) ∨ ∃ g, v = .sl (.fam g false) 1 (l.map (.int .i64)) ∧ g < σ.nf ∧ σ.F g = .alive
def famL : AV → List Nat
 | .sl (.fam g _) _ _ => [g]
 | _ => []
theorem OwnV.one {σ v l} (h : OwnV σ v l) : v.known = true ∧ v.one = true ∧ v.cells = [v] := by
 rcases h with ⟨_, rfl⟩ | ⟨g, rfl, _⟩ <;> simp
theorem OwnV.len {σ v l} (h : OwnV σ v l) (K : AV → Prop) : alen Tryz.prog 25 v K = K (.int .i64 (l.length : Int)) := by
 rcases h with ⟨rfl, rfl⟩ | ⟨g, rfl, _⟩ <;> simp
theorem OwnV.keep {σ σ' v l} (h : OwnV σ v l) (hn : σ.nf ≤ σ'.nf) (hk : ∀ g ∈ famL v, σ'.F g = σ.F g) : OwnV σ' v l := by
 rcases h with h | ⟨g, rfl, h1, h2⟩
 ·exact .inl h
 ·exact .inr ⟨g, rfl, by omega, by rw [hk g (by simp [famL])]; exact h2⟩
theorem OwnV.lt {σ v l} (h : OwnV σ v l) : ∀ g ∈ famL v, g < σ.nf := by
 rcases h with ⟨_, rfl⟩ | ⟨g, rfl, h1, _⟩ <;> simp [famL]
 exact h1
def LocV (σ : AS) (L : List Nat) (v : AV) (l : List Int) : Prop := (L = [] ∧ l = [] ∧ (v = .nilsl ∨ ∃ φ, v = .sl φ 1 [])) ∨ ∃ lo, L = [lo] ∧ v = .slm lo 0 1 l.length ∧ σ.objs lo = some (l.map (.int .i64))
theorem LocV.one {σ L v l} (h : LocV σ L v l) : v.known = true ∧ v.one = true ∧ v.cells = [v] := by
 rcases h with ⟨_, _, rfl | ⟨φ, rfl⟩⟩ | ⟨lo, _, rfl, _⟩ <;> simp
theorem LocV.keep {σ σ' L v l} (h : LocV σ L v l) (hk : ∀ o ∈ L, σ'.objs o = σ.objs o) : LocV σ' L v l := by
 rcases h with h | ⟨lo, rfl, rfl, h⟩
 ·exact .inl h
 ·exact .inr ⟨lo, rfl, rfl, by rw [hk lo (by simp)]; exact h⟩
structure XM (fs : List F) (mm mn : Int) (σ0 : AS) (xo mo : Nat) (D T : List Nat) (x : Mach) (ov : AV) (σ : AS) : Prop where
 no : σ0.no ≤ σ.no
 nf : σ0.nf ≤ σ.nf
 obj : ∀ o, o < σ0.no → o ≠ xo → o ≠ mo → o ∉ D → σ.objs o = σ0.objs o
 fam : ∀ g, g < σ0.nf → g ∉ T → σ.F g = σ0.F g
 xl : xo < σ0.no
 ml : mo < σ0.no
 xm : xo ≠ mo
 dl : ∀ o ∈ D, o < σ.no ∧ o ≠ xo ∧ o ≠ mo
 mach : ∃ fv iv, σ.objs xo = some [fv, .int .i64 mm, .int .i64 mn, iv, .int .i64 x.steps, .slm mo 0 1 x.memory.length, ov, .int .i64 x.calls] ∧ FsV fv fs ∧ IntsV iv x.input
 own : OwnV σ ov x.out
 ownT : ∀ g ∈ famL ov, g ∈ T ∨ σ0.nf ≤ g
 mem : σ.objs mo = some (x.memory.map fun b => .int .u8 b.toNat)
structure XR (σ0 : AS) (fo : Nat) (L T : List Nat) (r : Fr) (sv : AV) (σ : AS) : Prop where
 fr : ∃ pv lv tv cv, σ.objs fo = some [.str r.fn.name, pv, lv, .int .i64 r.fn.type, tv, cv, sv, .int .i64 r.result] ∧ IntsV pv r.fn.params ∧ IntsV lv r.fn.locals ∧ ListsV tv r.fn.lists ∧ LocV σ L cv r.locals
 fl : fo ∉ L
 own : OwnV σ sv r.stack
 ownT : ∀ g ∈ famL sv, g ∈ T ∨ σ0.nf ≤ g
def XF (fs : List F) (mm mn : Int) (σ0 : AS) (xo mo fo : Nat) (L T : List Nat) (x : Mach) (r : Fr) (σ : AS) : Prop :=
 ∃ ov sv, XM fs mm mn σ0 xo mo (fo :: L) T x ov σ ∧ XR σ0 fo L T r sv σ ∧ ∀ g ∈ famL ov, g ∉ famL sv
def overV (s c : Int) : AV := .iface 55 (.agg [.int .i64 s, .int .i64 c])
section
variable {G : Env} {fs : List F} {mm mn : Int} {σ0 σ : AS} {xo mo fo : Nat} {L T : List Nat} {x : Mach} {r : Fr} {R : Out → AS → Prop}
theorem XF.setFr (h : XF fs mm mn σ0 xo mo fo L T x r σ) {pv lv tv cv sv sv' : AV} {st' : List Int} {res' : Int} {σ1 : AS}
  (ho : σ.objs fo = some [.str r.fn.name, pv, lv, .int .i64 r.fn.type, tv, cv, sv, .int .i64 r.result]) (e1 : σ1.objs = σ.objs) (e2 : σ1.no = σ.no) (e3 : σ.nf ≤ σ1.nf) (e4 : ∀ g, g < σ.nf → g ∉ famL sv → σ1.F g = σ.F g)
  (hs : OwnV σ1 sv' st') (hsf : ∀ g ∈ famL sv', g ∈ famL sv ∨ σ.nf ≤ g) :
  XF fs mm mn σ0 xo mo fo L T x { r with stack := st', result := res' } (σ1.setO fo [.str r.fn.name, pv, lv, .int .i64 r.fn.type, tv, cv, sv', .int .i64 res']) := by
 obtain ⟨ov, sv0, hm, hr, hd⟩ := h
 obtain ⟨pv0, lv0, tv0, cv0, ho0, hpv, hlv, htv, hcv⟩ := hr.fr
 rw [ho] at ho0
 simp only [Option.some.injEq, List.cons.injEq] at ho0
 obtain ⟨_, rfl, rfl, _, rfl, rfl, rfl, _, _⟩ := ho0
 have hfd := hm.dl fo (by simp)
 have hltm := hm.xl
 have hltml := hm.ml
 have hno := hm.no
 have hlt := hm.own.lt
 have key : ∀ o, o ≠ fo → (σ1.setO fo [.str r.fn.name, pv, lv, .int .i64 r.fn.type, tv, cv, sv', .int .i64 res']).objs o = σ.objs o := fun o ho => by simp [ho, e1]
 have hof : ∀ g ∈ famL ov, σ1.F g = σ.F g := fun g hg => e4 g (hlt g hg) (hd g hg)
 refine ⟨ov, sv', ⟨by simp [e2]; omega, Nat.le_trans hm.nf e3, fun o h1 h2 h3 h4 => ?_, fun g h1 h2 => ?_, hm.xl, hm.ml, hm.xm, fun o h1 => ?_, ?_, ?_, hm.ownT, ?_⟩, ⟨⟨pv, lv, tv, cv, by simp, hpv, hlv, htv, ?_⟩, hr.fl, hs, fun g hg => ?_⟩, fun g hg => ?_⟩
 ·rw [key o (fun e => h4 (by simp [e]))]; exact hm.obj o h1 h2 h3 h4
 ·have h3 : g ∉ famL sv := fun hg => by rcases hr.ownT g hg with h | h; exact h2 h; omega
  have := hm.nf
  show σ1.F g = σ0.F g
  rw [e4 g (by omega) h3]; exact hm.fam g h1 h2
 ·simpa [e2] using hm.dl o h1
 ·obtain ⟨fv, iv, a, b, c⟩ := hm.mach
  exact ⟨fv, iv, by rw [key xo (Ne.symm hfd.2.1)]; exact a, b, c⟩
 ·exact hm.own.keep (by simpa using e3) (by simpa using hof)
 ·rw [key mo (Ne.symm hfd.2.2)]; exact hm.mem
 ·exact hcv.keep fun o ho => key o fun e => hr.fl (e ▸ ho)
 ·rcases hsf g hg with h | h
  ·exact hr.ownT g h
  ·right; have := hm.nf; omega
 ·intro h'
  rcases hsf g h' with h | h
  ·exact hd g hg h
  ·have := hlt g hg; omega
theorem push_calls {v : Int} (h : XF fs mm mn σ0 xo mo fo L T x r σ) (hl : r.stack.length ≤ 2 ^ 40) (hR : ∀ σ', XF fs mm mn σ0 xo mo fo L T x (r.push v) σ' → R (.ret (.tuple [])) σ') : ACalls Tryz.prog G 79 [.ptr fo 0, .int .i64 v] σ R := by
 refine calls79 rfl ?_
 obtain ⟨ov, sv, hm, hr, hd⟩ := h
 obtain ⟨pv, lv, tv, cv, ho, hpv, hlv, htv, hcv⟩ := hr.fr
 have s1 := hr.own.one
 have p1 := hpv.one
 have l1 := hlv.one
 have t1 := htv.one
 have c1 := hcv.one
 have hx : XF fs mm mn σ0 xo mo fo L T x r σ := ⟨ov, sv, hm, hr, hd⟩
 rcases hr.own with ⟨hs, rfl⟩ | ⟨g, rfl, hg1, hg2⟩
 ·simp [pc79, ho, splice]
  refine hR _ (hx.setFr ho (by simp) (by simp) (by simp) (fun g h1 _ => by simp; intro h; omega) ?_ ?_)
  ·exact .inr ⟨σ.nf, by simp [hs], by simp, by simp⟩
  ·simp [famL]
 ·simp [pc79, ho, splice, hg2]
  refine ⟨by omega, hR _ (hx.setFr ho (by simp) (by simp) (by simp) (fun k h1 h2 => ?_) ?_ ?_)⟩
  ·have : k ≠ g := by simpa [famL] using h2
   simp [this]; intro h; omega
  ·exact .inr ⟨σ.nf, by simp, by simp, by simp⟩
  ·simp [famL]
theorem pop_calls' {v : Int} (h : XF fs mm mn σ0 xo mo fo L T x r σ) (hl : r.stack.length ≤ 2 ^ 40) (hv : r.stack.getLast? = some v) (hR : ∀ σ', XF fs mm mn σ0 xo mo fo L T x { r with stack := r.stack.dropLast } σ' → (∀ o, o ≠ fo → σ'.objs o = σ.objs o) → R (.ret (.int .i64 v)) σ') : ACalls Tryz.prog G 39 [.ptr fo 0] σ R := by
 refine calls39 rfl ?_
 obtain ⟨ov, sv, hm, hr, hd⟩ := h
 obtain ⟨pv, lv, tv, cv, ho, hpv, hlv, htv, hcv⟩ := hr.fr
 have s1 := hr.own.one
 have p1 := hpv.one
 have l1 := hlv.one
 have t1 := htv.one
 have c1 := hcv.one
 have hx : XF fs mm mn σ0 xo mo fo L T x r σ := ⟨ov, sv, hm, hr, hd⟩
 rcases hr.own with ⟨hs, rfl⟩ | ⟨g, rfl, hg1, hg2⟩
 ·rw [hs] at hv; simp at hv
 ·have hne : r.stack ≠ [] := by rintro e; rw [e] at hv; simp at hv
  have hpos : 0 < r.stack.length := List.length_pos_iff.2 hne
  have w1 : IntKind.wrap .i64 ((r.stack.length : Int) - 1) = ((r.stack.length - 1 : Nat) : Int) := by rw [wrap_i64] <;> omega
  have hix : (r.stack.map (AV.int .i64))[r.stack.length - 1]? = some (.int .i64 v) := by
   rw [List.getLast?_eq_getElem?] at hv
   simp [hv]
  have e : List.take (r.stack.length - 1) (r.stack.map (AV.int .i64)) = r.stack.dropLast.map (AV.int .i64) := by rw [← List.map_take, List.dropLast_eq_take]
  simp [pc39, ho, splice, hg2, w1, hix, e]
  exact hR _ (hx.setFr (σ1 := σ) ho rfl rfl (Nat.le_refl _) (fun _ _ _ => rfl) (.inr ⟨g, by simp, hg1, hg2⟩) (fun k hk => .inl hk)) fun o h => by simp [h]
theorem pop_calls {v : Int} (h : XF fs mm mn σ0 xo mo fo L T x r σ) (hl : r.stack.length ≤ 2 ^ 40) (hv : r.stack.getLast? = some v) (hR : ∀ σ', XF fs mm mn σ0 xo mo fo L T x { r with stack := r.stack.dropLast } σ' → R (.ret (.int .i64 v)) σ') : ACalls Tryz.prog G 39 [.ptr fo 0] σ R :=
 pop_calls' h hl hv fun σ' hx _ => hR σ' hx
theorem XF.setX (h : XF fs mm mn σ0 xo mo fo L T x r σ) {fv iv ov iv' ov' : AV} {inp out : List Int} {steps calls : Int} {σ1 : AS}
  (ho : σ.objs xo = some [fv, .int .i64 mm, .int .i64 mn, iv, .int .i64 x.steps, .slm mo 0 1 x.memory.length, ov, .int .i64 x.calls]) (e1 : σ1.objs = σ.objs) (e2 : σ1.no = σ.no) (e3 : σ.nf ≤ σ1.nf) (e4 : ∀ g, g < σ.nf → g ∉ famL ov → σ1.F g = σ.F g)
  (hi : IntsV iv' inp) (hs : OwnV σ1 ov' out) (hsf : ∀ g ∈ famL ov', g ∈ famL ov ∨ σ.nf ≤ g) :
  XF fs mm mn σ0 xo mo fo L T { x with input := inp, out := out, steps := steps, calls := calls } r (σ1.setO xo [fv, .int .i64 mm, .int .i64 mn, iv', .int .i64 steps, .slm mo 0 1 x.memory.length, ov', .int .i64 calls]) := by
 obtain ⟨ov0, sv, hm, hr, hd⟩ := h
 obtain ⟨fv0, iv0, ho0, hfv, hiv⟩ := hm.mach
 rw [ho] at ho0
 simp only [Option.some.injEq, List.cons.injEq] at ho0
 obtain ⟨rfl, _, _, rfl, _, _, rfl, _⟩ := ho0
 have hfd := hm.dl fo (by simp)
 have hltm := hm.xl
 have hltml := hm.ml
 have hno := hm.no
 have hlt := hr.own.lt
 have key : ∀ o, o ≠ xo → (σ1.setO xo [fv, .int .i64 mm, .int .i64 mn, iv', .int .i64 steps, .slm mo 0 1 x.memory.length, ov', .int .i64 calls]).objs o = σ.objs o := fun o ho => by simp [ho, e1]
 have hof : ∀ g ∈ famL sv, σ1.F g = σ.F g := fun g hg => e4 g (hlt g hg) (fun h => hd g h hg)
 refine ⟨ov', sv, ⟨by simp [e2]; omega, Nat.le_trans hm.nf e3, fun o h1 h2 h3 h4 => ?_, fun g h1 h2 => ?_, hm.xl, hm.ml, hm.xm, fun o h1 => ?_, ?_, hs, fun g hg => ?_, ?_⟩, ⟨?_, hr.fl, ?_, hr.ownT⟩, fun g hg h' => ?_⟩
 ·rw [key o h2]; exact hm.obj o h1 h2 h3 h4
 ·have h3 : g ∉ famL ov := fun hg => by rcases hm.ownT g hg with h | h; exact h2 h; omega
  have := hm.nf
  show σ1.F g = σ0.F g
  rw [e4 g (by omega) h3]; exact hm.fam g h1 h2
 ·simpa [e2] using hm.dl o h1
 ·exact ⟨fv, iv', by simp, hfv, hi⟩
 ·rcases hsf g hg with h | h
  ·exact hm.ownT g h
  ·right; have := hm.nf; omega
 ·rw [key mo (Ne.symm hm.xm)]; exact hm.mem
 ·obtain ⟨pv, lv, tv, cv, a, b, c, d, e⟩ := hr.fr
  exact ⟨pv, lv, tv, cv, by rw [key fo hfd.2.1]; exact a, b, c, d, e.keep fun o ho => key o (hm.dl o (by simp [ho])).2.1⟩
 ·exact hr.own.keep (by simpa using e3) (by simpa using hof)
 ·rcases hsf g hg with h | h
  ·exact hd g h h'
  ·have := hlt g h'; omega
theorem trap_calls {t : Int} (h0 : t = 0 → R (.ret (.tuple [])) σ) (h1 : t ≠ 0 → R (.panic (overV 2 t)) σ) : ACalls Tryz.prog G 37 [.int .i64 t] σ R := by
 refine calls37 rfl ?_
 by_cases h : t = 0
 ·simp [pc37, splice, h]; exact h0 h
 ·simp [pc37, splice, h]; exact h1 h
theorem next_calls (h : XF fs mm mn σ0 xo mo fo L T x r σ) (hl : x.input.length ≤ 2 ^ 40) (hR : ∀ σ', (match x.input with | [] => XF fs mm mn σ0 xo mo fo L T x r σ' | _ :: l => XF fs mm mn σ0 xo mo fo L T { x with input := l } r σ') → R (.ret (.int .i64 (x.input.headD 0))) σ') : ACalls Tryz.prog G 103 [.ptr xo 0] σ R := by
 refine calls103 rfl ?_
 have hx := h
 obtain ⟨ov, sv, hm, hr, hd⟩ := h
 obtain ⟨fv, iv, ho, hfv, hiv⟩ := hm.mach
 have i1 := hiv.one
 have i2 := hiv.len
 have f1 := hfv.one
 have o1 := hm.own.one
 cases hin : x.input with
 | nil =>
  rw [hin] at hR i2
  simp [pc103, ho, splice, i2]
  exact hR _ hx
 | cons v l =>
  rw [hin] at hR i2 hiv
  rcases hiv with ⟨hh, _⟩ | ⟨b, rfl⟩
  ·cases hh
  ·have hne : ¬ ((l.length : Int) + 1 = 0) := by omega
   have ht : List.take l.length (l.map (AV.int .i64)) = l.map (AV.int .i64) := List.take_of_length_le (by simp)
   simp [pc103, ho, splice, hne, ht]
   exact ⟨by omega, hR _ (hx.setX (σ1 := σ) ho rfl rfl (Nat.le_refl _) (fun _ _ _ => rfl) (.inr ⟨_, rfl⟩) hm.own fun k hk => .inl hk)⟩
theorem cell_calls {at_ n : Int} (h : XF fs mm mn σ0 xo mo fo L T x r σ) (hn : 1 ≤ n ∧ n ≤ 8) (hml : x.memory.length ≤ 2 ^ 40) (hR : (at_ < 0 ∨ (x.memory.length : Int) - n < at_) → R (.panic (overV 2 3)) σ)
  (hR' : ¬ (at_ < 0 ∨ (x.memory.length : Int) - n < at_) → R (.ret (.slm mo at_.toNat 1 n.toNat)) σ) : ACalls Tryz.prog G 84 [.ptr xo 0, .int .i64 at_, .int .i64 n] σ R := by
 refine calls84 rfl ?_
 obtain ⟨ov, sv, hm, hr, hd⟩ := h
 obtain ⟨fv, iv, ho, hfv, hiv⟩ := hm.mach
 have i1 := hiv.one
 have f1 := hfv.one
 have o1 := hm.own.one
 have w1 : IntKind.wrap .i64 ((x.memory.length : Int) - n) = (x.memory.length : Int) - n := by rw [wrap_i64] <;> omega
 by_cases h1 : at_ < 0
 ·simp [pc84, ho, splice, h1]
  refine trap_calls (fun h => by omega) fun _ => ?_
  simp
  exact hR (.inl h1)
 ·by_cases h2 : (x.memory.length : Int) - n < at_
  ·simp [pc84, ho, splice, h1, w1, h2]
   refine trap_calls (fun h => by omega) fun _ => ?_
   simp
   exact hR (.inr h2)
  ·have w2 : IntKind.wrap .i64 (at_ + n) = at_ + n := by rw [wrap_i64] <;> omega
   simp [pc84, ho, splice, h1, w1, h2, w2]
   refine ⟨by omega, by omega, by omega, by omega, ?_⟩
   rw [show (at_ + n).toNat - at_.toNat = n.toNat by omega]
   exact hR' (by omega)
end
end Go.Proofs.YthifgodgfhbnfaaGreatDoor
set_option linter.unusedSimpArgs false
set_option linter.unusedVariables false
namespace Go.Proofs.YthifgodgfhbnfaaGreatDoor
open Go Go.Abs
theorem numOf_lt : ∀ (l : List UInt8), 0 ≤ numOf l ∧ numOf l < 256 ^ l.length
 | [] => by simp [numOf]
 | c :: l => by
  obtain ⟨h1, h2⟩ := numOf_lt l
  have hc := c.toNat_lt
  simp only [numOf, List.length_cons]
  rw [Int.pow_succ]
  omega
theorem numOf_snoc : ∀ (l : List UInt8) (c : UInt8), numOf (l ++ [c]) = numOf l + 256 ^ l.length * (c.toNat : Int)
 | [], c => by simp [numOf]
 | d :: l, c => by
  simp only [List.cons_append, numOf, numOf_snoc l c, List.length_cons]
  rw [Int.pow_succ, Int.mul_add, Int.mul_comm (256 ^ l.length) 256, Int.mul_assoc]; omega
theorem or_add {a b k : Nat} (ha : a < 2 ^ k) : a ||| (b * 2 ^ k) = a + b * 2 ^ k := by
 rw [Nat.add_comm, Nat.mul_comm, Nat.or_comm]
 exact (Nat.two_pow_add_eq_or_of_lt ha b).symm
theorem bits2_or {a c : Int} {k : Nat} {n : Nat} (h0 : 0 ≤ a) (ha : a < 2 ^ k) (hc : 0 ≤ c) (hc2 : c < 256) (hk : k + 8 ≤ 64) : bits2 .u64 (· ||| ·) a (IntKind.u64.wrap (c * 2 ^ k)) = a + 2 ^ k * c := by
 obtain ⟨a, rfl⟩ := Int.eq_ofNat_of_zero_le h0
 obtain ⟨c, rfl⟩ := Int.eq_ofNat_of_zero_le hc
 have hp : (2 : Nat) ^ (k + 8) ≤ 2 ^ 64 := Nat.pow_le_pow_right (by omega) hk
 have ha' : a < 2 ^ k := by exact_mod_cast ha
 have hb : c * 2 ^ k < 2 ^ 64 := by
  have h1 : c * 2 ^ k < 256 * 2 ^ k := Nat.mul_lt_mul_of_pos_right (by omega) (Nat.two_pow_pos k)
  rw [Nat.pow_add] at hp
  omega
 have hak : a < 2 ^ 64 := by
  have : (2 : Nat) ^ k ≤ 2 ^ 64 := Nat.pow_le_pow_right (by omega) (by omega)
  omega
 have hab : a + c * 2 ^ k < 2 ^ 64 := by
  rw [Nat.pow_add] at hp
  have h1 : c * 2 ^ k ≤ 255 * 2 ^ k := Nat.mul_le_mul_right _ (by omega)
  omega
 have wn : ∀ z : Nat, z < 2 ^ 64 → IntKind.u64.wrap (z : Int) = (z : Int) := fun z hz => by
  simp [IntKind.wrap, IntKind.bits, IntKind.signed]; omega
 have e1 : IntKind.u64.wrap ((c : Int) * 2 ^ k) = ((c * 2 ^ k : Nat) : Int) := by
  rw [← wn _ hb]; congr 1
 rw [e1]
 unfold bits2
 have e2 : ∀ z : Nat, z < 2 ^ 64 → (BitVec.ofInt IntKind.u64.bits (z : Int)).toNat = z := fun z hz => by
  rw [BitVec.ofInt_natCast, BitVec.toNat_ofNat]; exact Nat.mod_eq_of_lt hz
 rw [BitVec.toNat_or, e2 a hak, e2 _ hb, or_add ha', wn _ hab]
 push_cast
 rw [Int.mul_comm (2 ^ k)]
theorem shift_load {z : Int} {n : Nat} (h1 : 1 ≤ n) (h8 : n ≤ 8) (h0 : 0 ≤ z) (hz : z < 256 ^ n) :
  (IntKind.i64.wrap (IntKind.u64.wrap (z * 2 ^ (min (64 - 8 * n) 64)))).fdiv (2 ^ (min (64 - 8 * n) 64)) = if z < 2 ^ (8 * n - 1) then z else z - 2 ^ (8 * n) := by
 have hn : n = 1 ∨ n = 2 ∨ n = 3 ∨ n = 4 ∨ n = 5 ∨ n = 6 ∨ n = 7 ∨ n = 8 := by omega
 rw [Int.fdiv_eq_ediv_of_nonneg _ (Int.pow_nonneg (by omega))]
 rcases hn with rfl | rfl | rfl | rfl | rfl | rfl | rfl | rfl <;> simp [IntKind.wrap, IntKind.bits, IntKind.signed] at hz ⊢ <;> split <;> split <;> omega
def LDI (mo at_ n : Nat) (l : List UInt8) (σ : AS) (a : Nat → AV) (τ : AS) : Prop := ∃ i : Nat, i ≤ n ∧ a 0 = .slm mo at_ 1 n ∧ a 7 = .slm mo at_ 1 n ∧ a 8 = .int .i64 (n : Int) ∧ a 9 = .int .i64 (i : Int) ∧ a 3 = .int .u64 (numOf (l.take i)) ∧ τ = σ
theorem load_calls {G : Env} {σ : AS} {R : Out → AS → Prop} {mo at_ n : Nat} {mem : List UInt8} (ho : σ.objs mo = some (mem.map fun b => .int .u8 b.toNat)) (h1 : 1 ≤ n) (h8 : n ≤ 8) (hl : at_ + n ≤ mem.length) (hR : R (.ret (.int .i64 (loadW ((mem.drop at_).take n)))) σ) :
  ACalls Tryz.prog G 83 [.slm mo at_ 1 n] σ R := by
 refine calls83 rfl ?_
 generalize hle : (mem.drop at_).take n = l at *
 have hll : l.length = n := by rw [← hle]; simp; omega
 simp [pc83]
 refine aloop (LDI mo at_ n l σ) (MU 9 (n + 1)) ⟨0, by omega, by simp, by simp, by simp, by simp, by simp [numOf], rfl⟩ fun a τ hI => ?_
 obtain ⟨i, hi, a0, a7, a8, a9, a3, rfl⟩ := hI
 by_cases hlt : i < n
 ·have hil : i < l.length := by omega
  have hm : mem[at_ + i]? = some l[i] := by
   rw [← List.getElem?_eq_getElem hil, ← hle, List.getElem?_take, List.getElem?_drop, if_pos hlt]
  have hc := l[i].toNat_lt
  have w1 : IntKind.wrap .i64 (8 * (i : Int)) = 8 * (i : Int) := by rw [wrap_i64] <;> omega
  have w2 : IntKind.wrap .i64 ((i : Int) + 1) = ((i + 1 : Nat) : Int) := by rw [wrap_i64] <;> omega
  have w3 : IntKind.wrap .u64 (l[i].toNat : Int) = (l[i].toNat : Int) := by simp [IntKind.wrap, IntKind.bits, IntKind.signed]; omega
  obtain ⟨q1, q2⟩ := numOf_lt (l.take i)
  have hti : (l.take i).length = i := by simp; omega
  have w4 := bits2_or (a := numOf (l.take i)) (c := (l[i].toNat : Int)) (k := 8 * i) (n := 0) q1 (by rw [hti] at q2; rw [Int.pow_mul]; exact q2) (by omega) (by omega) (by omega)
  have w5 : numOf (l.take (i + 1)) = numOf (l.take i) + 2 ^ (8 * i) * (l[i].toNat : Int) := by
   rw [List.take_succ_eq_append_getElem hil, numOf_snoc, hti, Int.pow_mul]; rfl
  have w6 : min (8 * (i : Int)).toNat IntKind.u64.bits = 8 * i := by simp [IntKind.bits]; omega
  simp [pc83_l1, a0, a7, a8, a9, a3, hlt, ho, hm, w1, w2, w3, w6]
  refine ⟨by omega, ⟨i + 1, by omega, by simp [a0], by simp [a7], by simp [a8], by simp, ?_, rfl⟩, ?_⟩
  ·simp [w4, w5]
  ·simp only [MU, a9]; simp; omega
 ·have e : i = n := by omega
  subst e
  rw [List.take_of_length_le (by omega)] at a3
  obtain ⟨q1, q2⟩ := numOf_lt l
  have w1 : IntKind.wrap .i64 (8 * (i : Int)) = 8 * (i : Int) := by rw [wrap_i64] <;> omega
  have w2 : IntKind.wrap .i64 (64 - 8 * (i : Int)) = ((64 - 8 * i : Nat) : Int) := by rw [wrap_i64] <;> omega
  have w3 := shift_load h1 h8 q1 (by rw [hll] at q2; exact q2)
  simp [pc83_l1, pc83_r1, a0, a7, a8, a9, a3, w1, w2]
  unfold loadW at hR
  rw [hll, ← w3] at hR
  exact hR
end Go.Proofs.YthifgodgfhbnfaaGreatDoor
set_option linter.unusedSimpArgs false
set_option linter.unusedVariables false
namespace Go.Proofs.YthifgodgfhbnfaaGreatDoor
open Go Go.Abs
structure OkF (f : F) : Prop where
 params : f.params.length ≤ 2 ^ 38
 locals : f.locals.length ≤ 2 ^ 38
 lists : f.lists.length ≤ 2 ^ 38
 rows : ∀ l ∈ f.lists, l.length ≤ 2 ^ 38
 nums : ∀ l ∈ f.lists, ∀ w ∈ l, w.n ≤ 2 ^ 63 - 1
structure Bd (N : Nat) (x : Mach) (r : Fr) : Prop where
 n : N ≤ 2 ^ 38
 stack : (r.stack.length : Int) + max x.steps 0 ≤ N
 out : (x.out.length : Int) + max x.steps 0 ≤ N
 fn : OkF r.fn
 calls : 0 ≤ x.calls ∧ x.calls ≤ 32
 mem : x.memory.length ≤ 2 ^ 38
 inp : x.input.length ≤ 2 ^ 38
structure Aft (N : Nat) (x : Mach) (r : Fr) (x' : Mach) (r' : Fr) : Prop where
 bd : Bd N x' r'
 steps : x'.steps ≤ x.steps
 calls : x'.calls = x.calls
 fn : r'.fn = r.fn
theorem Aft.trans {N x r x' r' x'' r''} (h : Aft N x r x' r') (k : Aft N x' r' x'' r'') : Aft N x r x'' r'' := ⟨k.bd, Int.le_trans k.steps h.steps, k.calls.trans h.calls, k.fn.trans h.fn⟩
def RBd (N : Nat) (D : Int) (rec : RunR) : Prop := ∀ x r at_ deep o x' r', Bd N x r → deep ≤ D → rec x r at_ deep = .ok o x' r' → Aft N x r x' r' ∧ o ≤ 2 ^ 63 - 1
theorem popK_eq {α : Type} {r : Fr} {k : Int → Fr → Ev α} {e : Ev α} (h : popK r k = e) (hb : e ≠ .bad) : ∃ v, r.stack.getLast? = some v ∧ k v { r with stack := r.stack.dropLast } = e := by
 unfold popK at h
 cases hg : r.stack.getLast? with
 | none => rw [hg] at h; exact absurd h.symm hb
 | some v => rw [hg] at h; exact ⟨v, rfl, h⟩
structure B1 (N : Nat) (x : Mach) (r : Fr) : Prop where
 bd : Bd N x r
 st : (r.stack.length : Int) + max x.steps 0 + 1 ≤ N
 ou : (x.out.length : Int) + max x.steps 0 + 1 ≤ N
theorem Bd.one {N x r} (h : Bd N x r) (hs : 1 ≤ x.steps) : B1 N { x with steps := x.steps - 1 } r := by
 obtain ⟨a, b, c, d, e, f, g⟩ := h
 exact ⟨⟨a, by simp only; omega, by simp only; omega, d, e, f, g⟩, by simp only; omega, by simp only; omega⟩
theorem B1.stack {N x r} (h : B1 N x r) {st : List Int} {loc : List Int} {res : Int} (hs : st.length ≤ r.stack.length) : B1 N x { r with stack := st, locals := loc, result := res } := by
 obtain ⟨⟨a, b, c, d, e, f, g⟩, k, m⟩ := h
 exact ⟨⟨a, by simp only; omega, c, d, e, f, g⟩, by simp only; omega, m⟩
theorem Bd.stackLe {N x r} (h : Bd N x r) {st : List Int} {loc : List Int} {res : Int} (hs : st.length ≤ r.stack.length) : Bd N x { r with stack := st, locals := loc, result := res } := by
 obtain ⟨a, b, c, d, e, f, g⟩ := h
 exact ⟨a, by simp only; omega, c, d, e, f, g⟩
theorem B1.aft {N x r} (h : B1 N x r) {st : List Int} {loc : List Int} {res : Int} (hs : st.length ≤ r.stack.length + 1) : Aft N x r x { r with stack := st, locals := loc, result := res } := by
 obtain ⟨⟨a, b, c, d, e, f, g⟩, k, m⟩ := h
 exact ⟨⟨a, by simp only; omega, c, d, e, f, g⟩, Int.le_refl _, rfl, rfl⟩
theorem Bd.aft {N x r} (h : Bd N x r) {st : List Int} {loc : List Int} {res : Int} (hs : st.length ≤ r.stack.length) : Aft N x r x { r with stack := st, locals := loc, result := res } := by
 obtain ⟨a, b, c, d, e, f, g⟩ := h
 exact ⟨⟨a, by simp only; omega, c, d, e, f, g⟩, Int.le_refl _, rfl, rfl⟩
def OkFs (fs : List F) : Prop := ∀ f ∈ fs, OkF f
theorem call_bd {N : Nat} {D : Int} {rec : RunR} {fs : List F} (hr : RBd N D rec) (hf : OkFs fs) (hD : 0 ≤ D) {x : Mach} {r : Fr} (hb : Bd N x r) {g : F} (hg : g ∈ fs) {args : List Int} {v : Int} {x' : Mach} {r' : Fr} (h : callW rec x g args r = .ok v x' r') :
  r' = r ∧ Aft N x r x' r := by
 unfold callW at h
 split at h
 ·cases h
 rename_i hc
 obtain ⟨a, b, c, d, e, f, k⟩ := hb
 have hb' : Bd N { x with calls := x.calls + 1 } ⟨g, args ++ List.replicate g.locals.length 0, [], 0⟩ := ⟨a, by simp only [List.length_nil]; omega, c, hf g hg, by simp only; omega, f, k⟩
 have fin : ∀ {x1 : Mach} {f1 : Fr}, Aft N { x with calls := x.calls + 1 } ⟨g, args ++ List.replicate g.locals.length 0, [], 0⟩ x1 f1 → Aft N x r { x1 with calls := x1.calls - 1 } r := fun {x1 f1} ha => by
  obtain ⟨⟨a', b', c', d', e', f', k'⟩, s1, s2, s3⟩ := ha
  simp only at s1 s2
  exact ⟨⟨a, by simp only; omega, c', d, by simp only; omega, f', k'⟩, s1, by simp only; omega, rfl⟩
 split at h
 ·cases h
 ·cases h
 ·rename_i o x1 f1 hq
  have ha := (hr _ _ _ _ _ _ _ hb' hD hq).1
  split at h
  ·obtain ⟨v1, _, h⟩ := popK_eq h (by simp)
   cases h
   exact ⟨rfl, fin ha⟩
  ·cases h
   exact ⟨rfl, fin ha⟩
theorem writeW_length {mem : List UInt8} {at_ n : Nat} {v : Int} (h : at_ + n ≤ mem.length) : (writeW mem at_ v n).length = mem.length := by
 simp [writeW]; omega
theorem drop_len {l : List Int} {v : Int} (hv : l.getLast? = some v) : l.dropLast.length + 1 = l.length := by
 have : l ≠ [] := by rintro rfl; simp at hv
 have := List.length_pos_iff.2 this
 simp; omega
theorem calling_bd {N : Nat} {D : Int} {rec : RunR} {fs : List F} (hr : RBd N D rec) (hf : OkFs fs) (hD : 0 ≤ D) {n : Int} {x : Mach} {r : Fr} (hb : B1 N x r) {u : Unit} {x' : Mach} {r' : Fr} (h : callingW fs rec x r n = .ok u x' r') : Aft N x r x' r' := by
 unfold callingW at h
 split at h
 ·split at h
  ·cases h; exact hb.aft (by simp [Fr.push])
  ·rename_i v l hi
   cases h
   obtain ⟨a, b, c, d⟩ := hb.aft (st := r.stack ++ [v]) (loc := r.locals) (res := r.result) (by simp)
   obtain ⟨a1, a2, a3, a4, a5, a6, a7⟩ := a
   rw [hi, List.length_cons] at a7
   exact ⟨⟨a1, a2, a3, a4, a5, a6, by simp only; omega⟩, b, c, d⟩
 split at h
 ·obtain ⟨v, hv, h⟩ := popK_eq h (by simp)
  have h1 := drop_len hv
  cases h
  obtain ⟨⟨a, b, c, d, e, f, g⟩, k, m⟩ := hb
  refine ⟨⟨a, ?_, ?_, d, e, f, g⟩, Int.le_refl _, rfl, rfl⟩
  ·simp only; omega
  ·simp only [List.length_append, List.length_singleton]; omega
 split at h
 ·obtain ⟨v, hv, h⟩ := popK_eq h (by simp)
  cases h
 split at h
 ·cases h
 split at h
 ·cases h
 rename_i g hg
 split at h
 ·cases h
 have hgm : g ∈ fs := List.mem_of_getElem? hg
 split at h
 ·cases h
 ·cases h
 ·rename_i v x1 r1 hq
  have hb2 : B1 N x { r with stack := r.stack.take (r.stack.length - g.params.length) } := hb.stack (by simp)
  obtain ⟨rfl, ha⟩ := call_bd hr hf hD hb2.bd hgm hq
  cases h
  obtain ⟨⟨a, b, c, d, e, f, k⟩, s1, s2, s3⟩ := ha
  have h3 := hb.st
  refine ⟨⟨a, ?_, c, ?_, e, f, k⟩, s1, s2, ?_⟩
  ·split <;> simp only [Fr.push, List.length_append, List.length_singleton, List.length_take] at b ⊢ <;> omega
  ·split <;> exact d
  ·split <;> rfl
set_option maxHeartbeats 2000000 in
theorem plain_bd {N : Nat} {D : Int} {rec : RunR} {fs : List F} (hr : RBd N D rec) (hf : OkFs fs) (hD : 0 ≤ D) {w : W} {x : Mach} {r : Fr} (hb : B1 N x r) {u : Unit} {x' : Mach} {r' : Fr} (h : plainW fs rec w x r = .ok u x' r') : Aft N x r x' r' := by
 unfold plainW at h
 split at h
 ·cases h; exact hb.aft (by simp)
 split at h
 ·split at h
  ·cases h
  ·split at h
   ·cases h
   ·cases h; exact hb.aft (by simp)
 split at h
 ·split at h
  ·cases h
  ·obtain ⟨v, hv, h⟩ := popK_eq h (by simp)
   cases h; exact hb.aft (by simp; omega)
 split at h
 ·obtain ⟨v, hv, h⟩ := popK_eq h (by simp)
  obtain ⟨v2, hv2, h⟩ := popK_eq h (by simp)
  have h1 := drop_len hv
  have h2 := drop_len hv2
  simp only at h2
  split at h
  ·cases h
  split at h
  ·cases h
  ·cases h; exact hb.aft (by simp only [Fr.push, List.length_append, List.length_singleton]; omega)
 split at h
 ·obtain ⟨v, hv, h⟩ := popK_eq h (by simp)
  have h1 := drop_len hv
  cases h; exact hb.aft (by simp only [Fr.push, List.length_append, List.length_singleton]; omega)
 split at h
 ·obtain ⟨v, hv, h⟩ := popK_eq h (by simp)
  have h1 := drop_len hv
  cases h; exact hb.aft (by simp only [Fr.push, List.length_append, List.length_singleton]; omega)
 split at h
 ·obtain ⟨v, hv, h⟩ := popK_eq h (by simp)
  have h1 := drop_len hv
  split at h
  ·cases h
  unfold cellK at h
  split at h
  ·cases h
  split at h
  ·cases h
  ·cases h; exact hb.aft (by simp only [Fr.push, List.length_append, List.length_singleton]; omega)
 split at h
 ·obtain ⟨v, hv, h⟩ := popK_eq h (by simp)
  obtain ⟨v2, hv2, h⟩ := popK_eq h (by simp)
  have h1 := drop_len hv
  have h2 := drop_len hv2
  simp only at h2
  split at h
  ·cases h
  unfold cellK at h
  split at h
  ·cases h
  split at h
  ·cases h
  ·rename_i n1 n2
   cases h
   obtain ⟨a, b, c, d⟩ := hb.aft (st := r.stack.dropLast.dropLast) (loc := r.locals) (res := r.result) (by omega)
   obtain ⟨a1, a2, a3, a4, a5, a6, a7⟩ := a
   refine ⟨⟨a1, a2, a3, a4, a5, ?_, a7⟩, b, c, d⟩
   simp only
   rw [writeW_length]
   ·exact a6
   ·simp; omega
 split at h
 ·exact calling_bd hr hf hD hb h
 split at h
 ·cases h
 split at h
 ·obtain ⟨v, hv, h⟩ := popK_eq h (by simp)
  cases h; exact hb.aft (by simp; omega)
 ·cases h; exact hb.aft (by simp)
end Go.Proofs.YthifgodgfhbnfaaGreatDoor
set_option linter.unusedSimpArgs false
set_option linter.unusedVariables false
namespace Go.Proofs.YthifgodgfhbnfaaGreatDoor
open Go Go.Abs
theorem Bd.refl {N x r} (h : Bd N x r) : Aft N x r x r := ⟨h, Int.le_refl _, rfl, rfl⟩
theorem out_bd {N : Nat} {w : W} (hw : w.n ≤ 2 ^ 63 - 1) {deep : Int} (hd : deep ≤ 2 ^ 62) {x : Mach} {r : Fr} (hb : Bd N x r) {o : Int} {x' : Mach} {r' : Fr} (h : outW w deep x r = .ok o x' r') : Aft N x r x' r' ∧ o ≤ 2 ^ 63 - 1 := by
 have go : ∀ {n : Int} {r1 : Fr}, n ≤ 2 ^ 63 - 1 → Aft N x r x r1 → (if n = deep ∧ r1.fn.type ≠ 0 then popK r1 fun v r => Ev.ok n x { r with result := v } else .ok n x r1) = .ok o x' r' → Aft N x r x' r' ∧ o ≤ 2 ^ 63 - 1 := fun {n r1} hn ha h => by
  split at h
  ·obtain ⟨v, hv, h⟩ := popK_eq h (by simp)
   have := drop_len hv
   cases h
   exact ⟨ha.trans (ha.bd.aft (st := r1.stack.dropLast) (loc := r1.locals) (res := v) (by omega)), hn⟩
  ·cases h; exact ⟨ha, hn⟩
 unfold outW at h
 dsimp only at h
 split at h
 ·exact go (by omega) hb.refl h
 split at h
 ·obtain ⟨v, hv, h⟩ := popK_eq h (by simp)
  have h1 := drop_len hv
  have ha : Aft N x r x { r with stack := r.stack.dropLast } := hb.aft (by omega)
  split at h
  ·cases h; exact ⟨ha, by omega⟩
  ·exact go hw ha h
 ·exact go hw hb.refl h
theorem loopA_bd {N : Nat} {D : Int} {rec : RunR} (hr : RBd N D rec) {isLoop : Bool} {at_ deep : Int} (hd : deep ≤ D) : ∀ (j : Nat) {x : Mach} {r : Fr}, Bd N x r → ∀ {o : Int} {x' : Mach} {r' : Fr}, loopA rec isLoop at_ deep j x r = .ok o x' r' → Aft N x r x' r' ∧ o ≤ 2 ^ 63 - 1
 | 0, x, r, hb, o, x', r', h => by cases h
 | j + 1, x, r, hb, o, x', r', h => by
  rw [loopA] at h
  split at h
  ·cases h
  ·cases h
  ·rename_i o1 x1 r1 hq
   obtain ⟨ha, ho⟩ := hr _ _ _ _ _ _ _ hb hd hq
   split at h
   ·obtain ⟨h1, h2⟩ := loopA_bd hr hd j ha.bd h
    exact ⟨ha.trans h1, h2⟩
   ·cases h
    exact ⟨ha, by split <;> omega⟩
theorem around_bd {N : Nat} {D : Int} {rec : RunR} (hr : RBd N D rec) {k : Nat} {w : W} {deep : Int} (hd : deep ≤ D) {x : Mach} {r : Fr} (hb : Bd N x r) {o : Int} {x' : Mach} {r' : Fr} (h : aroundW rec k w deep x r = .ok o x' r') : Aft N x r x' r' ∧ o ≤ 2 ^ 63 - 1 := by
 have go : ∀ {at_ : Int} {r1 : Fr}, Aft N x r x r1 → (if at_ < 0 then Ev.ok (-1) x r1 else loopA rec (decide (w.op = 12)) at_ deep k x r1) = .ok o x' r' → Aft N x r x' r' ∧ o ≤ 2 ^ 63 - 1 := fun {at_ r1} ha h => by
  split at h
  ·cases h; exact ⟨ha, by omega⟩
  ·obtain ⟨h1, h2⟩ := loopA_bd hr hd k ha.bd h
   exact ⟨ha.trans h1, h2⟩
 unfold aroundW at h
 simp only at h
 split at h
 ·obtain ⟨v, hv, h⟩ := popK_eq h (by simp)
  have h1 := drop_len hv
  exact go (hb.aft (by omega)) h
 ·exact go hb.refl h
theorem exec_bd {N : Nat} {D : Int} {rec : RunR} {fs : List F} (hr : RBd N D rec) (hf : OkFs fs) (hD : 0 ≤ D) (hD2 : D ≤ 2 ^ 62) {k : Nat} {w : W} (hw : w.n ≤ 2 ^ 63 - 1) {deep : Int} (hd : deep + 1 ≤ D) {x : Mach} {r : Fr} (hb : B1 N x r) {o : Int} {x' : Mach} {r' : Fr} (h : execW fs rec k deep w x r = .ok o x' r') :
  Aft N x r x' r' ∧ o ≤ 2 ^ 63 - 1 := by
 unfold execW at h
 split at h
 ·cases h
 split at h
 ·exact around_bd hr hd hb.bd h
 split at h
 ·exact out_bd hw (by omega) hb.bd h
 split at h
 ·cases h
 ·cases h
 ·rename_i u x1 r1 hq
  cases h
  exact ⟨plain_bd hr hf hD hb hq, by omega⟩
theorem instrs_bd {N : Nat} {D : Int} {rec : RunR} {fs : List F} (hr : RBd N D rec) (hf : OkFs fs) (hD : 0 ≤ D) (hD2 : D ≤ 2 ^ 62) {k : Nat} {deep : Int} (hd : deep + 1 ≤ D) {height : Nat} : ∀ (ws : List W), (∀ w ∈ ws, w.n ≤ 2 ^ 63 - 1) → ∀ {x : Mach} {r : Fr}, Bd N x r → ∀ {o : Int} {x' : Mach} {r' : Fr}, instrsW fs rec k deep height ws x r = .ok o x' r' →
  Aft N x r x' r' ∧ o ≤ 2 ^ 63 - 1
 | [], _, x, r, hb, o, x', r', h => by cases h; exact ⟨hb.refl, by omega⟩
 | w :: ws, hw, x, r, hb, o, x', r', h => by
  rw [instrsW] at h
  split at h
  ·cases h
  rename_i hs
  split at h
  ·cases h
  ·cases h
  ·rename_i o1 x1 r1 hq
   obtain ⟨ha, ho⟩ := exec_bd hr hf hD hD2 (hw w (by simp)) hd (hb.one (by omega)) hq
   have ha' : Aft N x r x1 r1 := ⟨ha.bd, by have := ha.steps; simp only at this; omega, ha.calls, ha.fn⟩
   split at h
   ·obtain ⟨h1, h2⟩ := instrs_bd hr hf hD hD2 hd ws (fun w h => hw w (by simp [h])) ha.bd h
    exact ⟨ha'.trans h1, h2⟩
   ·split at h
    ·cases h
    ·cases h
     exact ⟨ha'.trans (ha.bd.aft (by rw [List.length_take]; omega)), ho⟩
theorem runL_bd {N : Nat} {fs : List F} (hf : OkFs fs) : ∀ (k : Nat) (D : Int), 0 ≤ D → D + k ≤ 2 ^ 62 → RBd N D (runL fs k)
 | 0, D, _, _ => fun x r at_ deep o x' r' _ _ h => by cases h
 | k + 1, D, h0, h1 => fun x r at_ deep o x' r' hb hd h => by
  rw [runL] at h
  split at h
  ·cases h
  split at h
  ·cases h
  ·rename_i ws hws
   exact instrs_bd (runL_bd hf k (D + 1) (by omega) (by push_cast at h1; omega)) hf (by omega) (by push_cast at h1; omega) (by omega) ws (fun w hw => hb.fn.nums _ (List.mem_of_getElem? hws) w hw) hb h
end Go.Proofs.YthifgodgfhbnfaaGreatDoor
set_option linter.unusedSimpArgs false
set_option linter.unusedVariables false
namespace Go.Proofs.YthifgodgfhbnfaaGreatDoor
open Go Go.Abs
def XO (fs : List F) (mm mn : Int) (σ0 : AS) (xo mo : Nat) (D T : List Nat) (x : Mach) (σ : AS) : Prop := ∃ ov, XM fs mm mn σ0 xo mo D T x ov σ
section
variable {G : Env} {fs : List F} {mm mn : Int} {σ0 σ : AS} {xo mo fo : Nat} {L T : List Nat} {x : Mach} {r : Fr} {R : Out → AS → Prop}
theorem XF.adds {σ' : AS} (h : XF fs mm mn σ0 xo mo fo L T x r σ) (A : Adds σ σ') : XF fs mm mn σ0 xo mo fo L T x r σ' := by
 obtain ⟨ov, sv, hm, hr, hd⟩ := h
 have hno := hm.no
 have hxl := hm.xl
 have hml := hm.ml
 refine ⟨ov, sv, ⟨Nat.le_trans hm.no A.no, Nat.le_trans hm.nf A.nf, fun o h1 h2 h3 h4 => ?_, fun g h1 h2 => ?_, hm.xl, hm.ml, hm.xm, fun o h1 => ?_, ?_, ?_, hm.ownT, ?_⟩, ⟨?_, hr.fl, ?_, hr.ownT⟩, hd⟩
 ·rw [A.obj o (by omega)]; exact hm.obj o h1 h2 h3 h4
 ·have := hm.nf; rw [A.fam g (by omega)]; exact hm.fam g h1 h2
 ·have := hm.dl o h1; have := A.no; exact ⟨by omega, (hm.dl o h1).2⟩
 ·obtain ⟨fv, iv, a, b, c⟩ := hm.mach
  exact ⟨fv, iv, by rw [A.obj xo (by omega)]; exact a, b, c⟩
 ·exact hm.own.keep A.nf fun g hg => A.fam g (hm.own.lt g hg)
 ·rw [A.obj mo (by omega)]; exact hm.mem
 ·obtain ⟨pv, lv, tv, cv, a, b, c, d, e⟩ := hr.fr
  exact ⟨pv, lv, tv, cv, by rw [A.obj fo (hm.dl fo (by simp)).1]; exact a, b, c, d, e.keep fun o ho => A.obj o (hm.dl o (by simp [ho])).1⟩
 ·exact hr.own.keep A.nf fun g hg => A.fam g (hr.own.lt g hg)
theorem XF.other (h : XF fs mm mn σ0 xo mo fo L T x r σ) {o : Nat} (h1 : o < σ0.no) (h2 : o ≠ xo) (h3 : o ≠ mo) (h4 : o ≠ fo) (h5 : o ∉ L) : σ.objs o = σ0.objs o := by
 obtain ⟨ov, sv, hm, _, _⟩ := h
 exact hm.obj o h1 h2 h3 (by simp [h4, h5])
theorem XF.lts (h : XF fs mm mn σ0 xo mo fo L T x r σ) : xo < σ.no ∧ mo < σ.no ∧ fo < σ.no ∧ ∀ o ∈ L, o < σ.no := by
 obtain ⟨ov, sv, hm, _, _⟩ := h
 have := hm.no; have := hm.xl; have := hm.ml
 exact ⟨by omega, by omega, (hm.dl fo (by simp)).1, fun o ho => (hm.dl o (by simp [ho])).1⟩
theorem XF.anchor (h : XF fs mm mn σ0 xo mo fo L T x r σ) : ∃ T', XF fs mm mn σ xo mo fo L T' x r σ ∧ (∀ x' r' σ', XF fs mm mn σ xo mo fo L T' x' r' σ' → XF fs mm mn σ0 xo mo fo L T x' r' σ') ∧
  ∀ x' σ', XO fs mm mn σ xo mo (fo :: L) T' x' σ' → XO fs mm mn σ0 xo mo (fo :: L) T x' σ' := by
 have hl := h.lts
 obtain ⟨ov, sv, hm, hr, hd⟩ := h
 have tT : ∀ g, g ∈ famL ov ++ famL sv → g ∈ T ∨ σ0.nf ≤ g := fun g hg => by
  rcases List.mem_append.1 hg with hg | hg
  ·exact hm.ownT g hg
  ·exact hr.ownT g hg
 have mt : ∀ x' ov' σ', XM fs mm mn σ xo mo (fo :: L) (famL ov ++ famL sv) x' ov' σ' → XM fs mm mn σ0 xo mo (fo :: L) T x' ov' σ' := fun x' ov' σ' k => by
  have h1 := hm.no; have h2 := hm.nf; have h3 := k.no; have h4 := k.nf
  refine ⟨by omega, by omega, fun o a b c d => ?_, fun g a b => ?_, hm.xl, hm.ml, hm.xm, k.dl, k.mach, k.own, fun g hg => ?_, k.mem⟩
  ·rw [k.obj o (by omega) b c d]; exact hm.obj o a b c d
  ·rw [k.fam g (by omega) (fun hg => by rcases tT g hg with h | h; exact b h; omega)]; exact hm.fam g a b
  ·rcases k.ownT g hg with h | h
   ·exact tT g h
   ·right; omega
 refine ⟨famL ov ++ famL sv, ⟨ov, sv, ⟨Nat.le_refl _, Nat.le_refl _, fun _ _ _ _ _ => rfl, fun _ _ _ => rfl, hl.1, hl.2.1, hm.xm, hm.dl, hm.mach, hm.own, fun g hg => .inl (by simp [hg]), hm.mem⟩, ⟨hr.fr, hr.fl, hr.own, fun g hg => .inl (by simp [hg])⟩, hd⟩, ?_, ?_⟩
 ·rintro x' r' σ' ⟨ov', sv', km, kr, kd⟩
  refine ⟨ov', sv', mt _ _ _ km, ⟨kr.fr, kr.fl, kr.own, fun g hg => ?_⟩, kd⟩
  rcases kr.ownT g hg with h | h
  ·exact tT g h
  ·right; have := hm.nf; omega
 ·rintro x' σ' ⟨ov', km⟩
  exact ⟨ov', mt _ _ _ km⟩
theorem XF.stop (h : XF fs mm mn σ0 xo mo fo L T x r σ) : XO fs mm mn σ0 xo mo (fo :: L) T x σ := by
 obtain ⟨ov, sv, hm, _, _⟩ := h; exact ⟨ov, hm⟩
def ListOk (G : Env) (fs : List F) (mm mn : Int) (N : Nat) (D : Int) (rec : RunR) : Prop := ∀ {σ0 σ : AS} {xo mo fo : Nat} {L T : List Nat} {x : Mach} {r : Fr} {at_ deep : Int} {R : Out → AS → Prop},
 XF fs mm mn σ0 xo mo fo L T x r σ → Bd N x r → 0 ≤ deep → deep ≤ D → rec x r at_ deep ≠ .bad →
 (∀ o x' r' σ', rec x r at_ deep = .ok o x' r' → XF fs mm mn σ0 xo mo fo L T x' r' σ' → R (.ret (.int .i64 o)) σ') →
 (∀ s c x' σ', rec x r at_ deep = .over s c x' → XO fs mm mn σ0 xo mo (fo :: L) T x' σ' → R (.panic (overV s c)) σ') →
 ACalls Tryz.prog G 38 [.ptr xo 0, .ptr fo 0, .int .i64 at_, .int .i64 deep] σ R
theorem XF.cells (h : XF fs mm mn σ0 xo mo fo L T x r σ) : ∃ pv lv tv cv sv, σ.objs fo = some [.str r.fn.name, pv, lv, .int .i64 r.fn.type, tv, cv, sv, .int .i64 r.result] ∧ (pv.known = true ∧ pv.one = true ∧ pv.cells = [pv]) ∧ (lv.known = true ∧ lv.one = true ∧ lv.cells = [lv]) ∧
  (tv.known = true ∧ tv.one = true ∧ tv.cells = [tv]) ∧ (cv.known = true ∧ cv.one = true ∧ cv.cells = [cv]) ∧ (sv.known = true ∧ sv.one = true ∧ sv.cells = [sv]) ∧ OwnV σ sv r.stack ∧ ListsV tv r.fn.lists ∧ LocV σ L cv r.locals ∧
  ∀ v, XF fs mm mn σ0 xo mo fo L T x { r with result := v } (σ.setO fo [.str r.fn.name, pv, lv, .int .i64 r.fn.type, tv, cv, sv, .int .i64 v]) := by
 have hx := h
 obtain ⟨ov, sv, hm, hr, hd⟩ := h
 obtain ⟨pv, lv, tv, cv, ho, hpv, hlv, htv, hcv⟩ := hr.fr
 exact ⟨pv, lv, tv, cv, sv, ho, hpv.one, hlv.one, htv.one, hcv.one, hr.own.one, hr.own, htv, hcv, fun v => hx.setFr (σ1 := σ) (st' := r.stack) ho rfl rfl (Nat.le_refl _) (fun _ _ _ => rfl) hr.own fun g hg => .inl hg⟩
theorem getLast_some {l : List Int} (h : l ≠ []) : ∃ v, l.getLast? = some v := ⟨_, List.getLast?_eq_some_getLast h⟩
set_option maxHeartbeats 1000000 in
theorem out_calls {N : Nat} {w : W} {deep : Int} (h : XF fs mm mn σ0 xo mo fo L T x r σ) (hb : Bd N x r) (hw : outW w deep x r ≠ .bad) (hR : ∀ o x' r' σ', outW w deep x r = .ok o x' r' → XF fs mm mn σ0 xo mo fo L T x' r' σ' → R (.ret (.int .i64 o)) σ') :
  ACalls Tryz.prog G 56 [.ptr fo 0, w.av, .int .i64 deep] σ R := by
 refine calls56 rfl ?_
 obtain ⟨wop, wty, wn, wbody, wother, wname⟩ := w
 have hn := hb.n
 have hst : r.stack.length ≤ 2 ^ 40 := by have := hb.stack; omega
 have hlts := h.lts
 have h1 : XF fs mm mn σ0 xo mo fo L T x r (σ.newO [.int .i64 wop, .int .i64 wty, .int .i64 wn, .int .i64 wbody, .int .i64 wother, .str wname]) := h.adds (Adds.refl σ).newO
 obtain ⟨T', k1, k2, _⟩ := h1.anchor
 have hfo : fo ≠ σ.no := by omega
 have hbo : ∀ {r1 : Fr} {σ' : AS}, XF fs mm mn (σ.newO [.int .i64 wop, .int .i64 wty, .int .i64 wn, .int .i64 wbody, .int .i64 wother, .str wname]) xo mo fo L T' x r1 σ' → σ'.objs σ.no = some [.int .i64 wop, .int .i64 wty, .int .i64 wn, .int .i64 wbody, .int .i64 wother, .str wname] := fun {r1 σ'} hx => by
  rw [hx.other (o := σ.no) (by simp) (by omega) (by omega) (by omega) (fun hh => by have := hlts.2.2.2 _ hh; omega)]; simp
 obtain ⟨pv, lv, tv, cv, sv, ho, e1, e2, e3, e4, e5, _, _, _, _⟩ := h.cells
 -- the branch to the body, that takes the result
 have last : ∀ {r1 : Fr} {σ1 : AS} {n : Int}, XF fs mm mn (σ.newO [.int .i64 wop, .int .i64 wty, .int .i64 wn, .int .i64 wbody, .int .i64 wother, .str wname]) xo mo fo L T' x r1 σ1 → r1.stack.length ≤ 2 ^ 40 → popK r1 (fun v r => Ev.ok n x { r with result := v }) ≠ .bad →
   ∀ {K : Out → AS → Prop}, (∀ v σ' pv lv tv cv sv, r1.stack.getLast? = some v → σ'.objs fo = some [.str r1.fn.name, pv, lv, .int .i64 r1.fn.type, tv, cv, sv, .int .i64 r1.result] → (pv.known = true ∧ pv.one = true ∧ pv.cells = [pv]) → (lv.known = true ∧ lv.one = true ∧ lv.cells = [lv]) → (tv.known = true ∧ tv.one = true ∧ tv.cells = [tv]) → (cv.known = true ∧ cv.one = true ∧ cv.cells = [cv]) → (sv.known = true ∧ sv.one = true ∧ sv.cells = [sv]) →
    XF fs mm mn σ0 xo mo fo L T x { r1 with stack := r1.stack.dropLast, result := v } (σ'.setO fo [.str r1.fn.name, pv, lv, .int .i64 r1.fn.type, tv, cv, sv, .int .i64 v]) → K (.ret (.int .i64 v)) σ') → ACalls Tryz.prog G 39 [.ptr fo 0] σ1 K := by
  intro r1 σ1 n hx hl hp K hK
  have hne : r1.stack ≠ [] := by rintro e; simp [popK, e] at hp
  obtain ⟨v, hv⟩ := getLast_some hne
  refine pop_calls hx hl hv fun σ' hx' => ?_
  obtain ⟨pv, lv, tv, cv, sv, ho, e1, e2, e3, e4, e5, _, _, _, hset⟩ := hx'.cells
  exact hK v σ' pv lv tv cv sv hv ho e1 e2 e3 e4 e5 (k2 _ _ _ (hset v))
 by_cases h16 : wop = 16
 ·subst h16
  simp only [outW, if_true] at hw hR
  by_cases ht : r.fn.type = 0
  ·simp [ht] at hR
   simp [pc56, W.av, W.cs, splice, hfo, ho, ht, e1, e2, e3, e4, e5]
   exact hR _ _ _ _ rfl rfl rfl h1
  ·simp [ht] at hR hw
   simp [pc56, W.av, W.cs, splice, hfo, ho, ht, e1, e2, e3, e4, e5]
   refine last k1 hst hw fun v σ' pv lv tv cv sv hv ho e1 e2 e3 e4 e5 hx => ?_
   simp [ho, e1, e2, e3, e4, e5, splice]
   exact hR _ _ _ _ (by simp [popK, hv]) hx
 by_cases h15 : wop = 15
 ·subst h15
  have hne : r.stack ≠ [] := by rintro e; simp [outW, popK, e] at hw
  obtain ⟨v, hv⟩ := getLast_some hne
  have hd := drop_len hv
  simp [pc56, W.av, W.cs, splice, hfo, ho, e1, e2, e3, e4, e5]
  refine pop_calls k1 hst hv fun σ' hx' => ?_
  obtain ⟨pv, lv, tv, cv, sv, ho', e1, e2, e3, e4, e5, _, _, _, _⟩ := hx'.cells
  have hbo' := hbo hx'
  by_cases hv0 : v = 0
  ·simp [outW, popK, hv, hv0] at hR
   simp [hv0, splice]
   exact hR _ _ _ _ rfl rfl rfl (k2 _ _ _ hx')
  ·by_cases hnd : wn = deep
   ·by_cases ht : r.fn.type = 0
    ·simp [outW, popK, hv, hv0, hnd, ht] at hR
     simp [hv0, splice, hnd, ho', ht, e1, e2, e3, e4, e5, hbo', W.cs]
     exact hR _ _ _ _ rfl rfl rfl (k2 _ _ _ hx')
    ·have hw' : popK { r with stack := r.stack.dropLast } (fun v r => Ev.ok deep x { r with result := v }) ≠ .bad := by
      intro hh; apply hw; rw [← hh]; simp only [outW]; simp [popK, hv, hv0, hnd, ht]
     simp [hv0, splice, hnd, ho', ht, e1, e2, e3, e4, e5, hbo', W.cs]
     refine last hx' (by simp; omega) hw' fun v2 σ' pv lv tv cv sv hv2 ho e1 e2 e3 e4 e5 hx => ?_
     simp [ho, e1, e2, e3, e4, e5, splice]
     refine hR _ _ _ _ ?_ hx
     simp only [outW]
     simp [popK, hv, hv0, hnd, ht, hv2]
   ·simp [outW, popK, hv, hv0, hnd] at hR
    simp [hv0, splice, hnd, ho', e1, e2, e3, e4, e5, hbo', W.cs]
    exact hR _ _ _ _ rfl rfl rfl (k2 _ _ _ hx')
 by_cases hnd : wn = deep
 ·by_cases ht : r.fn.type = 0
  ·simp [outW, h16, h15, hnd, ht] at hR
   simp [pc56, W.av, W.cs, splice, h16, h15, hnd, hfo, ho, ht, e1, e2, e3, e4, e5]
   exact hR _ _ _ _ rfl rfl rfl (by simpa [hnd] using h1)
  ·simp [outW, h16, h15, hnd, ht] at hR hw
   subst hnd
   simp [pc56, W.av, W.cs, splice, h16, h15, hfo, ho, ht, e1, e2, e3, e4, e5]
   refine last k1 hst hw fun v σ' pv lv tv cv sv hv ho e1 e2 e3 e4 e5 hx => ?_
   simp [ho, e1, e2, e3, e4, e5, splice]
   exact hR _ _ _ _ (by simp [popK, hv]) hx
 ·simp [outW, h16, h15, hnd] at hR
  simp [pc56, W.av, W.cs, splice, h16, h15, hnd, hfo, ho, e1, e2, e3, e4, e5]
  exact hR _ _ _ _ rfl rfl rfl h1
end
end Go.Proofs.YthifgodgfhbnfaaGreatDoor
set_option linter.unusedSimpArgs false
set_option linter.unusedVariables false
namespace Go.Proofs.YthifgodgfhbnfaaGreatDoor
open Go Go.Abs
section
variable {G : Env} {fs : List F} {mm mn : Int} {σ0 σ : AS} {xo mo fo : Nat} {L T : List Nat} {x : Mach} {r : Fr} {R : Out → AS → Prop}
theorem around_rounds {N : Nat} {D : Int} {rec : RunR} (hrec : ListOk G fs mm mn N D rec) (hbd : RBd N D rec) {wop wty wn wbody wother at_ deep : Int} {wname : List UInt8} {bo : Nat} (h0 : 0 ≤ deep) (hd : deep ≤ D) (hat : 0 ≤ at_)
  (hbo : ∀ {x1 : Mach} {r1 : Fr} {σ' : AS}, XF fs mm mn σ0 xo mo fo L T x1 r1 σ' → σ'.objs bo = some [.int .i64 wop, .int .i64 wty, .int .i64 wn, .int .i64 wbody, .int .i64 wother, .str wname]) :
  ∀ (j : Nat) {x1 : Mach} {r1 : Fr} {τ : AS} {a : Nat → AV}, XF fs mm mn σ0 xo mo fo L T x1 r1 τ → Bd N x1 r1 → loopA rec (decide (wop = 12)) at_ deep j x1 r1 ≠ .bad → a 0 = .ptr xo 0 → a 1 = .ptr fo 0 → a 3 = .int .i64 deep → a 6 = .ptr bo 0 → a 9 = .int .i64 at_ →
   (∀ o x' r' σ', loopA rec (decide (wop = 12)) at_ deep j x1 r1 = .ok o x' r' → XF fs mm mn σ0 xo mo fo L T x' r' σ' → R (.ret (.int .i64 o)) σ') →
   (∀ s c x' σ', loopA rec (decide (wop = 12)) at_ deep j x1 r1 = .over s c x' → XO fs mm mn σ0 xo mo (fo :: L) T x' σ' → R (.panic (overV s c)) σ') →
   ARounds Tryz.prog G 41 pc55_l1 (ablock 0 (athen (avc Tryz.prog G 41 pc55_r1 (afin Tryz.prog [ResultVar.tmp 8] R)) (afin Tryz.prog [ResultVar.tmp 8] R))) j a τ
 | 0, x1, r1, τ, a, hx, hb, hw, _, _, _, _, _, _, _ => by simp [loopA] at hw
 | j + 1, x1, r1, τ, a, hx, hb, hw, a0, a1, a3, a6, a9, hR, hO => by
  have hat' : ¬ at_ < 0 := by omega
  simp only [loopA] at hw hR hO
  simp [pc55_l1, a0, a1, a3, a6, a9, hat, hat']
  refine hrec hx hb h0 hd (fun e => by rw [e] at hw; exact hw rfl) (fun o x' r' σ' e hx' => ?_) (fun s c x' σ' e ho => ?_)
  ·rw [e] at hw hR hO
   obtain ⟨hA, ho2⟩ := hbd _ _ _ _ _ _ _ hb hd e
   have hbo' := hbo hx'
   simp only at hw hR hO
   by_cases ho : o = 0
   ·by_cases h12 : wop = 12
    ·simp only [ho, h12, decide_true, and_self, if_true] at hw hR hO
     simp [ho, h12, hbo', splice, a0, a1, a3, a6, a9]
     exact around_rounds hrec hbd h0 hd hat hbo j hx' hA.bd (by simpa [h12] using hw) (by simp [a0]) (by simp [a1]) (by simp [a3]) (by simp [a6]) (by simp [a9]) (by simpa [h12] using hR) (by simpa [h12] using hO)
    ·simp [ho, h12] at hR
     simp [ho, h12, hbo', pc55_r1, a0, a1, a3, a6, a9]
     exact hR _ _ _ _ rfl rfl rfl hx'
   ·by_cases hp : 0 < o
    ·have w1 : IntKind.wrap .i64 (o - 1) = o - 1 := by rw [wrap_i64] <;> omega
     simp [ho, hp] at hR
     simp [ho, hp, hbo', w1, splice, a0, a1, a3, a6, a9]
     exact hR _ _ _ _ rfl rfl rfl hx'
    ·simp [ho, hp] at hR
     simp [ho, hp, hbo', pc55_r1, a0, a1, a3, a6, a9]
     exact hR _ _ _ _ rfl rfl rfl hx'
  ·rw [e] at hO
   simp
   exact hO _ _ _ _ rfl ho
theorem around_calls {N : Nat} {D : Int} {rec : RunR} (hrec : ListOk G fs mm mn N D rec) (hbd : RBd N D rec) {k : Nat} {w : W} {deep : Int} (h : XF fs mm mn σ0 xo mo fo L T x r σ) (hb : Bd N x r) (h0 : 0 ≤ deep) (hd : deep ≤ D) (hw : aroundW rec k w deep x r ≠ .bad)
  (hR : ∀ o x' r' σ', aroundW rec k w deep x r = .ok o x' r' → XF fs mm mn σ0 xo mo fo L T x' r' σ' → R (.ret (.int .i64 o)) σ')
  (hO : ∀ s c x' σ', aroundW rec k w deep x r = .over s c x' → XO fs mm mn σ0 xo mo (fo :: L) T x' σ' → R (.panic (overV s c)) σ') :
  ACalls Tryz.prog G 55 [.ptr xo 0, .ptr fo 0, w.av, .int .i64 deep] σ R := by
 refine calls55 rfl ?_
 obtain ⟨wop, wty, wn, wbody, wother, wname⟩ := w
 have hn := hb.n
 have hst : r.stack.length ≤ 2 ^ 40 := by have := hb.stack; omega
 have hlts := h.lts
 have h1 : XF fs mm mn σ0 xo mo fo L T x r (σ.newO [.int .i64 wop, .int .i64 wty, .int .i64 wn, .int .i64 wbody, .int .i64 wother, .str wname]) := h.adds (Adds.refl σ).newO
 obtain ⟨T', k1, k2, k3⟩ := h1.anchor
 have hbo : ∀ {x1 : Mach} {r1 : Fr} {σ' : AS}, XF fs mm mn (σ.newO [.int .i64 wop, .int .i64 wty, .int .i64 wn, .int .i64 wbody, .int .i64 wother, .str wname]) xo mo fo L T' x1 r1 σ' → σ'.objs σ.no = some [.int .i64 wop, .int .i64 wty, .int .i64 wn, .int .i64 wbody, .int .i64 wother, .str wname] := fun {x1 r1 σ'} hx => by
  rw [hx.other (o := σ.no) (by simp) (by omega) (by omega) (by omega) (fun hh => by have := hlts.2.2.2 _ hh; omega)]; simp
 have go : ∀ {at_ : Int} {r1 : Fr} {σ1 : AS} {a : Nat → AV}, XF fs mm mn (σ.newO [.int .i64 wop, .int .i64 wty, .int .i64 wn, .int .i64 wbody, .int .i64 wother, .str wname]) xo mo fo L T' x r1 σ1 → Bd N x r1 → (if at_ < 0 then Ev.ok (-1) x r1 else loopA rec (decide (wop = 12)) at_ deep k x r1) = aroundW rec k ⟨wop, wty, wn, wbody, wother, wname⟩ deep x r →
   a 0 = .ptr xo 0 → a 1 = .ptr fo 0 → a 3 = .int .i64 deep → a 6 = .ptr σ.no 0 → a 9 = .int .i64 at_ → ALoop Tryz.prog G 41 pc55_l1 (ablock 0 (athen (avc Tryz.prog G 41 pc55_r1 (afin Tryz.prog [ResultVar.tmp 8] R)) (afin Tryz.prog [ResultVar.tmp 8] R))) a σ1 := by
  intro at_ r1 σ1 a hx hb1 e a0 a1 a3 a6 a9
  by_cases hat : at_ < 0
  ·refine aloop_rounds 1 ?_
   have hat' : ¬ 0 ≤ at_ := by omega
   rw [if_pos hat] at e
   simp [pc55_l1, pc55_r1, a0, a1, a3, a6, a9, hat, hat']
   exact hR _ _ _ _ e.symm (k2 _ _ _ hx)
  ·rw [if_neg hat] at e
   refine aloop_rounds k ?_
   exact around_rounds (R := R) hrec hbd h0 hd (by omega) hbo k hx hb1 (by rw [e]; exact hw) a0 a1 a3 a6 a9 (fun o x' r' σ' e2 hx' => hR _ _ _ _ (e ▸ e2) (k2 _ _ _ hx')) (fun s c x' σ' e2 ho => hO _ _ _ _ (e ▸ e2) (k3 _ _ ho))
 by_cases h13 : wop = 13
 ·subst h13
  have hne : r.stack ≠ [] := by rintro e; simp [aroundW, popK, e] at hw
  obtain ⟨v, hv⟩ := getLast_some hne
  have hdl := drop_len hv
  simp [pc55, W.av, W.cs]
  refine pop_calls k1 hst hv fun σ' hx' => ?_
  have hbo' := hbo hx'
  by_cases hv0 : v = 0
  ·simp [hv0, hbo', splice]
   refine go (at_ := wother) hx' (hb.stackLe (by omega)) ?_ (by simp) (by simp) (by simp) (by simp) (by simp)
   simp [aroundW, popK, hv, hv0]
  ·simp [hv0, hbo', splice]
   refine go (at_ := wbody) hx' (hb.stackLe (by omega)) ?_ (by simp) (by simp) (by simp) (by simp) (by simp)
   simp [aroundW, popK, hv, hv0]
 ·simp [pc55, W.av, W.cs, h13]
  refine go (at_ := wbody) k1 hb ?_ (by simp) (by simp) (by simp) (by simp) (by simp)
  simp [aroundW, h13]
end
end Go.Proofs.YthifgodgfhbnfaaGreatDoor
set_option linter.unusedSimpArgs false
set_option linter.unusedVariables false
namespace Go.Proofs.YthifgodgfhbnfaaGreatDoor
open Go Go.Abs
section
variable {G : Env} {fs : List F} {mm mn : Int} {σ0 σ : AS} {xo mo fo : Nat} {L T D : List Nat} {x : Mach} {r : Fr} {R : Out → AS → Prop}
def ArgV (σ : AS) (v : AV) (l : List Int) : Prop := (l = [] ∧ v = .sl (.stat true) 1 []) ∨ OwnV σ v l
theorem ArgV.one {σ v l} (h : ArgV σ v l) : v.known = true ∧ v.one = true ∧ v.cells = [v] := by
 rcases h with ⟨_, rfl⟩ | h
 ·simp
 ·exact h.one
theorem cloneOwn_calls {l : List Int} {sv : AV} (h : OwnV σ sv l) (hl : l.length ≤ 2 ^ 40) (hR : ∀ av σ', ArgV σ' av l → Adds σ σ' → (∀ g ∈ famL av, σ.nf ≤ g) → R (.ret av) σ') : ACalls Tryz.prog G 104 [sv] σ R := by
 refine calls104 rfl ?_
 rcases h with ⟨rfl, rfl⟩ | ⟨g, rfl, h1, h2⟩
 ·have := hR .nilsl σ (.inr (.inl ⟨rfl, rfl⟩)) (.refl _) (by simp [famL])
  simp [pc104, aeq]
  exact this
 ·cases l with
  | nil =>
   have := hR (.sl (.stat true) 1 []) σ (.inl ⟨rfl, rfl⟩) (.refl _) (by simp [famL])
   simp [pc104, aeq, h2]
   exact this
  | cons n l =>
   have := hR (.sl (.fam σ.nf false) 1 ((n :: l).map (.int .i64))) σ.newF (.inr (.inr ⟨_, rfl, by simp, by simp⟩)) (Adds.refl σ).newF (by simp [famL])
   simp at hl
   simp [pc104, aeq, h2]
   exact ⟨by omega, by simpa using this⟩
theorem grown_args {av : AV} {args : List Int} {n : Nat} {K : AV → AS → Prop} (h : ArgV σ av args) (hl : args.length + n ≤ 2 ^ 40)
  (hK : ∀ cv σ', ArgV σ' cv (args ++ List.replicate n 0) → σ'.objs = σ.objs → σ'.no = σ.no → σ.nf ≤ σ'.nf → (∀ k, k < σ.nf → k ∉ famL av → σ'.F k = σ.F k) → (∀ k ∈ famL cv, k ∈ famL av ∨ σ.nf ≤ k) → K cv σ') :
  grown 8 1 av (List.replicate n (.int .i64 0)) σ K := by
 have hrep : ∀ m, (List.replicate m (AV.int .i64 0)) = (List.replicate m (0 : Int)).map (.int .i64) := fun m => by simp
 have fresh : ∀ {a : List Int}, ArgV σ.newF (.sl (.fam σ.nf false) 1 ((a ++ List.replicate n 0).map (.int .i64))) (a ++ List.replicate n 0) := fun {a} => .inr (.inr ⟨_, rfl, by simp, by simp⟩)
 rcases h with ⟨rfl, rfl⟩ | ⟨rfl, rfl⟩ | ⟨g, rfl, h1, h2⟩
 ·cases n with
  | zero => simpa using hK (.sl (.stat true) 1 []) σ (.inl ⟨rfl, rfl⟩) rfl rfl (Nat.le_refl _) (fun _ _ _ => rfl) (by simp [famL])
  | succ n =>
   have := hK _ σ.newF (fresh (a := [])) (by simp) (by simp) (by simp) (fun k h1 _ => by simp; intro h; omega) (by simp [famL])
   rw [List.replicate_succ]
   simp at hl
   simp
   refine ⟨by omega, ?_⟩
   simpa [List.replicate_succ] using this
 ·cases n with
  | zero => simpa using hK .nilsl σ (.inr (.inl ⟨rfl, rfl⟩)) rfl rfl (Nat.le_refl _) (fun _ _ _ => rfl) (by simp [famL])
  | succ n =>
   have := hK _ σ.newF (fresh (a := [])) (by simp) (by simp) (by simp) (fun k h1 _ => by simp; intro h; omega) (by simp [famL])
   rw [List.replicate_succ]
   simp at hl
   simp
   refine ⟨by omega, ?_⟩
   simpa [List.replicate_succ] using this
 ·have := hK (.sl (.fam σ.nf false) 1 ((args ++ List.replicate n 0).map (.int .i64))) (σ.setF g .dead).newF (.inr (.inr ⟨_, rfl, by simp, by simp⟩)) (by simp) (by simp) (by simp) (fun k h1 h2 => by simp [famL] at h2; simp [h2]; intro h; omega) (by simp [famL])
  simp [h2]
  exact ⟨by omega, by simpa using this⟩
theorem XM.adds {ov : AV} {σ' : AS} (hm : XM fs mm mn σ0 xo mo D T x ov σ) (A : Adds σ σ') : XM fs mm mn σ0 xo mo D T x ov σ' := by
 have hno := hm.no
 have hxl := hm.xl
 have hml := hm.ml
 refine ⟨Nat.le_trans hm.no A.no, Nat.le_trans hm.nf A.nf, fun o h1 h2 h3 h4 => ?_, fun g h1 h2 => ?_, hm.xl, hm.ml, hm.xm, fun o h1 => ?_, ?_, ?_, hm.ownT, ?_⟩
 ·rw [A.obj o (by omega)]; exact hm.obj o h1 h2 h3 h4
 ·have := hm.nf; rw [A.fam g (by omega)]; exact hm.fam g h1 h2
 ·have := hm.dl o h1; have := A.no; exact ⟨by omega, (hm.dl o h1).2⟩
 ·obtain ⟨fv, iv, a, b, c⟩ := hm.mach
  exact ⟨fv, iv, by rw [A.obj xo (by omega)]; exact a, b, c⟩
 ·exact hm.own.keep A.nf fun g hg => A.fam g (hm.own.lt g hg)
 ·rw [A.obj mo (by omega)]; exact hm.mem
theorem XM.calls {fv iv ov : AV} {c : Int} (hm : XM fs mm mn σ0 xo mo D T x ov σ) (ho : σ.objs xo = some [fv, .int .i64 mm, .int .i64 mn, iv, .int .i64 x.steps, .slm mo 0 1 x.memory.length, ov, .int .i64 x.calls]) (hf : FsV fv fs) (hi : IntsV iv x.input) :
  XM fs mm mn σ0 xo mo D T { x with calls := c } ov (σ.setO xo [fv, .int .i64 mm, .int .i64 mn, iv, .int .i64 x.steps, .slm mo 0 1 x.memory.length, ov, .int .i64 c]) := by
 refine ⟨by simpa using hm.no, hm.nf, fun o h1 h2 h3 h4 => by simp [h2]; exact hm.obj o h1 h2 h3 h4, hm.fam, hm.xl, hm.ml, hm.xm, fun o h => by simpa using hm.dl o h, ⟨fv, iv, by simp, hf, hi⟩, hm.own.keep (by simp) (fun _ _ => rfl), hm.ownT, ?_⟩
 simp [Ne.symm hm.xm]; exact hm.mem
theorem XM.reanchor {ov : AV} (hm : XM fs mm mn σ0 xo mo D T x ov σ) {D' : List Nat} (hd : ∀ o ∈ D', o < σ.no ∧ o ≠ xo ∧ o ≠ mo) : XM fs mm mn σ xo mo D' (famL ov) x ov σ := by
 have := hm.no; have := hm.xl; have := hm.ml
 exact ⟨Nat.le_refl _, Nat.le_refl _, fun _ _ _ _ _ => rfl, fun _ _ _ => rfl, by omega, by omega, hm.xm, hd, hm.mach, hm.own, fun g hg => .inl hg, hm.mem⟩
theorem XM.back {ov : AV} (hm : XM fs mm mn σ0 xo mo D T x ov σ) {D' : List Nat} (hd : ∀ o ∈ D', σ0.no ≤ o) {x' : Mach} {σ' : AS} (h : XO fs mm mn σ xo mo D' (famL ov) x' σ') : XO fs mm mn σ0 xo mo D T x' σ' := by
 obtain ⟨ov', k⟩ := h
 have h1 := hm.no; have h2 := hm.nf; have h3 := k.no; have h4 := k.nf
 refine ⟨ov', by omega, by omega, fun o a b c d => ?_, fun g a b => ?_, hm.xl, hm.ml, hm.xm, fun o ho => ?_, k.mach, k.own, fun g hg => ?_, k.mem⟩
 ·rw [k.obj o (by omega) b c (fun hh => by have := hd o hh; omega)]; exact hm.obj o a b c d
 ·rw [k.fam g (by omega) (fun hg => by rcases hm.ownT g hg with h | h; exact b h; omega)]; exact hm.fam g a b
 ·have := hm.dl o ho; exact ⟨by omega, this.2⟩
 ·rcases k.ownT g hg with h | h
  ·exact hm.ownT g h
  ·right; omega
theorem XM.fams {ov : AV} (hm : XM fs mm mn σ0 xo mo D T x ov σ) {σ1 : AS} {av : AV} (haT : ∀ k ∈ famL av, k ∈ T ∨ σ0.nf ≤ k) (hao : ∀ k ∈ famL av, k ∉ famL ov) (q1 : σ1.objs = σ.objs) (q2 : σ1.no = σ.no) (q3 : σ.nf ≤ σ1.nf) (q4 : ∀ k, k < σ.nf → k ∉ famL av → σ1.F k = σ.F k) :
  XM fs mm mn σ0 xo mo D T x ov σ1 := by
 have h2 := hm.nf
 refine ⟨by rw [q2]; exact hm.no, by omega, fun o a b c d => by rw [q1]; exact hm.obj o a b c d, fun g a b => ?_, hm.xl, hm.ml, hm.xm, fun o ho => by rw [q2]; exact hm.dl o ho, by rw [q1]; exact hm.mach, hm.own.keep q3 fun g hg => q4 g (hm.own.lt g hg) fun h => hao g h hg, hm.ownT, by rw [q1]; exact hm.mem⟩
 rw [q4 g (by omega) (fun h => by rcases haT g h with h | h; exact b h; omega)]; exact hm.fam g a b
theorem flat_ints : ∀ (l : List Int), flat (l.map (AV.int .i64)) = l.map (AV.int .i64)
 | [] => rfl
 | a :: l => by have := flat_ints l; simp [flat, AV.cells] at this ⊢; exact this
theorem enter {ov cv pv lv tv : AV} {g : F} {locs : List Int} (hm : XM fs mm mn σ0 xo mo D T x ov σ) (hcv : ArgV σ cv locs) (hcT : ∀ k ∈ famL cv, k ∈ T ∨ σ0.nf ≤ k) (hco : ∀ k ∈ famL cv, k ∉ famL ov) (hp : IntsV pv g.params) (hl : IntsV lv g.locals) (ht : ListsV tv g.lists) :
  ∃ σc L', XF fs mm mn σc xo mo σ.no L' (famL ov) x ⟨g, locs, [], 0⟩ σc ∧ (∀ x' σ', XO fs mm mn σc xo mo (σ.no :: L') (famL ov) x' σ' → XO fs mm mn σ0 xo mo D T x' σ') ∧ (∀ o, o < σ.no → σc.objs o = σ.objs o ∧ o < σc.no ∧ o ≠ σ.no ∧ o ∉ L') ∧
   ∀ {us : List AV} {K : Out → AS → Prop}, ACalls Tryz.prog G 38 us σc K → ACalls Tryz.prog G 38 us (σ.newO [.str g.name, pv, lv, .int .i64 g.type, tv, cv, .nilsl, .int .i64 0]) K := by
 have hno := hm.no; have hxl := hm.xl; have hml := hm.ml
 have h2 : XM fs mm mn σ0 xo mo D T x ov (σ.newO [.str g.name, pv, lv, .int .i64 g.type, tv, cv, .nilsl, .int .i64 0]) := hm.adds (Adds.refl σ).newO
 have empty : locs = [] → (cv = .nilsl ∨ ∃ φ, cv = .sl φ 1 []) → ∃ σc L', XF fs mm mn σc xo mo σ.no L' (famL ov) x ⟨g, locs, [], 0⟩ σc ∧ (∀ x' σ', XO fs mm mn σc xo mo (σ.no :: L') (famL ov) x' σ' → XO fs mm mn σ0 xo mo D T x' σ') ∧ (∀ o, o < σ.no → σc.objs o = σ.objs o ∧ o < σc.no ∧ o ≠ σ.no ∧ o ∉ L') ∧
   ∀ {us : List AV} {K : Out → AS → Prop}, ACalls Tryz.prog G 38 us σc K → ACalls Tryz.prog G 38 us (σ.newO [.str g.name, pv, lv, .int .i64 g.type, tv, cv, .nilsl, .int .i64 0]) K := fun h0 hc => by
  refine ⟨_, [], ⟨ov, .nilsl, h2.reanchor (by simp; omega), ⟨⟨pv, lv, tv, cv, by simp, hp, hl, ht, .inl ⟨rfl, h0, hc⟩⟩, by simp, .inl ⟨rfl, rfl⟩, by simp [famL]⟩, by simp [famL]⟩, fun x' σ' h => h2.back (by simp; omega) h, fun o ho => ⟨by simp; intro h; omega, by simp; omega, by omega, by simp⟩, fun h => h⟩
 rcases hcv with ⟨h0, rfl⟩ | ⟨h0, rfl⟩ | ⟨f, rfl, hf1, hf2⟩
 ·exact empty h0 (.inr ⟨_, rfl⟩)
 ·exact empty h0 (.inl rfl)
 ·have hfo : f ∉ famL ov := hco f (by simp [famL])
  have h3 : XM fs mm mn σ0 xo mo D T x ov ((σ.newO [.str g.name, pv, lv, .int .i64 g.type, tv, .sl (.fam f false) 1 (locs.map (.int .i64)), .nilsl, .int .i64 0]).own f σ.no [.str g.name, pv, lv, .int .i64 g.type, tv, .slm (σ.no + 1) 0 1 locs.length, .nilsl, .int .i64 0] (locs.map (.int .i64))) := by
   have k1 := hm.fams (σ1 := { σ with F := upd σ.F f .dead }) hcT hco rfl rfl (Nat.le_refl _) (fun k _ hk => by simp [famL] at hk; simp [upd, hk])
   refine k1.adds ⟨by simp [AS.own]; omega, by simp [AS.own], fun o ho => ?_, fun k hk => by simp [AS.own]⟩
   have e1 : o ≠ σ.no := by simp at ho; omega
   have e2 : o ≠ σ.no + 1 := by simp at ho; omega
   simp [AS.own, upd, e1, e2]
  refine ⟨(σ.newO [.str g.name, pv, lv, .int .i64 g.type, tv, .sl (.fam f false) 1 (locs.map (.int .i64)), .nilsl, .int .i64 0]).own f σ.no [.str g.name, pv, lv, .int .i64 g.type, tv, .slm (σ.no + 1) 0 1 locs.length, .nilsl, .int .i64 0] (locs.map (.int .i64)), [σ.no + 1], ⟨ov, .nilsl, h3.reanchor (by simp [AS.own]; omega), ⟨⟨pv, lv, tv, _, by simp [AS.own, upd], hp, hl, ht, .inr ⟨σ.no + 1, rfl, rfl, by simp [AS.own, upd]⟩⟩, by simp, .inl ⟨rfl, rfl⟩, by simp [famL]⟩, by simp [famL]⟩, fun x' σ' h => h3.back (by simp; omega) h, fun o ho => ⟨?_, ?_, by omega, by simp; omega⟩, fun {us K} h => ?_⟩
  ·have e1 : o ≠ σ.no := by omega
   have e2 : o ≠ σ.no + 1 := by omega
   simp [AS.own, upd, e1, e2]
  ·simp [AS.own]; omega
  ·refine ACalls.own (f := f) (fo := σ.no) (j := 5) (sz := 1) (b := false) (xs := locs.map (.int .i64)) (cs := [.str g.name, pv, lv, .int .i64 g.type, tv, .sl (.fam f false) 1 (locs.map (.int .i64)), .nilsl, .int .i64 0]) (by simpa using hf2) (by simp) (by simp) ?_
   rw [flat_ints]
   simpa using h
theorem XF.xcells (h : XF fs mm mn σ0 xo mo fo L T x r σ) : ∃ fv iv ov, σ.objs xo = some [fv, .int .i64 mm, .int .i64 mn, iv, .int .i64 x.steps, .slm mo 0 1 x.memory.length, ov, .int .i64 x.calls] ∧ (fv.known = true ∧ fv.one = true ∧ fv.cells = [fv]) ∧ (iv.known = true ∧ iv.one = true ∧ iv.cells = [iv]) ∧ (ov.known = true ∧ ov.one = true ∧ ov.cells = [ov]) ∧
  FsV fv fs ∧ IntsV iv x.input ∧ OwnV σ ov x.out ∧ xo ≠ fo ∧ ∀ st c, XF fs mm mn σ0 xo mo fo L T { x with steps := st, calls := c } r (σ.setO xo [fv, .int .i64 mm, .int .i64 mn, iv, .int .i64 st, .slm mo 0 1 x.memory.length, ov, .int .i64 c]) := by
 have hx := h
 obtain ⟨ov, sv, hm, hr, hd⟩ := h
 obtain ⟨fv, iv, ho, hf, hi⟩ := hm.mach
 exact ⟨fv, iv, ov, ho, hf.one, hi.one, hm.own.one, hf, hi, hm.own, fun e => (hm.dl fo (by simp)).2.1 e.symm, fun st c => hx.setX (σ1 := σ) ho rfl rfl (Nat.le_refl _) (fun _ _ _ => rfl) hi hm.own fun k hk => .inl hk⟩
set_option maxHeartbeats 1000000 in
theorem call_calls {N : Nat} {Dp : Int} {rec : RunR} (hrec : ListOk G fs mm mn N Dp rec) (hbd : RBd N Dp rec) (hD0 : 0 ≤ Dp) {ov fv av : AV} {g : F} {args : List Int} {v0 : Fr} (hm : XM fs mm mn σ0 xo mo D T x ov σ) (hN : N ≤ 2 ^ 38) (hst : max x.steps 0 ≤ N) (hou : (x.out.length : Int) + max x.steps 0 ≤ N) (hcl : 0 ≤ x.calls)
  (hml : x.memory.length ≤ 2 ^ 38) (hil : x.input.length ≤ 2 ^ 38) (hg : OkF g) (hfv : FV fv g) (hav : ArgV σ av args) (hal : args.length ≤ 2 ^ 38) (haT : ∀ k ∈ famL av, k ∈ T ∨ σ0.nf ≤ k) (hao : ∀ k ∈ famL av, k ∉ famL ov)
  (hw : callW rec x g args v0 ≠ .bad)
  (hR : ∀ v x' r' σ', callW rec x g args v0 = .ok v x' r' → XO fs mm mn σ0 xo mo D T x' σ' → R (.ret (.int .i64 v)) σ')
  (hO : ∀ s c x' σ', callW rec x g args v0 = .over s c x' → XO fs mm mn σ0 xo mo D T x' σ' → R (.panic (overV s c)) σ') :
  ACalls Tryz.prog G 22 [.ptr xo 0, fv, av] σ R := by
 refine calls22 rfl ?_
 obtain ⟨pv, lv, tv, rfl, hp, hl, ht⟩ := hfv
 have p1 := hp.one
 have l1 := hl.one
 have t1 := ht.one
 have ll := hl.len
 have tl := ht.len
 obtain ⟨mfv, miv, mo1, mo2, mo3⟩ := hm.mach
 have m1 := mo2.one
 have m2 := mo3.one
 have m3 := hm.own.one
 have hxl := hm.xl
 have hno := hm.no
 have hxo : xo ≠ σ.no := by omega
 have hxo' : σ.no ≠ xo := by omega
 have hltn := hm.no
 by_cases hc : 32 ≤ x.calls
 ·simp [pc22, p1, l1, t1, splice, hxo, mo1, m1, m2, m3, hc]
  refine trap_calls (fun h => by omega) fun _ => ?_
  simp
  exact hO _ _ _ _ (by simp [callW, hc]) ⟨ov, hm.adds (Adds.refl σ).newO⟩
 ·have w1 : IntKind.wrap .i64 (x.calls + 1) = x.calls + 1 := by rw [wrap_i64] <;> omega
  have hgl := hg.locals
  have hgls := hg.lists
  simp [pc22, p1, l1, t1, splice, hxo, hxo', mo1, m1, m2, m3, hc, w1, ll]
  have S0 : XM fs mm mn σ0 xo mo D T { x with calls := x.calls + 1 } ov ((σ.newO [AV.str g.name, pv, lv, AV.int IntKind.i64 g.type, tv]).setO xo [mfv, AV.int IntKind.i64 mm, AV.int IntKind.i64 mn, miv, AV.int IntKind.i64 x.steps, AV.slm mo 0 1 x.memory.length, ov, AV.int IntKind.i64 (x.calls + 1)]) :=
   (hm.adds (Adds.refl σ).newO).calls (by simp [hxo, mo1]) mo2 mo3
  have S1 : ((σ.newO [AV.str g.name, pv, lv, AV.int IntKind.i64 g.type, tv]).setO xo [mfv, AV.int IntKind.i64 mm, AV.int IntKind.i64 mn, miv, AV.int IntKind.i64 x.steps, AV.slm mo 0 1 x.memory.length, ov, AV.int IntKind.i64 (x.calls + 1)]).objs σ.no = some [AV.str g.name, pv, lv, AV.int IntKind.i64 g.type, tv] := by simp [hxo']
  have S2 : ((σ.newO [AV.str g.name, pv, lv, AV.int IntKind.i64 g.type, tv]).setO xo [mfv, AV.int IntKind.i64 mm, AV.int IntKind.i64 mn, miv, AV.int IntKind.i64 x.steps, AV.slm mo 0 1 x.memory.length, ov, AV.int IntKind.i64 (x.calls + 1)]).no = σ.no + 1 := by simp
  have S3 : ArgV ((σ.newO [AV.str g.name, pv, lv, AV.int IntKind.i64 g.type, tv]).setO xo [mfv, AV.int IntKind.i64 mm, AV.int IntKind.i64 mn, miv, AV.int IntKind.i64 x.steps, AV.slm mo 0 1 x.memory.length, ov, AV.int IntKind.i64 (x.calls + 1)]) av args := hav
  generalize (σ.newO [AV.str g.name, pv, lv, AV.int IntKind.i64 g.type, tv]).setO xo [mfv, AV.int IntKind.i64 mm, AV.int IntKind.i64 mn, miv, AV.int IntKind.i64 x.steps, AV.slm mo 0 1 x.memory.length, ov, AV.int IntKind.i64 (x.calls + 1)] = S at *
  refine ⟨by omega, grown_args S3 (by omega) fun cv σ1 hcv q1 q2 q3 q4 q5 => ?_⟩
  have c1 := hcv.one
  have w2 : IntKind.wrap .i64 ((g.lists.length : Int) - 1) = (g.lists.length : Int) - 1 := by rw [wrap_i64] <;> omega
  have q6 : σ1.objs σ.no = some [AV.str g.name, pv, lv, AV.int IntKind.i64 g.type, tv] := by rw [q1]; exact S1
  have q7 : ¬ σ.no = σ1.no := by omega
  simp [q6, p1, l1, t1, c1, tl, w2, q7, splice]
  have hSl := S0.own.lt
  have hSn := S0.nf
  obtain ⟨σc, L', hX, hXO, hbo, hac⟩ := enter (S0.fams haT hao q1 q2 q3 q4) hcv (fun k hk => by rcases q5 k hk with h | h; exact haT k h; right; omega) (fun k hk h' => by rcases q5 k hk with h | h; exact hao k h h'; have := hSl k h'; omega) hp hl ht
  obtain ⟨b1, b2, b3, b4⟩ := hbo σ.no (by omega)
  have bdn : Bd N { x with calls := x.calls + 1 } ⟨g, args ++ List.replicate g.locals.length 0, [], 0⟩ := ⟨hN, by simpa using hst, hou, hg, by simp only; omega, hml, hil⟩
  simp only [callW, if_neg hc] at hw hR hO
  refine hac (hrec hX bdn (Int.le_refl _) hD0 (fun e => by rw [e] at hw; exact hw rfl) (fun o x' r' σ' e hx' => ?_) (fun s c x' σ' e ho => ?_))
  ·rw [e] at hw hR hO
   obtain ⟨hA, ho2⟩ := hbd _ _ _ _ _ _ _ bdn hD0 e
   have hcs := hA.calls
   simp only at hw hR hO hcs
   have hbo' : ∀ {x1 : Mach} {r1 : Fr} {σ2 : AS}, XF fs mm mn σc xo mo σ1.no L' (famL ov) x1 r1 σ2 → σ2.objs σ.no = some [AV.str g.name, pv, lv, AV.int IntKind.i64 g.type, tv] := fun hh => by
    rw [hh.other b2 (by omega) (by have := hm.ml; omega) b3 b4, b1]; exact q6
   have hb1 := hbo' hx'
   have w3 : IntKind.wrap .i64 (x'.calls - 1) = x'.calls - 1 := by rw [wrap_i64] <;> omega
   by_cases hh : o = -1 ∧ g.type ≠ 0
   ·rw [if_pos hh] at hw hR
    obtain ⟨h1, h2⟩ := hh
    have hne : r'.stack ≠ [] := by rintro e; simp [popK, e] at hw
    obtain ⟨v, hv⟩ := getLast_some hne
    have hsl : r'.stack.length ≤ 2 ^ 40 := by have := hA.bd.stack; omega
    simp [h1, h2, hb1, p1, l1, t1]
    refine pop_calls hx' hsl hv fun σ3 hx3 => ?_
    obtain ⟨fpv, flv, ftv, fcv, fsv, fo1, e1, e2, e3, e4, e5, _, _, _, hset⟩ := hx3.cells
    have hx4 := hset v
    obtain ⟨gfv, giv, gov, go1, g1, g2, g3, _, _, _, gne, hset2⟩ := hx4.xcells
    have go1' : σ3.objs xo = some [gfv, .int .i64 mm, .int .i64 mn, giv, .int .i64 x'.steps, .slm mo 0 1 x'.memory.length, gov, .int .i64 x'.calls] := by simpa [gne] using go1
    simp [fo1, e1, e2, e3, e4, e5, splice, go1', g1, g2, g3, gne, Ne.symm gne, w3]
    exact hR _ _ _ _ (by simp [popK, hv]; rfl) (hXO _ _ (hset2 x'.steps (x'.calls - 1)).stop)
   ·rw [if_neg hh] at hw hR
    obtain ⟨fpv, flv, ftv, fcv, fsv, fo1, e1, e2, e3, e4, e5, _, _, _, hset⟩ := hx'.cells
    obtain ⟨gfv, giv, gov, go1, g1, g2, g3, _, _, _, gne, hset2⟩ := hx'.xcells
    by_cases h1 : o = -1
    ·have h2 : g.type = 0 := by simpa [h1] using hh
     simp [h1, h2, hb1, p1, l1, t1, fo1, e1, e2, e3, e4, e5, splice, go1, g1, g2, g3, gne, Ne.symm gne, w3]
     exact hR _ _ _ _ rfl (hXO _ _ (hset2 x'.steps (x'.calls - 1)).stop)
    ·simp [h1, hb1, p1, l1, t1, fo1, e1, e2, e3, e4, e5, splice, go1, g1, g2, g3, gne, Ne.symm gne, w3]
     exact hR _ _ _ _ rfl (hXO _ _ (hset2 x'.steps (x'.calls - 1)).stop)
  ·rw [e] at hO
   simp
   exact hO _ _ _ _ rfl (hXO _ _ ho)
end
end Go.Proofs.YthifgodgfhbnfaaGreatDoor
set_option linter.unusedSimpArgs false
set_option linter.unusedVariables false
namespace Go.Proofs.YthifgodgfhbnfaaGreatDoor
open Go Go.Abs
section
variable {G : Env} {fs : List F} {mm mn : Int} {σ0 σ : AS} {xo mo fo : Nat} {L T D : List Nat} {x : Mach} {r : Fr} {R : Out → AS → Prop}
theorem XF.after (h : XF fs mm mn σ0 xo mo fo L T x r σ) {av : AV} (hav : ∃ σq : AS, σq.nf ≤ σ.nf ∧ (∀ g ∈ famL av, σq.nf ≤ g) ∧ σ0.nf ≤ σq.nf ∧ ∀ sv, (∃ cs, σ.objs fo = some cs ∧ cs[6]? = some sv) → ∀ g ∈ famL sv, g < σq.nf) (hax : ∀ ov, (∃ cs, σ.objs xo = some cs ∧ cs[6]? = some ov) → ∀ g ∈ famL av, g ∉ famL ov) :
  ∃ ov T2, XM fs mm mn σ xo mo [] T2 x ov σ ∧ (∀ k ∈ famL av, k ∈ T2 ∨ σ.nf ≤ k) ∧ (∀ k ∈ famL av, k ∉ famL ov) ∧ (∀ x' σ', XO fs mm mn σ xo mo [] T2 x' σ' → XF fs mm mn σ0 xo mo fo L T x' r σ') ∧ ∀ x' σ', XO fs mm mn σ xo mo [] T2 x' σ' → XO fs mm mn σ0 xo mo (fo :: L) T x' σ' := by
 have hx := h
 obtain ⟨ov, sv, hm, hr, hd⟩ := h
 obtain ⟨σq, v1, v2, v3, v4⟩ := hav
 obtain ⟨pv, lv, tv, cv, ho, hpv, hlv, htv, hcv⟩ := hr.fr
 have v5 := v4 sv ⟨_, ho, rfl⟩
 obtain ⟨fv, iv, hxo, hfv, hiv⟩ := hm.mach
 have v6 := hax ov ⟨_, hxo, rfl⟩
 have hno := hm.no; have hxl := hm.xl; have hml := hm.ml; have hnf := hm.nf
 have hT2 : ∀ g ∈ famL ov ++ famL av, g ∈ T ∨ σ0.nf ≤ g := fun g hg => by
  rcases List.mem_append.1 hg with h | h
  ·exact hm.ownT g h
  ·right; have := v2 g h; omega
 have back : ∀ x' ov' σ', XM fs mm mn σ xo mo [] (famL ov ++ famL av) x' ov' σ' → XM fs mm mn σ0 xo mo (fo :: L) T x' ov' σ' := fun x' ov' σ' k => by
  have h3 := k.no; have h4 := k.nf
  refine ⟨by omega, by omega, fun o a b c d => ?_, fun g a b => ?_, hxl, hml, hm.xm, fun o ho => ?_, k.mach, k.own, fun g hg => ?_, k.mem⟩
  ·rw [k.obj o (by omega) b c (by simp)]; exact hm.obj o a b c d
  ·rw [k.fam g (by omega) (fun hg => by rcases hT2 g hg with h | h; exact b h; omega)]; exact hm.fam g a b
  ·have := hm.dl o ho; exact ⟨by omega, this.2⟩
  ·rcases k.ownT g hg with h | h
   ·exact hT2 g h
   ·right; omega
 have rn := hm.reanchor (D' := []) (by simp)
 refine ⟨ov, famL ov ++ famL av, ⟨rn.no, rn.nf, rn.obj, fun g a b => rn.fam g a (fun h => b (by simp [h])), rn.xl, rn.ml, rn.xm, rn.dl, rn.mach, rn.own, fun g hg => .inl (by simp [hg]), rn.mem⟩, fun k hk => .inl (by simp [hk]), v6, ?_, fun x' σ' ⟨ov', k⟩ => ⟨ov', back _ _ _ k⟩⟩
 rintro x' σ' ⟨ov', k⟩
 have same : ∀ o ∈ fo :: L, σ'.objs o = σ.objs o := fun o ho => by have := hm.dl o ho; exact k.obj o this.1 this.2.1 this.2.2 (by simp)
 have hlt := hr.own.lt
 refine ⟨ov', sv, back _ _ _ k, ⟨⟨pv, lv, tv, cv, by rw [same fo (by simp)]; exact ho, hpv, hlv, htv, hcv.keep fun o ho => same o (by simp [ho])⟩, hr.fl, hr.own.keep k.nf fun g hg => k.fam g (hlt g hg) (fun h => ?_), hr.ownT⟩, fun g hg hs => ?_⟩
 ·rcases List.mem_append.1 h with h | h
  ·exact hd g h hg
  ·have := v2 g h; have := v5 g hg; omega
 ·rcases k.ownT g hg with h | h
  ·rcases List.mem_append.1 h with h | h
   ·exact hd g h hs
   ·have := v2 g h; have := v5 g hs; omega
  ·have := hlt g hs; omega
theorem calling_calls {N : Nat} {Dp : Int} {rec : RunR} (hrec : ListOk G fs mm mn N Dp rec) (hbd : RBd N Dp rec) (hD0 : 0 ≤ Dp) (hfs : OkFs fs) {n : Int} (hnn : n ≤ 2 ^ 63 - 1) (h : XF fs mm mn σ0 xo mo fo L T x r σ) (hb : B1 N x r) (hw : callingW fs rec x r n ≠ .bad)
  (hR : ∀ x' r' σ', callingW fs rec x r n = .ok () x' r' → XF fs mm mn σ0 xo mo fo L T x' r' σ' → R (.ret (.tuple [])) σ')
  (hO : ∀ s c x' σ', callingW fs rec x r n = .over s c x' → XO fs mm mn σ0 xo mo (fo :: L) T x' σ' → R (.panic (overV s c)) σ') :
  ACalls Tryz.prog G 85 [.ptr xo 0, .ptr fo 0, .int .i64 n] σ R := by
 refine calls85 rfl ?_
 have hN := hb.bd.n
 have hst : r.stack.length ≤ 2 ^ 40 := by have := hb.bd.stack; omega
 have hinl : x.input.length ≤ 2 ^ 40 := by have := hb.bd.inp; omega
 have hol : x.out.length ≤ 2 ^ 40 := by have := hb.ou; omega
 by_cases n0 : n = 0
 ·subst n0
  simp only [callingW, if_true] at hw hR
  simp [pc85, splice]
  refine next_calls h hinl fun σ' hx' => ?_
  simp
  cases hin : x.input with
  | nil =>
   rw [hin] at hx' hR
   refine push_calls hx' hst fun σ2 hx2 => ?_
   simp
   exact hR _ _ _ rfl hx2
  | cons v l =>
   rw [hin] at hx' hR
   refine push_calls hx' hst fun σ2 hx2 => ?_
   simp
   exact hR _ _ _ rfl hx2
 by_cases n1 : n = 1
 ·subst n1
  have hne : r.stack ≠ [] := by rintro e; simp [callingW, popK, e] at hw
  obtain ⟨v, hv⟩ := getLast_some hne
  obtain ⟨fv, iv, ov, xo1, f1, i1, o1, hfv, hiv, hov, xne, _⟩ := h.xcells
  simp [pc85, splice, xo1, f1, i1, o1]
  refine pop_calls' h hst hv fun σ' hx' hob => ?_
  have xo2 := (hob xo xne).trans xo1
  simp only [callingW, popK, hv] at hR
  simp at hR
  have fin : ∀ {σ3 : AS} {ov' : AV}, σ3.objs = σ'.objs → σ3.no = σ'.no → σ'.nf ≤ σ3.nf → (∀ g, g < σ'.nf → g ∉ famL ov → σ3.F g = σ'.F g) → OwnV σ3 ov' (x.out ++ [v]) → (∀ g ∈ famL ov', g ∈ famL ov ∨ σ'.nf ≤ g) →
    R (.ret (.tuple [])) (σ3.setO xo [fv, .int .i64 mm, .int .i64 mn, iv, .int .i64 x.steps, .slm mo 0 1 x.memory.length, ov', .int .i64 x.calls]) := fun a b c d e f => hR _ _ _ rfl rfl (hx'.setX xo2 a b c d hiv e f)
  obtain ⟨gfv, giv, gov, go1, _, _, _, _, _, gov1, _⟩ := hx'.xcells
  rw [xo2] at go1
  simp only [Option.some.injEq, List.cons.injEq] at go1
  obtain ⟨_, _, _, _, _, _, rfl, _, _⟩ := go1
  simp [xo2, f1, i1, o1]
  rcases gov1 with ⟨hs, rfl⟩ | ⟨g, rfl, hg1, hg2⟩
  ·simp [xo2, f1, i1, splice]
   exact fin (σ3 := σ'.newF) (by simp) (by simp) (by simp) (fun g h1 _ => by simp; intro h; omega) (.inr ⟨σ'.nf, by simp [hs], by simp, by simp⟩) (by simp [famL])
  ·simp [xo2, f1, i1, splice, hg2]
   exact ⟨by omega, fin (σ3 := (σ'.setF g .dead).newF) (by simp) (by simp) (by simp) (fun k h1 h2 => by simp [famL] at h2; simp [h2]; intro h; omega) (.inr ⟨σ'.nf, by simp, by simp, by simp⟩) (by simp [famL])⟩
 by_cases n2 : n = 2
 ·subst n2
  have hne : r.stack ≠ [] := by rintro e; simp [callingW, popK, e] at hw
  obtain ⟨v, hv⟩ := getLast_some hne
  simp only [callingW, popK, hv] at hO
  simp at hO
  simp [pc85, splice]
  refine pop_calls h hst hv fun σ' hx' => ?_
  simp [splice]
  exact hO _ _ _ _ rfl rfl rfl hx'.stop
 have n3 : ¬ n < 3 := by
  intro hh; simp [callingW, n0, n1, n2, hh] at hw
 simp only [callingW, n0, n1, n2, n3, if_false] at hw hR hO
 cases hgg : fs[(n - 3).toNat]? with
 | none => rw [hgg] at hw; exact absurd rfl hw
 | some g =>
 rw [hgg] at hw hR hO
 simp only at hw hR hO
 by_cases hps : r.stack.length < g.params.length
 ·rw [if_pos hps] at hw; exact absurd rfl hw
 rw [if_neg hps] at hw hR hO
 obtain ⟨hgi, hge⟩ := List.getElem?_eq_some_iff.1 hgg
 have hgm : g ∈ fs := List.mem_of_getElem? hgg
 have hgf := hfs g hgm
 have hgp := hgf.params
 obtain ⟨mfv, miv, mov, xo1, f1, i1, o1, hfv, hiv, hov, xne, _⟩ := h.xcells
 obtain ⟨bq, gv, hgv, hix⟩ := hfv.at hgi
 rw [hge] at hgv
 have e3 : (((n - 3).toNat : Nat) : Int) = n - 3 := by omega
 rw [e3] at hix
 have w1 : IntKind.wrap .i64 (n - 3) = n - 3 := by rw [wrap_i64] <;> omega
 have hgv0 := hgv
 obtain ⟨gp, gl, gt, rfl, hgp', hgl', hgt'⟩ := hgv0
 have p1 := hgp'.one
 have l1 := hgl'.one
 have t1 := hgt'.one
 have pl := hgp'.len
 have hlts := h.lts
 have A : Adds σ ((σ.newO [.str [], .nilsl, .nilsl, .int .i64 0, .nilsl]).setO σ.no [.str g.name, gp, gl, .int .i64 g.type, gt]) := (Adds.refl σ).newO.setO (Nat.le_refl _)
 have h1 := h.adds A
 have hS : ((σ.newO [.str [], .nilsl, .nilsl, .int .i64 0, .nilsl]).setO σ.no [.str g.name, gp, gl, .int .i64 g.type, gt]).objs σ.no = some [.str g.name, gp, gl, .int .i64 g.type, gt] := by simp
 have hSn : ((σ.newO [.str [], .nilsl, .nilsl, .int .i64 0, .nilsl]).setO σ.no [.str g.name, gp, gl, .int .i64 g.type, gt]).no = σ.no + 1 := by simp
 obtain ⟨pv, lv, tv, cv, sv, fo1, e1, e2, e3', e4, e5, hsv, htv, hcv, _⟩ := h.cells
 have sl := hsv.len
 have hfo : fo ≠ σ.no := by have := hlts.2.2.1; omega
 have hfo' : σ.no ≠ fo := by have := hlts.2.2.1; omega
 have hfl : fo < σ.no := hlts.2.2.1
 have w2 : IntKind.wrap .i64 ((r.stack.length : Int) - (g.params.length : Int)) = ((r.stack.length - g.params.length : Nat) : Int) := by rw [wrap_i64] <;> omega
 have hst' := hb.bd.stack
 have hmv := hov.lt
 -- from the clone on
 have tail : ∀ {sv' av : AV} {σ2 : AS} {K : Out → AS → Prop}, Adds ((σ.newO [.str [], .nilsl, .nilsl, .int .i64 0, .nilsl]).setO σ.no [.str g.name, gp, gl, .int .i64 g.type, gt]) σ2 → ArgV σ2 av (r.stack.drop (r.stack.length - g.params.length)) → (∀ k ∈ famL av, σ.nf ≤ k) → OwnV σ2 sv' (r.stack.take (r.stack.length - g.params.length)) →
   (∀ k ∈ famL sv', k < σ.nf ∧ k ∈ famL sv) →
   (∀ v x' σ', callW rec x g (r.stack.drop (r.stack.length - g.params.length)) { r with stack := r.stack.take (r.stack.length - g.params.length) } = .ok v x' { r with stack := r.stack.take (r.stack.length - g.params.length) } → XF fs mm mn σ0 xo mo fo L T x' { r with stack := r.stack.take (r.stack.length - g.params.length) } σ' → σ'.objs σ.no = some [.str g.name, gp, gl, .int .i64 g.type, gt] → x'.steps ≤ x.steps → K (.ret (.int .i64 v)) σ') →
   (∀ s c x' σ', callW rec x g (r.stack.drop (r.stack.length - g.params.length)) { r with stack := r.stack.take (r.stack.length - g.params.length) } = .over s c x' → XO fs mm mn σ0 xo mo (fo :: L) T x' σ' → K (.panic (overV s c)) σ') →
   ACalls Tryz.prog G 22 [.ptr xo 0, .agg [.str g.name, gp, gl, .int .i64 g.type, gt], av] (σ2.setO fo [.str r.fn.name, pv, lv, .int .i64 r.fn.type, tv, cv, sv', .int .i64 r.result]) K := by
  intro sv' av σ2 K A2 hav hfr hsv' hsf hK hKO
  have fo2 : σ2.objs fo = some [.str r.fn.name, pv, lv, .int .i64 r.fn.type, tv, cv, sv, .int .i64 r.result] := by
   rw [A2.obj fo (by simp; omega)]; simp [hfo]; exact fo1
  have hA2 := A2.nf
  have hA3 := A2.no
  simp at hA2 hA3
  have h3 : XF fs mm mn σ0 xo mo fo L T x { r with stack := r.stack.take (r.stack.length - g.params.length) } (σ2.setO fo [.str r.fn.name, pv, lv, .int .i64 r.fn.type, tv, cv, sv', .int .i64 r.result]) :=
   (h1.adds A2).setFr (σ1 := σ2) (res' := r.result) fo2 rfl rfl (Nat.le_refl _) (fun _ _ _ => rfl) hsv' fun k hk => .inl (hsf k hk).2
  have hxo3 : (σ2.setO fo [.str r.fn.name, pv, lv, .int .i64 r.fn.type, tv, cv, sv', .int .i64 r.result]).objs xo = some [mfv, .int .i64 mm, .int .i64 mn, miv, .int .i64 x.steps, .slm mo 0 1 x.memory.length, mov, .int .i64 x.calls] := by
   have e : xo ≠ σ.no := by omega
   simp [xne]; rw [A2.obj xo (by simp; omega)]; simp [e]; exact xo1
  obtain ⟨ov, T2, k1, k2, k3, k4, k5⟩ := h3.after (av := av) ⟨σ, by simpa using hA2, hfr, by obtain ⟨_, _, hm, _⟩ := h; exact hm.nf, fun sv1 ⟨cs, hc1, hc2⟩ => by
   simp at hc1; subst hc1; simp at hc2; subst hc2; exact fun k hk => (hsf k hk).1⟩ (fun ov ⟨cs, hc1, hc2⟩ k hk hk' => by
   rw [hxo3] at hc1; cases hc1; simp at hc2; subst hc2; have := hmv k hk'; have := hfr k hk; omega)
  refine call_calls hrec hbd hD0 (N := N) (v0 := { r with stack := r.stack.take (r.stack.length - g.params.length) }) k1 hN (by omega) hb.bd.out hb.bd.calls.1 hb.bd.mem hb.bd.inp hgf ⟨gp, gl, gt, rfl, hgp', hgl', hgt'⟩ ?_ (by simp; omega) k2 k3 (fun e => by rw [e] at hw; exact hw rfl) (fun v x' r' σ' e ho => ?_) fun s c x' σ' e ho => hKO s c x' σ' e (k5 _ _ ho)
  ·rcases hav with h | h
   ·exact .inl h
   ·exact .inr (h.keep (by simp) fun _ _ => rfl)
  ·have hb2 : B1 N x { r with stack := r.stack.take (r.stack.length - g.params.length) } := hb.stack (by simp)
   obtain ⟨rfl, ha⟩ := call_bd hbd hfs hD0 hb2.bd hgm e
   refine hK v x' σ' e (k4 _ _ ho) ?_ ha.steps
   obtain ⟨ov', k⟩ := ho
   have e1 : σ.no ≠ xo := by omega
   have e2 : σ.no ≠ mo := by omega
   rw [k.obj σ.no (by simp; omega) e1 e2 (by simp)]
   simp [hfo']
   rw [A2.obj σ.no (by simp)]; simp
 have hsv0 := hsv
 rcases hsv with ⟨hs, rfl⟩ | ⟨q, rfl, hq1, hq2⟩
 ·have hs0 : r.stack.length = 0 := by rw [hs]; rfl
  have hp0 : g.params.length = 0 := by omega
  have w0 : IntKind.wrap .i64 0 = 0 := by decide
  simp [pc85, splice, n0, n1, n2, xo1, f1, i1, o1, w1, hix, p1, l1, t1, hfo, hfo', fo1, e1, e2, e3', e4, pl, hs, hp0, w0]
  refine cloneOwn_calls (l := []) (.inl ⟨rfl, rfl⟩) (by simp) fun av σ2 hav A2 hfr => ?_
  have fo2 : σ2.objs fo = some [.str r.fn.name, pv, lv, .int .i64 r.fn.type, tv, cv, .nilsl, .int .i64 r.result] := by
   rw [A2.obj fo (by simp; omega)]; simp [hfo]; exact fo1
  have bo2 : σ2.objs σ.no = some [.str g.name, gp, gl, .int .i64 g.type, gt] := by rw [A2.obj σ.no (by simp)]; simp
  simp [fo2, e1, e2, e3', e4, splice, w0, bo2, p1, l1, t1, hfo']
  refine tail A2 (by simpa [hs] using hav) (by simpa using hfr) (.inl ⟨by simp [hs], rfl⟩) (by simp [famL]) (fun v x' σ' e hx' hbx hss => ?_) (fun s c x' σ' e ho => ?_)
  ·rw [e] at hR
   have hb2 : B1 N x { r with stack := r.stack.take (r.stack.length - g.params.length) } := hb.stack (by simp)
   by_cases ht : g.type = 0
   ·simp [ht] at hR
    simp [hbx, p1, l1, t1, ht]
    exact hR _ _ _ rfl rfl hx'
   ·simp [ht] at hR
    simp [hbx, p1, l1, t1, ht]
    refine push_calls hx' (by simp; omega) fun σ4 hx4 => ?_
    simp
    exact hR _ _ _ rfl rfl hx4
  ·rw [e] at hO
   simp
   exact hO _ _ _ _ rfl ho
 ·have el : List.drop (r.stack.length - g.params.length) (List.take r.stack.length (r.stack.map (AV.int .i64))) = (r.stack.drop (r.stack.length - g.params.length)).map (AV.int .i64) := by rw [List.take_of_length_le (by simp), List.map_drop]
  have el2 : List.take (r.stack.length - g.params.length) (r.stack.map (AV.int .i64)) = (r.stack.take (r.stack.length - g.params.length)).map (AV.int .i64) := by rw [List.map_take]
  simp [pc85, splice, n0, n1, n2, xo1, f1, i1, o1, w1, hix, p1, l1, t1, hfo, hfo', fo1, e1, e2, e3', e4, pl, w2, el]
  refine cloneOwn_calls (l := r.stack.drop (r.stack.length - g.params.length)) (.inr ⟨q, by simp, by simpa using hq1, by simpa using hq2⟩) (by simp; omega) fun av σ2 hav A2 hfr => ?_
  have fo2 : σ2.objs fo = some [.str r.fn.name, pv, lv, .int .i64 r.fn.type, tv, cv, .sl (.fam q false) 1 (r.stack.map (.int .i64)), .int .i64 r.result] := by
   rw [A2.obj fo (by simp; omega)]; simp [hfo]; exact fo1
  have bo2 : σ2.objs σ.no = some [.str g.name, gp, gl, .int .i64 g.type, gt] := by rw [A2.obj σ.no (by simp)]; simp
  simp [fo2, e1, e2, e3', e4, splice, bo2, p1, l1, t1, hfo']
  refine tail A2 hav (by simpa using hfr) (.inr ⟨q, by rw [← el2], by have := A2.nf; simp at this; omega, by rw [A2.fam q (by simpa using hq1)]; simpa using hq2⟩) (by simp [famL]; exact hq1) (fun v x' σ' e hx' hbx hss => ?_) (fun s c x' σ' e ho => ?_)
  ·rw [e] at hR
   have hb2 : B1 N x { r with stack := r.stack.take (r.stack.length - g.params.length) } := hb.stack (by simp)
   by_cases ht : g.type = 0
   ·simp [ht] at hR
    simp [hbx, p1, l1, t1, ht]
    exact hR _ _ _ rfl rfl hx'
   ·simp [ht] at hR
    simp [hbx, p1, l1, t1, ht]
    refine push_calls hx' (by simp; omega) fun σ4 hx4 => ?_
    simp
    exact hR _ _ _ rfl rfl hx4
  ·rw [e] at hO
   simp
   exact hO _ _ _ _ rfl ho
end
end Go.Proofs.YthifgodgfhbnfaaGreatDoor
set_option linter.unusedSimpArgs false
set_option linter.unusedVariables false
namespace Go.Proofs.YthifgodgfhbnfaaGreatDoor
open Go Go.Abs
section
variable {G : Env} {fs : List F} {mm mn : Int} {σ0 σ : AS} {xo mo fo : Nat} {L T D : List Nat} {x : Mach} {r : Fr} {R : Out → AS → Prop}
theorem splice_one {l : List AV} {n : Nat} {v : AV} (h : n < l.length) : splice l n [v] = l.set n v := by
 rw [List.set_eq_take_append_cons_drop, if_pos h]; simp [splice]
theorem XF.setLoc {lo n : Nat} {v : Int} (h : XF fs mm mn σ0 xo mo fo [lo] T x r σ) (hn : n < r.locals.length) : XF fs mm mn σ0 xo mo fo [lo] T x { r with locals := r.locals.set n v } (σ.setO lo (splice (r.locals.map (.int .i64)) n [.int .i64 v])) := by
 obtain ⟨ov, sv, hm, hr, hd⟩ := h
 obtain ⟨pv, lv, tv, cv, ho, hpv, hlv, htv, hcv⟩ := hr.fr
 have hfl : fo ≠ lo := by have := hr.fl; simpa using this
 have hll := hm.dl lo (by simp)
 have e : splice (r.locals.map (.int .i64)) n [.int .i64 v] = (r.locals.set n v).map (.int .i64) := by rw [splice_one (by simpa using hn), List.map_set]
 rw [e]
 rcases hcv with ⟨hL, _⟩ | ⟨lo', hL, rfl, hlo⟩
 ·cases hL
 cases hL
 obtain ⟨fv, iv, a, b, c⟩ := hm.mach
 refine ⟨ov, sv, ⟨by simpa using hm.no, hm.nf, fun o h1 h2 h3 h4 => ?_, hm.fam, hm.xl, hm.ml, hm.xm, fun o ho => by simpa using hm.dl o ho, ⟨fv, iv, by simp [Ne.symm hll.2.1]; exact a, b, c⟩, hm.own.keep (by simp) fun _ _ => rfl, hm.ownT, by simp [Ne.symm hll.2.2]; exact hm.mem⟩, ⟨⟨pv, lv, tv, .slm lo 0 1 (r.locals.set n v).length, by simp [hfl]; exact ho, hpv, hlv, htv, .inr ⟨lo, rfl, rfl, by simp⟩⟩, hr.fl, hr.own.keep (by simp) fun _ _ => rfl, hr.ownT⟩, hd⟩
 have : o ≠ lo := fun e => h4 (by simp [e])
 simp [this]; exact hm.obj o h1 h2 h3 h4
theorem XF.setMem {m' : List UInt8} (h : XF fs mm mn σ0 xo mo fo L T x r σ) (hl : m'.length = x.memory.length) : XF fs mm mn σ0 xo mo fo L T { x with memory := m' } r (σ.setO mo (m'.map fun b => .int .u8 b.toNat)) := by
 obtain ⟨ov, sv, hm, hr, hd⟩ := h
 obtain ⟨pv, lv, tv, cv, ho, hpv, hlv, htv, hcv⟩ := hr.fr
 have hf := hm.dl fo (by simp)
 obtain ⟨fv, iv, a, b, c⟩ := hm.mach
 refine ⟨ov, sv, ⟨by simpa using hm.no, hm.nf, fun o h1 h2 h3 h4 => by simp [h3]; exact hm.obj o h1 h2 h3 h4, hm.fam, hm.xl, hm.ml, hm.xm, fun o ho => by simpa using hm.dl o ho, ⟨fv, iv, by simp [hm.xm, hl]; exact a, b, c⟩, hm.own.keep (by simp) fun _ _ => rfl, hm.ownT, by simp⟩, ⟨⟨pv, lv, tv, cv, by simp [hf.2.2]; exact ho, hpv, hlv, htv, hcv.keep fun o ho => by simp [(hm.dl o (by simp [ho])).2.2]⟩, hr.fl, hr.own.keep (by simp) fun _ _ => rfl, hr.ownT⟩, hd⟩
theorem writeW_zero (mem : List UInt8) (at_ : Nat) (v : Int) : writeW mem at_ v 0 = mem := by simp [writeW]
theorem writeW_succ {mem : List UInt8} {at_ i : Nat} {v : Int} (h : at_ + i < mem.length) : writeW mem at_ v (i + 1) = (writeW mem at_ v i).set (at_ + i) (byteW v i) := by
 have hl : (mem.take at_ ++ (List.range i).map (byteW v)).length = at_ + i := by simp; omega
 unfold writeW
 rw [List.set_append_right _ _ (by rw [hl]; omega), hl, Nat.sub_self, List.range_succ, List.map_append, List.drop_eq_getElem_cons h]
 simp [Nat.add_assoc]
theorem byteW_toNat (v : Int) (i : Nat) : ((byteW v i).toNat : Int) = IntKind.u8.wrap (v.fdiv (2 ^ (8 * i))) := by
 unfold byteW
 simp only [IntKind.wrap, IntKind.bits, IntKind.signed]
 simp
 omega
def STI (fs : List F) (mm mn : Int) (S : AS) (xo mo fo : Nat) (L T : List Nat) (x : Mach) (r : Fr) (at_ n : Nat) (v : Int) (a : Nat → AV) (τ : AS) : Prop := ∃ i : Nat, i ≤ n ∧ a 0 = .ptr xo 0 ∧ a 11 = .int .i64 v ∧ a 12 = .int .i64 (at_ : Int) ∧ a 104 = .int .i64 (n : Int) ∧ a 105 = .int .i64 (i : Int) ∧ XF fs mm mn S xo mo fo L T { x with memory := writeW x.memory at_ v i } r τ
theorem XF.memo (h : XF fs mm mn σ0 xo mo fo L T x r σ) : σ.objs mo = some (x.memory.map fun b => .int .u8 b.toNat) := by obtain ⟨_, _, hm, _⟩ := h; exact hm.mem
set_option maxHeartbeats 2000000 in
theorem plainX_calls (V : Vars G) {N : Nat} {Dp : Int} {rec : RunR} (hrec : ListOk G fs mm mn N Dp rec) (hbd : RBd N Dp rec) (hD0 : 0 ≤ Dp) (hfs : OkFs fs) {w : W} (hnn : w.n ≤ 2 ^ 63 - 1) (h : XF fs mm mn σ0 xo mo fo L T x r σ) (hb : B1 N x r) (hw : plainW fs rec w x r ≠ .bad)
  (hR : ∀ x' r' σ', plainW fs rec w x r = .ok () x' r' → XF fs mm mn σ0 xo mo fo L T x' r' σ' → R (.ret (.tuple [])) σ')
  (hO : ∀ s c x' σ', plainW fs rec w x r = .over s c x' → XO fs mm mn σ0 xo mo (fo :: L) T x' σ' → R (.panic (overV s c)) σ') :
  ACalls Tryz.prog G 57 [.ptr xo 0, .ptr fo 0, w.av] σ R := by
 refine calls57 rfl ?_
 obtain ⟨wop, wty, wn, wbody, wother, wname⟩ := w
 simp only at hnn
 have hN := hb.bd.n
 have hst : r.stack.length ≤ 2 ^ 40 := by have := hb.bd.stack; omega
 have hlts := h.lts
 have h1 : XF fs mm mn σ0 xo mo fo L T x r (σ.newO [.int .i64 wop, .int .i64 wty, .int .i64 wn, .int .i64 wbody, .int .i64 wother, .str wname]) := h.adds (Adds.refl σ).newO
 obtain ⟨T', k1, k2, k3⟩ := h1.anchor
 have hfo : fo ≠ σ.no := by have := hlts.2.2.1; omega
 have hbo : ∀ {x1 : Mach} {r1 : Fr} {σ' : AS}, XF fs mm mn (σ.newO [.int .i64 wop, .int .i64 wty, .int .i64 wn, .int .i64 wbody, .int .i64 wother, .str wname]) xo mo fo L T' x1 r1 σ' → σ'.objs σ.no = some [.int .i64 wop, .int .i64 wty, .int .i64 wn, .int .i64 wbody, .int .i64 wother, .str wname] := fun {x1 r1 σ'} hx => by
  rw [hx.other (o := σ.no) (by simp) (by omega) (by omega) (by omega) (fun hh => by have := hlts.2.2.2 _ hh; omega)]; simp
 -- what is popped
 have popped : ∀ {r1 : Fr} {f : Int → Fr → Ev Unit}, popK r1 f ≠ .bad → ∃ v, r1.stack.getLast? = some v ∧ popK r1 f = f v { r1 with stack := r1.stack.dropLast } := fun {r1 f} hh => by
  have hne : r1.stack ≠ [] := by rintro e; simp [popK, e] at hh
  obtain ⟨v, hv⟩ := getLast_some hne
  exact ⟨v, hv, by simp [popK, hv]⟩
 by_cases o1 : wop = 1
 ·subst o1
  simp [plainW] at hR
  simp [pc57, W.av, W.cs, splice]
  refine push_calls k1 hst fun σ' hx' => ?_
  simp
  exact hR _ _ _ rfl rfl (k2 _ _ _ hx')
 by_cases o2 : wop = 2
 ·subst o2
  simp only [plainW] at hR hw
  by_cases hn0 : wn < 0
  ·simp [hn0] at hw
  cases hloc : r.locals[wn.toNat]? with
  | none => simp [hn0, hloc] at hw
  | some v =>
  simp [hn0, hloc] at hR
  obtain ⟨hli, hle⟩ := List.getElem?_eq_some_iff.1 hloc
  obtain ⟨pv, lv, tv, cv, sv, fo1, e1, e2, e3, e4, e5, _, _, hcv, _⟩ := k1.cells
  rcases hcv with ⟨_, hl, _⟩ | ⟨lo, rfl, rfl, hlo⟩
  ·rw [hl] at hli; simp at hli
  ·have fo2 : σ.objs fo = some [.str r.fn.name, pv, lv, .int .i64 r.fn.type, tv, .slm lo 0 1 r.locals.length, sv, .int .i64 r.result] := by simpa [hfo] using fo1
   have hlo0 : lo < σ.no := hlts.2.2.2 lo (by simp)
   have hlo1 : lo ≠ σ.no := by omega
   have lo2 : σ.objs lo = some (r.locals.map (.int .i64)) := by simpa [hlo1] using hlo
   simp [pc57, W.av, W.cs, splice, hfo, fo2, e1, e2, e3, e4, e5, hlo1, lo2, hloc]
   refine ⟨by omega, by omega, push_calls k1 hst fun σ' hx' => ?_⟩
   simp
   exact hR _ _ _ rfl rfl (k2 _ _ _ hx')
 by_cases o3 : wop = 3
 ·subst o3
  simp only [plainW] at hR hw
  by_cases hn0 : wn < 0 ∨ (r.locals.length : Int) ≤ wn
  ·simp [hn0] at hw
  simp [hn0] at hR hw
  obtain ⟨v, hv1, e1⟩ := popped hw
  rw [e1] at hR
  obtain ⟨pv, lv, tv, cv, sv, fo1, e1, e2, e3, e4, e5, _, _, hcv, _⟩ := k1.cells
  rcases hcv with ⟨_, hl, _⟩ | ⟨lo, rfl, rfl, hlo⟩
  ·rw [hl] at hn0; simp at hn0; omega
  ·have fo2 : σ.objs fo = some [.str r.fn.name, pv, lv, .int .i64 r.fn.type, tv, .slm lo 0 1 r.locals.length, sv, .int .i64 r.result] := by simpa [hfo] using fo1
   simp [pc57, W.av, W.cs, splice, hfo, fo2, e1, e2, e3, e4, e5]
   refine pop_calls k1 hst hv1 fun σ1 hx1 => ?_
   have hb2 := hbo hx1
   obtain ⟨pv', lv', tv', cv', sv', fo1', e1', e2', e3', e4', e5', _, _, hcv', _⟩ := hx1.cells
   rcases hcv' with ⟨hL, _⟩ | ⟨lo', hL, rfl, hlo'⟩
   ·cases hL
   ·cases hL
    have hni : wn.toNat < r.locals.length := by omega
    simp [hb2, fo1', e1', e2', e3', e4', e5', hlo']
    refine ⟨by omega, by omega, by omega, hR _ _ _ rfl (k2 _ _ _ (hx1.setLoc hni))⟩
 by_cases o4 : wop = 4
 ·subst o4
  simp only [plainW] at hR hw hO
  simp at hR hw hO
  obtain ⟨b, hv1, e1⟩ := popped hw
  rw [e1] at hR hw hO
  obtain ⟨a, hv2, e2⟩ := popped hw
  rw [e2] at hR hw hO
  have d1 := drop_len hv1
  have d2 := drop_len hv2
  simp only at hR hw hO d2
  cases hi1 : inT wty a with
  | false => simp [hi1] at hw
  | true =>
  cases hi2 : inT wty b with
  | false => simp [hi1, hi2] at hw
  | true =>
  simp only [hi1, hi2] at hR hw hO
  simp at hR hw hO
  simp [pc57, W.av, W.cs, splice]
  refine pop_calls k1 hst hv1 fun σ1 hx1 => ?_
  simp
  refine pop_calls hx1 (by simp; omega) hv2 fun σ2 hx2 => ?_
  have hb2 := hbo hx2
  simp [hb2]
  refine sign_calls V fun σ3 A3 => ?_
  have hx3 := hx2.adds A3
  have hb3 := hbo hx3
  simp [hb3]
  refine bin_calls ?_
  simp
  refine trap_calls (fun h0 => ?_) (fun h0 => ?_)
  ·rw [if_pos h0] at hR
   simp
   refine push_calls hx3 (by simp; omega) fun σ4 hx4 => ?_
   simp
   exact hR _ _ _ rfl (k2 _ _ _ hx4)
  ·rw [if_neg h0] at hO
   simp
   exact hO _ _ _ _ rfl (k3 _ _ hx3.stop)
 by_cases o5 : wop = 5
 ·subst o5
  simp only [plainW] at hR hw
  simp at hR hw
  obtain ⟨b, hv1, e1⟩ := popped hw
  rw [e1] at hR hw
  have d1 := drop_len hv1
  simp [pc57, W.av, W.cs, splice]
  refine pop_calls k1 hst hv1 fun σ1 hx1 => ?_
  by_cases hb0 : b = 0
  ·simp [hb0] at hR
   simp [hb0, splice]
   refine push_calls hx1 (by simp; omega) fun σ2 hx2 => ?_
   simp
   exact hR _ _ _ rfl rfl (k2 _ _ _ hx2)
  ·simp [hb0] at hR
   simp [hb0, splice]
   refine push_calls hx1 (by simp; omega) fun σ2 hx2 => ?_
   simp
   exact hR _ _ _ rfl rfl (k2 _ _ _ hx2)
 by_cases o6 : wop = 6
 ·subst o6
  simp only [plainW] at hR hw
  simp at hR hw
  obtain ⟨b, hv1, e1⟩ := popped hw
  rw [e1] at hR hw
  have d1 := drop_len hv1
  simp [pc57, W.av, W.cs, splice]
  refine pop_calls k1 hst hv1 fun σ1 hx1 => ?_
  simp
  refine wrap_calls ?_
  simp
  refine push_calls hx1 (by simp; omega) fun σ2 hx2 => ?_
  simp
  refine hR _ _ _ rfl (k2 _ _ _ ?_)
  simpa [Fr.push, wrapT] using hx2
 by_cases o8 : wop = 8
 ·subst o8
  simp only [plainW] at hR hw hO
  simp at hR hw hO
  obtain ⟨a, hv1, e1⟩ := popped hw
  rw [e1] at hR hw hO
  have d1 := drop_len hv1
  by_cases hin : inT 1 a = false
  ·rw [if_pos hin] at hw; exact absurd rfl hw
  rw [if_neg hin] at hR hw hO
  unfold cellK at hR hw hO
  by_cases hn8 : wn < 1 ∨ 8 < wn
  ·rw [if_pos hn8] at hw; exact absurd rfl hw
  rw [if_neg hn8] at hR hw hO
  simp [pc57, W.av, W.cs, splice]
  refine pop_calls k1 hst hv1 fun σ1 hx1 => ?_
  have hb2 := hbo hx1
  simp [hb2]
  have hml := hb.bd.mem
  refine cell_calls hx1 (by omega) (by omega) (fun hh => ?_) (fun hh => ?_)
  ·rw [if_pos hh] at hO
   simp
   exact hO _ _ _ _ rfl (k3 _ _ hx1.stop)
  ·rw [if_neg hh] at hR
   simp
   refine load_calls hx1.memo (by omega) (by omega) (by omega) ?_
   simp
   refine push_calls hx1 (by simp; omega) fun σ2 hx2 => ?_
   simp
   exact hR _ _ _ rfl (k2 _ _ _ hx2)
 by_cases o9 : wop = 9
 ·subst o9
  simp only [plainW] at hR hw hO
  simp at hR hw hO
  obtain ⟨v, hv1, e1⟩ := popped hw
  rw [e1] at hR hw hO
  obtain ⟨a, hv2, e2⟩ := popped hw
  rw [e2] at hR hw hO
  have d1 := drop_len hv1
  have d2 := drop_len hv2
  simp only at d2
  by_cases hin : inT 1 a = false
  ·rw [if_pos hin] at hw; exact absurd rfl hw
  rw [if_neg hin] at hR hw hO
  unfold cellK at hR hw hO
  by_cases hn8 : wn < 1 ∨ 8 < wn
  ·rw [if_pos hn8] at hw; exact absurd rfl hw
  rw [if_neg hn8] at hR hw hO
  simp [pc57, W.av, W.cs, splice]
  refine pop_calls k1 hst hv1 fun σ1 hx1 => ?_
  simp
  refine pop_calls hx1 (by simp; omega) hv2 fun σ2 hx2 => ?_
  have hb2 := hbo hx2
  simp [hb2]
  have hml := hb.bd.mem
  refine cell_calls hx2 (by omega) (by omega) (fun hh => ?_) (fun hh => ?_)
  ·rw [if_pos hh] at hO
   simp
   exact hO _ _ _ _ rfl (k3 _ _ hx2.stop)
  ·rw [if_neg hh] at hR
   obtain ⟨n, hn⟩ := Int.eq_ofNat_of_zero_le (show 0 ≤ wn by omega)
   obtain ⟨p, hp⟩ := Int.eq_ofNat_of_zero_le (show 0 ≤ a by omega)
   subst hn hp
   have hll : ((x.memory.drop p).take n).length = n := by simp; omega
   simp only [Int.toNat_natCast] at hR
   rw [hll] at hR
   simp
   refine aloop (STI fs mm mn (σ.newO [.int .i64 9, .int .i64 wty, .int .i64 (n : Int), .int .i64 wbody, .int .i64 wother, .str wname]) xo mo fo L T' x { r with stack := r.stack.dropLast.dropLast } p n v) (MU 105 (n + 1)) ⟨0, by omega, by simp, by simp, by simp, by simp, by simp, by rw [writeW_zero]; exact hx2⟩ fun b τ hI => ?_
   obtain ⟨i, hi, b0, b11, b12, b104, b105, hx⟩ := hI
   by_cases hlt : i < n
   ·have hwl : (writeW x.memory p v i).length = x.memory.length := writeW_length (by omega)
    obtain ⟨gfv, giv, gov, go1, g1, g2, g3, _, _, _, gne, _⟩ := hx.xcells
    have hmm := hx.memo
    simp only at go1 hmm
    have u1 : IntKind.wrap .i64 ((p : Int) + (i : Int)) = ((p + i : Nat) : Int) := by rw [wrap_i64] <;> omega
    have u2 : IntKind.wrap .i64 (8 * (i : Int)) = 8 * (i : Int) := by rw [wrap_i64] <;> omega
    have u3 : IntKind.wrap .i64 ((i : Int) + 1) = ((i + 1 : Nat) : Int) := by rw [wrap_i64] <;> omega
    have u4 : min (8 * (i : Int)).toNat IntKind.i64.bits = 8 * i := by simp [IntKind.bits]; omega
    simp [pc57_l1, b0, b11, b12, b104, b105, hlt, go1, g1, g2, g3, u1, u2, u3, u4, hmm, hwl]
    have hpi : ((p : Int) + (i : Int)).toNat = p + i := by omega
    have hm2 := hx.setMem (m' := writeW x.memory p v (i + 1)) (by rw [writeW_length (by omega)]; exact hwl.symm)
    have es : splice ((writeW x.memory p v i).map fun b => AV.int .u8 b.toNat) (p + i) [.int .u8 (IntKind.u8.wrap (v.fdiv (2 ^ (8 * i))))] = (writeW x.memory p v (i + 1)).map fun b => .int .u8 b.toNat := by
     rw [splice_one (by simp [hwl]; omega), writeW_succ (by omega), List.map_set, byteW_toNat]
    refine ⟨by omega, by omega, by omega, by omega, ⟨i + 1, by omega, by simp [b0], by simp [b11], by simp [b12], by simp [b104], by simp, ?_⟩, ?_⟩
    ·rw [hpi, es]; exact hm2
    ·simp only [MU, b105]; simp; omega
   ·have e : i = n := by omega
    subst e
    simp [pc57_l1, b0, b11, b12, b104, b105]
    exact hR _ _ _ rfl (k2 _ _ _ hx)
 by_cases o10 : wop = 10
 ·subst o10
  simp only [plainW] at hR hw hO
  simp at hR hw hO
  simp [pc57, W.av, W.cs, splice]
  refine calling_calls hrec hbd hD0 hfs hnn k1 hb hw (fun x' r' σ' e hx' => ?_) (fun s c x' σ' e ho => ?_)
  ·simp
   exact hR _ _ _ e (k2 _ _ _ hx')
  ·simp
   exact hO _ _ _ _ e (k3 _ _ ho)
 by_cases o17 : wop = 17
 ·subst o17
  simp only [plainW] at hO
  simp at hO
  simp [pc57, W.av, W.cs, splice]
  refine trap_calls (fun h0 => by omega) (fun h0 => ?_)
  simp
  exact hO _ _ _ _ rfl rfl rfl h1.stop
 by_cases o18 : wop = 18
 ·subst o18
  simp only [plainW] at hR hw
  simp at hR hw
  obtain ⟨b, hv1, e1⟩ := popped hw
  rw [e1] at hR hw
  simp [pc57, W.av, W.cs, splice]
  refine pop_calls k1 hst hv1 fun σ1 hx1 => ?_
  simp
  exact hR _ _ _ rfl (k2 _ _ _ hx1)
 simp [plainW, o1, o2, o3, o4, o5, o6, o8, o9, o10, o17, o18] at hR
 simp [pc57, W.av, W.cs, splice, o1, o2, o3, o4, o5, o6, o8, o9, o10, o17, o18]
 exact hR _ _ _ rfl rfl h1
end
end Go.Proofs.YthifgodgfhbnfaaGreatDoor
