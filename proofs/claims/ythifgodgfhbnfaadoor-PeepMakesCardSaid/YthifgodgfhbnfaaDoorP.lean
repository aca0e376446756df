/- What copies of modules come to, under the conditions that each theorem names. -/
import Derived.Test.YthifgodgfhbnfaaDoorN
import Derived.Test.YthifgodgfhbnfaaDoorAbs31
set_option linter.unusedSimpArgs false
set_option linter.unusedVariables false
namespace Go.Proofs.YthifgodgfhbnfaaDoor
open Go Go.Abs
/-- a list that is made -/
def OutG (τ : AS) (base sz : Nat) (v : AV) (ys : List AV) : Prop := (ys = [] ∧ v = .nilsl) ∨ ∃ g, v = .sl (.fam g false) sz ys ∧ base ≤ g ∧ g < τ.nf ∧ τ.F g = .alive
theorem OutG.keep {τ τ' : AS} {base sz : Nat} {v : AV} {ys : List AV} (h : OutG τ base sz v ys) (A : Adds τ τ') : OutG τ' base sz v ys := by
  rcases h with h | ⟨g, rfl, h1, h2, h3⟩
  · exact .inl h
  · have := A.nf
    exact .inr ⟨g, rfl, h1, by omega, (A.fam g h2).trans h3⟩
def CpI (sz : Nat) (v : AV) (xs : List AV) (σ : AS) (a : Nat → AV) (τ : AS) : Prop := ∃ i : Nat, i ≤ xs.length ∧ a 0 = v ∧ a 4 = .int .i64 (i : Int) ∧ OutG τ σ.nf sz (a 3) (xs.take i) ∧ Adds σ τ
theorem take_snoc {α : Type} {l : List α} {i : Nat} {x : α} (h : l[i]? = some x) : l.take (i + 1) = l.take i ++ [x] := by
  obtain ⟨hi, rfl⟩ := List.getElem?_eq_some_iff.1 h
  exact List.take_succ_eq_append_getElem hi
theorem copyInts_calls {G : Env} {v : AV} {l : List Int} {σ : AS} {R : Out → AS → Prop} (hv : IntsV v l) (hl : l.length ≤ 2 ^ 40) (h : ∀ v' σ', IntsV v' l → Adds σ σ' → R (.ret v') σ') : ACalls Tryd.prog G 75 [v] σ R := by
  refine freezing (calls75 rfl ?_)
  have v1 := hv.one
  have v2 := hv.len
  simp [pc75]
  refine aloop (CpI 1 v (l.map (.int .i64)) σ) (MU 4 (l.length + 1)) ⟨0, by omega, by simp, by simp, .inl ⟨by simp, by simp⟩, .refl _⟩ fun a τ hI => ?_
  obtain ⟨i, hi, a0, a4, hO, hA⟩ := hI
  have hi : i ≤ l.length := by simpa using hi
  by_cases hlt : i < l.length
  · obtain ⟨b, hix⟩ := hv.at hlt
    have hget : (l.map (AV.int .i64))[i]? = some (.int .i64 l[i]) := by simp [hlt]
    have w1 : IntKind.wrap .i64 ((i : Int) + 1) = ((i + 1 : Nat) : Int) := by rw [wrap_i64] <;> omega
    have htl : (l.take i).length = i := by simp; omega
    have ts := take_snoc hget
    generalize l[i] = x at *
    rcases hO with ⟨he, h3⟩ | ⟨g, h3, h4, h5, h6⟩
    · simp [pc75_l1, a0, a4, v1, v2, hlt, hix, h3, w1]
      refine ⟨⟨i + 1, by simp; omega, by simp [a0], by simp, .inr ⟨τ.nf, ?_, hA.nf, by simp, by simp⟩, hA.newF⟩, ?_⟩
      · rw [ts, he]; simp
      · simp only [MU, a4]; simp; omega
    · simp [pc75_l1, a0, a4, v1, v2, hlt, hix, h3, w1, h6]
      have hgn := hA.nf
      refine ⟨by omega, ⟨i + 1, by simp; omega, by simp [a0], by simp, .inr ⟨τ.nf, ?_, hgn, by simp, by simp⟩, ?_⟩, ?_⟩
      · rw [ts]; simp
      · exact ⟨by simpa using hA.no, by simp; omega, fun o ho => by simpa using hA.obj o ho, fun f hf => by
          have : f ≠ g := by omega
          simp [this]
          rw [if_neg (by omega)]
          exact hA.fam f hf⟩
      · simp only [MU, a4]; simp; omega
  · have he : i = l.length := by omega
    have hlt' : ¬ (i : Int) < (l.length : Int) := by omega
    have htk : (l.map (AV.int .i64)).take i = l.map (AV.int .i64) := List.take_of_length_le (by simp; omega)
    rw [htk] at hO
    rcases hO with ⟨hn, h3⟩ | ⟨g, h3, h4, h5, h6⟩
    · simp [pc75_l1, pc75_r1, a0, a4, v1, v2, hlt, h3]
      exact .inl (h _ _ (.inl ⟨by simpa using hn, rfl⟩) hA)
    · simp [pc75_l1, pc75_r1, a0, a4, v1, v2, hlt, h3]
      refine .froze g (fun _ => false) h6 ?_
      have := h (.sl (.stat false) 1 (l.map (.int .i64))) (τ.frz g fun _ => false) (.inr ⟨_, rfl⟩) (hA.frz h4 fun _ _ => rfl)
      simpa [Function.comp_def] using this
theorem copyWs_calls {G : Env} {v : AV} {l : List W} {σ : AS} {R : Out → AS → Prop} (hv : RepL v l) (hl : l.length ≤ 2 ^ 40) (h : ∀ v' σ', RepL v' l → Adds σ σ' → R (.ret v') σ') : ACalls Tryd.prog G 80 [v] σ R := by
  refine freezing (calls80 rfl ?_)
  have v1 := hv.one
  have v2 := hv.len
  simp [pc80]
  refine aloop (CpI 6 v (l.map W.av) σ) (MU 4 (l.length + 1)) ⟨0, by omega, by simp, by simp, .inl ⟨by simp, by simp⟩, .refl _⟩ fun a τ hI => ?_
  obtain ⟨i, hi, a0, a4, hO, hA⟩ := hI
  have hi : i ≤ l.length := by simpa using hi
  by_cases hlt : i < l.length
  · obtain ⟨b, hix⟩ := hv.at hlt
    have hget : (l.map W.av)[i]? = some l[i].av := by simp [hlt]
    have w1 : IntKind.wrap .i64 ((i : Int) + 1) = ((i + 1 : Nat) : Int) := by rw [wrap_i64] <;> omega
    have ts := take_snoc hget
    generalize l[i] = x at *
    rcases hO with ⟨he, h3⟩ | ⟨g, h3, h4, h5, h6⟩
    · simp [pc80_l1, a0, a4, v1, v2, hlt, hix, h3, w1, W.av, W.cs]
      refine ⟨⟨i + 1, by simp; omega, by simp [a0], by simp, .inr ⟨τ.nf, ?_, hA.nf, by simp, by simp⟩, hA.newF⟩, ?_⟩
      · rw [ts, he]; simp [W.av, W.cs]
      · simp only [MU, a4]; simp; omega
    · have htl : ((l.map W.av).take i).length = i := by simp; omega
      generalize (l.map W.av).take i = done at *
      simp [pc80_l1, a0, a4, v1, v2, hlt, hix, h3, w1, h6, W.av, W.cs]
      have hgn := hA.nf
      refine ⟨by omega, ⟨i + 1, by simp; omega, by simp [a0], by simp, .inr ⟨τ.nf, ?_, hgn, by simp, by simp⟩, ?_⟩, ?_⟩
      · rw [ts]; simp [W.av, W.cs]
      · exact ⟨by simpa using hA.no, by simp; omega, fun o ho => by simpa using hA.obj o ho, fun f hf => by
          have : f ≠ g := by omega
          simp [this]
          rw [if_neg (by omega)]
          exact hA.fam f hf⟩
      · simp only [MU, a4]; simp; omega
  · have he : i = l.length := by omega
    have hlt' : ¬ (i : Int) < (l.length : Int) := by omega
    have htk : (l.map W.av).take i = l.map W.av := List.take_of_length_le (by simp; omega)
    rw [htk] at hO
    rcases hO with ⟨hn, h3⟩ | ⟨g, h3, h4, h5, h6⟩
    · simp [pc80_l1, pc80_r1, a0, a4, v1, v2, hlt, h3]
      exact .inl (h _ _ (.inl ⟨by simpa using hn, rfl⟩) hA)
    · simp [pc80_l1, pc80_r1, a0, a4, v1, v2, hlt, h3]
      refine .froze g (fun _ => false) h6 ?_
      have := h (.sl (.stat false) 6 (l.map W.av)) (τ.frz g fun _ => false) (.inr ⟨_, rfl⟩) (hA.frz h4 fun _ _ => rfl)
      rw [frz_sl_fam, if_pos rfl, frz_Ws]
      exact this
def CpL (v : AV) (l : To) (σ : AS) (a : Nat → AV) (τ : AS) : Prop := ∃ (i : Nat) (rows : List AV), i ≤ l.length ∧ a 0 = v ∧ a 4 = .int .i64 (i : Int) ∧ All2 RepL rows (l.take i) ∧ OutG τ σ.nf 1 (a 3) rows ∧ Adds σ τ
theorem copyLists_calls {G : Env} {v : AV} {l : To} {σ : AS} {R : Out → AS → Prop} (hv : ListsV v l) (hl : l.length ≤ 2 ^ 40) (hr : ∀ r ∈ l, r.length ≤ 2 ^ 40) (h : ∀ v' σ', ListsV v' l → Adds σ σ' → R (.ret v') σ') : ACalls Tryd.prog G 76 [v] σ R := by
  refine freezing (calls76 rfl ?_)
  have v1 := hv.one
  have v2 := hv.len
  simp [pc76]
  refine aloop (CpL v l σ) (MU 4 (l.length + 1)) ⟨0, [], by omega, by simp, by simp, by simpa using All2.nil, .inl ⟨rfl, by simp⟩, .refl _⟩ fun a τ hI => ?_
  obtain ⟨i, rows, hi, a0, a4, hR, hO, hA⟩ := hI
  by_cases hlt : i < l.length
  · obtain ⟨b, rv, hrv, hix⟩ := hv.at hlt
    have hget : l[i]? = some l[i] := List.getElem?_eq_getElem hlt
    have w1 : IntKind.wrap .i64 ((i : Int) + 1) = ((i + 1 : Nat) : Int) := by rw [wrap_i64] <;> omega
    have ts := take_snoc hget
    have hrl := hr _ (List.getElem_mem hlt)
    generalize l[i] = row at *
    have r1 := hrv.one
    have hlen : rows.length = i := by rw [hR.length]; simp; omega
    simp [pc76_l1, a0, a4, v1, v2, hlt, hix, r1]
    refine copyWs_calls hrv hrl fun rv' σ1 hrv' A1 => ?_
    have q1 := hrv'.one
    have hO1 := hO.keep A1
    have hA1 := hA.trans A1
    have hR1 : All2 RepL (rows ++ [rv']) (l.take (i + 1)) := by rw [ts]; exact hR.append (.cons hrv' .nil)
    have hgn := hA1.nf
    rcases hO1 with ⟨rfl, h3⟩ | ⟨g, h3, h4, h5, h6⟩
    · simp [q1, h3, w1, a4]
      refine ⟨⟨i + 1, [rv'], by omega, by simp [a0], by simp, by simpa using hR1, .inr ⟨σ1.nf, by simp, hgn, by simp, by simp⟩, hA1.newF⟩, ?_⟩
      simp only [MU, a4]; simp; omega
    · simp [q1, h3, w1, h6, a4]
      refine ⟨by omega, ⟨i + 1, rows ++ [rv'], by omega, by simp [a0], by simp, hR1, .inr ⟨σ1.nf, by simp, hgn, by simp, by simp⟩, ?_⟩, ?_⟩
      · exact ⟨by simpa using hA1.no, by simp; omega, fun o ho => by simpa using hA1.obj o ho, fun f hf => by
          have : f ≠ g := by omega
          simp [this]
          rw [if_neg (by omega)]
          exact hA1.fam f hf⟩
      · simp only [MU, a4]; simp; omega
  · have hlt' : ¬ (i : Int) < (l.length : Int) := by omega
    have htk : l.take i = l := List.take_of_length_le (by omega)
    rw [htk] at hR
    rcases hO with ⟨rfl, h3⟩ | ⟨g, h3, h4, h5, h6⟩
    · simp [pc76_l1, pc76_r1, a0, a4, v1, v2, hlt, h3]
      have hn : l = [] := by have := hR.length; exact List.length_eq_zero_iff.1 (by simpa using this.symm)
      exact .inl (h _ _ (.inl ⟨hn, rfl⟩) hA)
    · simp [pc76_l1, pc76_r1, a0, a4, v1, v2, hlt, h3]
      refine .froze g (fun _ => false) h6 ?_
      have := h (.sl (.stat false) 1 rows) (τ.frz g fun _ => false) (.inr ⟨_, _, rfl, hR⟩) (hA.frz h4 fun _ _ => rfl)
      rw [frz_sl_fam, if_pos rfl, frz_rows hR]
      exact this
theorem copyF_calls {G : Env} {v : AV} {f : F} {σ : AS} {R : Out → AS → Prop} (hv : FV v f) (h1 : f.params.length ≤ 2 ^ 40) (h2 : f.locals.length ≤ 2 ^ 40) (h3 : f.lists.length ≤ 2 ^ 40) (h4 : ∀ r ∈ f.lists, r.length ≤ 2 ^ 40) (h : ∀ v' σ', FV v' f → Adds σ σ' → R (.ret v') σ') : ACalls Tryd.prog G 55 [v] σ R := by
  refine calls55 rfl ?_
  obtain ⟨pv, lv, tv, rfl, hp, hl, ht⟩ := hv
  have p1 := hp.one
  have l1 := hl.one
  have t1 := ht.one
  simp [pc55, p1, l1, t1]
  have o1 : ((σ.newO [AV.str f.name, pv, lv, AV.int IntKind.i64 f.type, tv]).newO [AV.str [], AV.nilsl, AV.nilsl, AV.int IntKind.i64 0, AV.nilsl]).objs σ.no = some [AV.str f.name, pv, lv, AV.int IntKind.i64 f.type, tv] := by simp
  have o2 : ((σ.newO [AV.str f.name, pv, lv, AV.int IntKind.i64 f.type, tv]).newO [AV.str [], AV.nilsl, AV.nilsl, AV.int IntKind.i64 0, AV.nilsl]).objs (σ.no + 1) = some [AV.str [], AV.nilsl, AV.nilsl, AV.int IntKind.i64 0, AV.nilsl] := by simp
  have n1 : ((σ.newO [AV.str f.name, pv, lv, AV.int IntKind.i64 f.type, tv]).newO [AV.str [], AV.nilsl, AV.nilsl, AV.int IntKind.i64 0, AV.nilsl]).no = σ.no + 2 := by simp
  have A1 : Adds σ ((σ.newO [AV.str f.name, pv, lv, AV.int IntKind.i64 f.type, tv]).newO [AV.str [], AV.nilsl, AV.nilsl, AV.int IntKind.i64 0, AV.nilsl]) := (Adds.refl σ).newO.newO
  generalize (σ.newO [AV.str f.name, pv, lv, AV.int IntKind.i64 f.type, tv]).newO [AV.str [], AV.nilsl, AV.nilsl, AV.int IntKind.i64 0, AV.nilsl] = σ1 at *
  refine copyInts_calls hp h1 fun pv' σ2 hp' A2 => ?_
  have p2 := hp'.one
  have o1 := (A2.obj _ (by omega)).trans o1
  have o2 := (A2.obj _ (by omega)).trans o2
  have n2 := A2.no
  have A2 := A1.trans A2
  simp [p2, o1, l1, splice]
  have o1 : (σ2.setO σ.no [AV.str f.name, pv', lv, AV.int IntKind.i64 f.type, tv]).objs σ.no = some [AV.str f.name, pv', lv, AV.int IntKind.i64 f.type, tv] := by simp
  have o2 : (σ2.setO σ.no [AV.str f.name, pv', lv, AV.int IntKind.i64 f.type, tv]).objs (σ.no + 1) = some [AV.str [], AV.nilsl, AV.nilsl, AV.int IntKind.i64 0, AV.nilsl] := by simp [o2]
  have n3 : (σ2.setO σ.no [AV.str f.name, pv', lv, AV.int IntKind.i64 f.type, tv]).no = σ2.no := by simp
  have A3 : Adds σ (σ2.setO σ.no [AV.str f.name, pv', lv, AV.int IntKind.i64 f.type, tv]) := A2.setO (Nat.le_refl _)
  generalize σ2.setO σ.no [AV.str f.name, pv', lv, AV.int IntKind.i64 f.type, tv] = σ3 at *
  refine copyInts_calls hl h2 fun lv' σ4 hl' A4 => ?_
  have l2 := hl'.one
  have o1 := (A4.obj _ (by omega)).trans o1
  have o2 := (A4.obj _ (by omega)).trans o2
  have n4 := A4.no
  have A4 := A3.trans A4
  simp [p2, l2, o1, t1, splice]
  have o1 : (σ4.setO σ.no [AV.str f.name, pv', lv', AV.int IntKind.i64 f.type, tv]).objs σ.no = some [AV.str f.name, pv', lv', AV.int IntKind.i64 f.type, tv] := by simp
  have o2 : (σ4.setO σ.no [AV.str f.name, pv', lv', AV.int IntKind.i64 f.type, tv]).objs (σ.no + 1) = some [AV.str [], AV.nilsl, AV.nilsl, AV.int IntKind.i64 0, AV.nilsl] := by simp [o2]
  have n5 : (σ4.setO σ.no [AV.str f.name, pv', lv', AV.int IntKind.i64 f.type, tv]).no = σ4.no := by simp
  have A5 : Adds σ (σ4.setO σ.no [AV.str f.name, pv', lv', AV.int IntKind.i64 f.type, tv]) := A4.setO (Nat.le_refl _)
  generalize σ4.setO σ.no [AV.str f.name, pv', lv', AV.int IntKind.i64 f.type, tv] = σ5 at *
  refine copyLists_calls ht h3 h4 fun tv' σ6 ht' A6 => ?_
  have t2 := ht'.one
  have o1 := (A6.obj _ (by omega)).trans o1
  have o2 := (A6.obj _ (by omega)).trans o2
  have n6 := A6.no
  have A6 := A5.trans A6
  simp [p2, l2, t2, o1, o2, splice]
  exact h _ _ ⟨pv', lv', tv', rfl, hp', hl', ht'⟩ ((A6.setO (Nat.le_refl _)).setO (by omega))
def CpF (v : AV) (l : List F) (σ : AS) (a : Nat → AV) (τ : AS) : Prop := ∃ (i : Nat) (rows : List AV), i ≤ l.length ∧ a 0 = v ∧ a 4 = .int .i64 (i : Int) ∧ All2 FV rows (l.take i) ∧ OutG τ σ.nf 5 (a 3) rows ∧ Adds σ τ
theorem frz_fs {rows : List AV} {l : List F} (h : All2 FV rows l) (g : Nat) : rows.map (frz g) = rows := by
  induction h with
  | nil => rfl
  | cons h r ih => simp [h.frz g, ih]
theorem copyFs_calls {G : Env} {v : AV} {l : List F} {σ : AS} {R : Out → AS → Prop} (hv : FsV v l) (hl : l.length ≤ 2 ^ 40) (h1 : ∀ f ∈ l, f.params.length ≤ 2 ^ 40) (h2 : ∀ f ∈ l, f.locals.length ≤ 2 ^ 40) (h3 : ∀ f ∈ l, f.lists.length ≤ 2 ^ 40) (h4 : ∀ f ∈ l, ∀ r ∈ f.lists, r.length ≤ 2 ^ 40)
    (h : ∀ v' σ', FsV v' l → Adds σ σ' → R (.ret v') σ') : ACalls Tryd.prog G 36 [v] σ R := by
  refine freezing (calls36 rfl ?_)
  have v1 := hv.one
  have v2 := hv.len
  simp [pc36]
  refine aloop (CpF v l σ) (MU 4 (l.length + 1)) ⟨0, [], by omega, by simp, by simp, by simpa using All2.nil, .inl ⟨rfl, by simp⟩, .refl _⟩ fun a τ hI => ?_
  obtain ⟨i, rows, hi, a0, a4, hR, hO, hA⟩ := hI
  by_cases hlt : i < l.length
  · obtain ⟨b, rv, hrv, hix⟩ := hv.at hlt
    have hget : l[i]? = some l[i] := List.getElem?_eq_getElem hlt
    have w1 : IntKind.wrap .i64 ((i : Int) + 1) = ((i + 1 : Nat) : Int) := by rw [wrap_i64] <;> omega
    have ts := take_snoc hget
    have hm := List.getElem_mem hlt
    have b1 := h1 _ hm
    have b2 := h2 _ hm
    have b3 := h3 _ hm
    have b4 := h4 _ hm
    generalize l[i] = f at *
    have hlen : rows.length = i := by rw [hR.length]; simp; omega
    have hrv0 := hrv
    obtain ⟨pv, lv, tv, rfl, hp, hll, ht⟩ := hrv
    have p1 := hp.one
    have l1 := hll.one
    have t1 := ht.one
    simp [pc36_l1, a0, a4, v1, v2, hlt, hix, p1, l1, t1]
    refine copyF_calls hrv0 b1 b2 b3 b4 fun rv' σ1 hrv' A1 => ?_
    have hO1 := hO.keep A1
    have hA1 := hA.trans A1
    have hR1 : All2 FV (rows ++ [rv']) (l.take (i + 1)) := by rw [ts]; exact hR.append (.cons hrv' .nil)
    have hgn := hA1.nf
    obtain ⟨pv', lv', tv', rfl, hp', hl', ht'⟩ := hrv'
    have p2 := hp'.one
    have l2 := hl'.one
    have t2 := ht'.one
    rcases hO1 with ⟨rfl, h3⟩ | ⟨g, h3, h4, h5, h6⟩
    · simp [p2, l2, t2, h3, w1, a4]
      refine ⟨⟨i + 1, _, by omega, by simp [a0], by simp, by simpa using hR1, .inr ⟨σ1.nf, by simp, hgn, by simp, by simp⟩, hA1.newF⟩, ?_⟩
      simp only [MU, a4]; simp; omega
    · simp [p2, l2, t2, h3, w1, h6, a4]
      refine ⟨by omega, ⟨i + 1, _, by omega, by simp [a0], by simp, hR1, .inr ⟨σ1.nf, by simp, hgn, by simp, by simp⟩, ?_⟩, ?_⟩
      · exact ⟨by simpa using hA1.no, by simp; omega, fun o ho => by simpa using hA1.obj o ho, fun f hf => by
          have : f ≠ g := by omega
          simp [this]
          rw [if_neg (by omega)]
          exact hA1.fam f hf⟩
      · simp only [MU, a4]; simp; omega
  · have hlt' : ¬ (i : Int) < (l.length : Int) := by omega
    have htk : l.take i = l := List.take_of_length_le (by omega)
    rw [htk] at hR
    rcases hO with ⟨rfl, h3⟩ | ⟨g, h3, h4, h5, h6⟩
    · simp [pc36_l1, pc36_r1, a0, a4, v1, v2, hlt, h3]
      have hn : l = [] := by have := hR.length; exact List.length_eq_zero_iff.1 (by simpa using this.symm)
      exact .inl (h _ _ (.inl ⟨hn, rfl⟩) hA)
    · simp [pc36_l1, pc36_r1, a0, a4, v1, v2, hlt, h3]
      refine .froze g (fun _ => false) h6 ?_
      have := h (.sl (.stat false) 5 rows) (τ.frz g fun _ => false) (.inr ⟨_, _, rfl, hR⟩) (hA.frz h4 fun _ _ => rfl)
      rw [frz_sl_fam, if_pos rfl, frz_fs hR]
      exact this
/-- A COPY OF A MODULE. -/
theorem copyM_calls {G : Env} {mv : AV} {m : M} {σ : AS} {R : Out → AS → Prop} (hm : MV mv m) (hl : m.funcs.length ≤ 2 ^ 40) (h1 : ∀ f ∈ m.funcs, f.params.length ≤ 2 ^ 40) (h2 : ∀ f ∈ m.funcs, f.locals.length ≤ 2 ^ 40) (h3 : ∀ f ∈ m.funcs, f.lists.length ≤ 2 ^ 40) (h4 : ∀ f ∈ m.funcs, ∀ r ∈ f.lists, r.length ≤ 2 ^ 40)
    (h : ∀ v' σ', MV v' m → Adds σ σ' → R (.ret v') σ') : ACalls Tryd.prog G 12 [mv] σ R := by
  refine calls12 rfl ?_
  obtain ⟨fv, rfl, hfs⟩ := hm
  have f1 := hfs.one
  simp [pc12, f1]
  refine copyFs_calls hfs hl h1 h2 h3 h4 fun fv' σ2 hfs' A2 => ?_
  have f2 := hfs'.one
  have o1 := A2.obj σ.no (by simp; omega)
  have o2 := A2.obj (σ.no + 1) (by simp)
  have hn := A2.no
  simp at o1 o2
  simp at hn
  simp [f2, o1, o2, splice]
  have A : Adds σ σ2 := (Adds.refl σ).newO.newO.trans A2
  exact h _ _ ⟨fv', rfl, hfs'⟩ ((A.setO (Nat.le_refl _)).setO (by omega))
end Go.Proofs.YthifgodgfhbnfaaDoor
set_option linter.unusedSimpArgs false
set_option linter.unusedVariables false
namespace Go.Proofs.YthifgodgfhbnfaaDoor.Al
open Go Go.Abs Go.Proofs.YthifgodgfhbnfaaDoor
def RepE (v : AV) (l : List W) : Prop := (l = [] ∧ v = .nilsl) ∨ ∃ b, v = .sl (.fam 0 b) 6 (l.map W.av)
def ToV (σ : AS) (v : AV) (to : To) : Prop :=
  (to = [] ∧ v = .nilsl) ∨ ∃ g tos, v = .sl (.fam g false) 1 tos ∧ g < σ.nf ∧ σ.F g = .alive ∧ 0 < g ∧ All2 RepE tos to
def Maker (σ : AS) (x : Nat) (fv : AV) (to : To) : Prop := x < σ.no ∧ (0 < σ.nf ∧ σ.F 0 = .alive) ∧ ∃ tv, σ.objs x = some [fv, tv] ∧ ToV σ tv to
theorem Maker.mono_newO {σ x fv to cs} (h : Maker σ x fv to) : Maker (σ.newO cs) x fv to := by
  obtain ⟨h1, h0, tv, h2, h3⟩ := h
  exact ⟨by simp; omega, by simpa using h0, tv, by simp; rw [if_neg (by omega)]; exact h2, h3⟩
/-- the list-maker's contract, for what it may give -/
def RecOk (G : Env) (x : Nat) (fv : AV) (rec : Rec) : Prop := ∀ (σ : AS) (at_ : Int) (to : To) (n : Int) (to' : To) (R : Out → AS → Prop),
  Maker σ x fv to → rec at_ to = some (n, to') → to'.length ≤ 2 ^ 30 → (∀ σ', Keep x σ σ' → Maker σ' x fv to' → R (.ret (.int .i64 n)) σ') → ACalls Tryd.prog G 37 [.ptr x 0, .int .i64 at_] σ R

theorem chosen_calls {G : Env} {x fv rec} (IH : RecOk G x fv rec) {σ : AS} {w : W} {n : Int} {to l to'} {R : Out → AS → Prop} (hm : Maker σ x fv to) (hp : pchosen rec n w to = some (l, to')) (hb : to'.length ≤ 2 ^ 30)
    (h : ∀ σ' v, Keep x σ σ' → Maker σ' x fv to' → RepL v l → R (.ret v) σ') : ACalls Tryd.prog G 77 [.ptr x 0, .int .i64 n, w.av] σ R := by
  refine calls77 rfl ?_
  unfold pchosen at hp
  have K0 : Keep x σ (σ.newO w.cs) := .newO hm.1
  have M0 : Maker (σ.newO w.cs) x fv to := hm.mono_newO
  by_cases h0 : n = 0
  · by_cases h1 : w.other < 0
    · simp [h0, h1] at hp
      obtain ⟨rfl, rfl⟩ := hp
      have := h _ .nilsl K0 M0 (.inl ⟨rfl, rfl⟩)
      simpa [pc77, W.av, W.cs, h0, h1] using this
    · simp only [h0, h1, if_true, if_false] at hp
      split at hp
      · cases hp
      rename_i b to1 hr
      cases hp
      simp [pc77, W.av, W.cs, h0, h1]
      refine IH _ _ _ _ _ _ M0 hr hb fun σ' hk hm' => ?_
      simp [splice]
      exact h _ _ (K0.trans hk) hm' (.inr ⟨true, rfl⟩)
  · by_cases h1 : w.body < 0
    · simp [h0, h1] at hp
      obtain ⟨rfl, rfl⟩ := hp
      have := h _ .nilsl K0 M0 (.inl ⟨rfl, rfl⟩)
      simpa [pc77, W.av, W.cs, h0, h1] using this
    · simp only [h0, h1, if_false] at hp
      split at hp
      · cases hp
      rename_i b to1 hr
      cases hp
      simp [pc77, W.av, W.cs, h0, h1]
      refine IH _ _ _ _ _ _ M0 hr hb fun σ' hk hm' => ?_
      simp [splice]
      exact h _ _ (K0.trans hk) hm' (.inr ⟨true, rfl⟩)
theorem Maker.setO {σ x fv to o cs} (h : Maker σ x fv to) (ho : o ≠ x) : Maker (σ.setO o cs) x fv to := by
  obtain ⟨h1, h0, tv, h2, h3⟩ := h
  exact ⟨h1, h0, tv, by simp; rw [if_neg (by omega)]; exact h2, h3⟩

theorem lists_calls {G : Env} {x fv rec} (IH : RecOk G x fv rec) (gr : Grows rec) {σ : AS} {w w' : W} {to to'} {R : Out → AS → Prop} (hm : Maker σ x fv to) (hp : plists rec w to = some (w', to')) (hb : to'.length ≤ 2 ^ 30)
    (h : ∀ σ', Keep x σ σ' → Maker σ' x fv to' → R (.ret w'.av) σ') : ACalls Tryd.prog G 58 [.ptr x 0, w.av] σ R := by
  refine calls58 rfl ?_
  unfold plists at hp
  have hx := hm.1
  have K0 : ∀ c1 cs, Keep x σ ((σ.newO c1).newO cs) := fun _ _ => (Keep.newO hx).addO hx
  have M0 : ∀ c1 cs, Maker ((σ.newO c1).newO cs) x fv to := fun _ _ => hm.mono_newO.mono_newO
  by_cases h13 : w.op = 13
  · simp only [h13, if_true] at hp
    split at hp
    · cases hp
    rename_i b to1 hr1
    simp [pc58, W.av, W.cs, h13]
    by_cases ho : 0 ≤ w.other
    · simp only [ho, if_true] at hp
      split at hp
      · cases hp
      rename_i o to2 hr2
      cases hp
      refine IH _ _ _ _ _ _ (M0 _ _) hr1 (Nat.le_trans (gr _ _ _ _ hr2) hb) fun σ1 k1 m1 => ?_
      have e1 := k1.obj σ.no (by simp; omega) (by omega)
      have e1' := k1.obj (σ.no + 1) (by simp) (by omega)
      simp at e1 e1'
      simp [e1, splice, ho]
      refine IH _ _ _ _ _ _ (m1.setO (by omega)) hr2 hb fun σ2 k2 m2 => ?_
      have hn1 := k1.no
      simp at hn1
      have e2 := k2.obj σ.no (by simp; omega) (by omega)
      have e2' := k2.obj (σ.no + 1) (by simp; omega) (by omega)
      simp at e2 e2'
      simp [e2, e2', e1', splice]
      refine h _ ?_ ?_
      · exact (((((K0 _ _).trans k1).setO (Nat.le_refl _) hx).trans k2).setO (Nat.le_refl _) hx).setO (by omega) hx
      · exact (m2.setO (by omega)).setO (by omega)
    · simp only [ho, if_false] at hp
      cases hp
      refine IH _ _ _ _ _ _ (M0 _ _) hr1 hb fun σ1 k1 m1 => ?_
      have e1 := k1.obj σ.no (by simp; omega) (by omega)
      have e1' := k1.obj (σ.no + 1) (by simp) (by omega)
      simp at e1 e1'
      simp [e1, e1', splice, ho]
      refine h _ ?_ ?_
      · exact ((((K0 _ _).trans k1).setO (Nat.le_refl _) hx)).setO (by omega) hx
      · exact (m1.setO (by omega)).setO (by omega)
  · by_cases h11 : w.op = 11 ∨ w.op = 12
    · simp only [h13, h11, if_true, if_false] at hp
      split at hp
      · cases hp
      rename_i b to1 hr1
      cases hp
      have fin : ∀ c1 cs σ1, Keep x ((σ.newO c1).newO cs) σ1 → Maker σ1 x fv to' → _ := fun c1 cs σ1 k1 m1 => h ((σ1.setO σ.no (W.cs { w with body := b })).setO (σ.no + 1) (W.cs { w with body := b })) ((((K0 _ _).trans k1).setO (Nat.le_refl _) hx).setO (by omega) hx) ((m1.setO (o := σ.no) (by omega)).setO (o := σ.no + 1) (by omega))
      rcases h11 with h11 | h11
      · simp [pc58, W.av, W.cs, h11]
        refine IH _ _ _ _ _ _ (M0 _ _) hr1 hb fun σ1 k1 m1 => ?_
        have e1 := k1.obj σ.no (by simp; omega) (by omega)
        have e1' := k1.obj (σ.no + 1) (by simp) (by omega)
        simp at e1 e1'
        simpa [e1, e1', splice, W.cs, W.av, h11] using fin _ _ σ1 k1 m1
      · simp [pc58, W.av, W.cs, h11]
        refine IH _ _ _ _ _ _ (M0 _ _) hr1 hb fun σ1 k1 m1 => ?_
        have e1 := k1.obj σ.no (by simp; omega) (by omega)
        have e1' := k1.obj (σ.no + 1) (by simp) (by omega)
        simp at e1 e1'
        simpa [e1, e1', splice, W.cs, W.av, h11] using fin _ _ σ1 k1 m1
    · simp only [h13, h11, if_false] at hp
      cases hp
      have h1 : ¬ w.op = 11 := fun e => h11 (.inl e)
      have h2 : ¬ w.op = 12 := fun e => h11 (.inr e)
      have := h _ ((K0 w.cs [.int .i64 0, .int .i64 0, .int .i64 0, .int .i64 0, .int .i64 0, .str []]).setO (cs := w.cs) (show σ.no ≤ σ.no + 1 by omega) hx) ((M0 _ _).setO (by omega))
      simpa [pc58, W.av, W.cs, h13, h1, h2, splice] using this

set_option maxHeartbeats 4000000 in
theorem together_calls {G : Env} {x fv rec} (IH : RecOk G x fv rec) {σ : AS} {w u : W} {to l is to'} {R : Out → AS → Prop} (hm : Maker σ x fv to) (hp : ptogether rec w u to = some (l, is, to')) (hb : to'.length ≤ 2 ^ 30)
    (h : ∀ σ' v, Keep x σ σ' → Maker σ' x fv to' → RepL v l → R (.ret (.tuple [v, .bool is])) σ') : ACalls Tryd.prog G 57 [.ptr x 0, w.av, u.av] σ R := by
  refine calls57 rfl ?_
  unfold ptogether at hp
  have hx := hm.1
  have K0 : ∀ c1 cs, Keep x σ ((σ.newO c1).newO cs) := fun _ _ => (Keep.newO hx).addO hx
  have M0 : ∀ c1 cs, Maker ((σ.newO c1).newO cs) x fv to := fun _ _ => hm.mono_newO.mono_newO
  have two : ∀ t : W, RepL (.sl (.stat true) 6 [t.av]) [t] := fun t => .inr ⟨true, rfl⟩
  by_cases b18 : u.op = 18
  · by_cases a12 : w.op = 1 ∨ w.op = 2
    · simp [a12, b18] at hp
      obtain ⟨rfl, rfl, rfl⟩ := hp
      have := h _ .nilsl (K0 w.cs u.cs) (M0 _ _) (.inl ⟨rfl, rfl⟩)
      by_cases t1 : w.ty = 1 <;> rcases a12 with a | a <;> simpa [pc57, W.av, W.cs, a, b18, t1, splice, aeq, aeqFs] using this
    · have a1 : ¬ w.op = 1 := fun e => a12 (.inl e)
      have a2 : ¬ w.op = 2 := fun e => a12 (.inr e)
      simp [a1, a2, b18] at hp
      obtain ⟨rfl, rfl, rfl⟩ := hp
      have := h _ .nilsl (K0 w.cs u.cs) (M0 _ _) (.inl ⟨rfl, rfl⟩)
      simpa [pc57, W.av, W.cs, a1, a2, b18, splice, aeq, aeqFs] using this
  by_cases a1 : w.op = 1
  · by_cases b5 : u.op = 5
    · simp [a1, b5] at hp
      obtain ⟨rfl, rfl, rfl⟩ := hp
      by_cases n0 : w.n = 0 <;> by_cases t1 : w.ty = 1 <;> by_cases te : w.ty = u.ty
      all_goals
        have := h _ _ (K0 w.cs u.cs) (M0 _ _) (two _)
        simpa [pc57, W.av, W.cs, a1, b5, n0, t1, te, splice, aeq, aeqFs] using this
    by_cases b15 : u.op = 15
    · by_cases n0 : w.n = 0
      · simp [a1, b15, n0] at hp
        obtain ⟨rfl, rfl, rfl⟩ := hp
        have := h _ .nilsl (K0 w.cs u.cs) (M0 _ _) (.inl ⟨rfl, rfl⟩)
        by_cases t1 : w.ty = 1 <;> simpa [pc57, W.av, W.cs, a1, b15, n0, t1, splice, aeq, aeqFs] using this
      · simp [a1, b15, n0] at hp
        obtain ⟨rfl, rfl, rfl⟩ := hp
        have := h _ _ (K0 w.cs u.cs) (M0 _ _) (two _)
        by_cases t1 : w.ty = 1 <;> simpa [pc57, W.av, W.cs, a1, b15, n0, t1, splice, aeq, aeqFs] using this
    by_cases b13 : u.op = 13
    · by_cases t1 : w.ty = 1
      · simp [a1, b13, t1] at hp
        split at hp
        · cases hp
        rename_i l1 to1 hr
        simp at hp
        obtain ⟨rfl, rfl, rfl⟩ := hp
        cases u with
        | mk uop uty un ub uo unm =>
        simp only at b13
        subst b13
        simp [pc57, W.av, W.cs, a1, t1, splice, aeq, aeqFs]
        refine chosen_calls IH (w := ⟨13, uty, un, ub, uo, unm⟩) (M0 _ _) hr hb fun σ' v hk hm' hl => ?_
        simp
        exact h _ _ ((K0 _ _).trans hk) hm' hl
      · simp [a1, b13, t1] at hp
        obtain ⟨rfl, rfl, rfl⟩ := hp
        have := h _ .nilsl (K0 w.cs u.cs) (M0 _ _) (.inl ⟨rfl, rfl⟩)
        simpa [pc57, W.av, W.cs, a1, b13, t1, splice, aeq, aeqFs] using this
    · simp [a1, b18, b5, b15, b13] at hp
      obtain ⟨rfl, rfl, rfl⟩ := hp
      have := h _ .nilsl (K0 w.cs u.cs) (M0 _ _) (.inl ⟨rfl, rfl⟩)
      by_cases t1 : w.ty = 1 <;> simpa [pc57, W.av, W.cs, a1, b18, b5, b15, b13, t1, splice, aeq, aeqFs] using this
  · simp [a1, b18] at hp
    obtain ⟨rfl, rfl, rfl⟩ := hp
    have := h _ .nilsl (K0 w.cs u.cs) (M0 _ _) (.inl ⟨rfl, rfl⟩)
    by_cases a2 : w.op = 2 <;> simpa [pc57, W.av, W.cs, a1, a2, b18, splice, aeq, aeqFs] using this
end Go.Proofs.YthifgodgfhbnfaaDoor.Al
set_option linter.unusedSimpArgs false
set_option linter.unusedVariables false
namespace Go.Proofs.YthifgodgfhbnfaaDoor.Al
open Go Go.Abs Go.Proofs.YthifgodgfhbnfaaDoor
theorem Maker.uses {σ x fv to} (h : Maker σ x fv to) {f : Nat} (u : Uses σ x f) : f < σ.nf ∧ σ.F f = .alive := by
  obtain ⟨_, _, tv, h1, h2⟩ := h
  obtain ⟨fv', tv', h3, h4⟩ := u
  rw [h1] at h3
  simp at h3
  obtain ⟨rfl, rfl⟩ := h3
  rcases h2 with ⟨_, rfl⟩ | ⟨g, tos, rfl, h5, h6, _, _⟩
  · simp [famOf] at h4
  · simp [famOf] at h4; subst h4; exact ⟨h5, h6⟩
theorem Maker.newF {σ x fv to} (h : Maker σ x fv to) : Maker σ.newF x fv to := by
  obtain ⟨h1, h0, tv, h2, h3⟩ := h
  refine ⟨h1, ⟨by simp, by simp; intro _; exact h0.2⟩, tv, h2, ?_⟩
  rcases h3 with h3 | ⟨g, tos, rfl, h5, h6, h7⟩
  · exact .inl h3
  · exact .inr ⟨g, tos, rfl, by simp; omega, by simp; intro _; exact h6, h7⟩
theorem Maker.grow {σ x fv to f s} (h : Maker σ x fv to) (hf : ¬ Uses σ x f) (hf0 : f ≠ 0) : Maker ((σ.setF f s).newF) x fv to := by
  refine Maker.newF ?_
  obtain ⟨h1, h0, tv, h2, h3⟩ := h
  refine ⟨h1, ⟨h0.1, by simp [Ne.symm hf0, h0.2]⟩, tv, h2, ?_⟩
  rcases h3 with h3 | ⟨g, tos, rfl, h5, h6, h7⟩
  · exact .inl h3
  · have : g ≠ f := fun e => hf ⟨fv, _, h2, by simp [famOf, e]⟩
    exact .inr ⟨g, tos, rfl, h5, by simp [this, h6], h7⟩
theorem Maker.fresh {σ x fv to} (h : Maker σ x fv to) {τ : AS} (ho : τ.objs = σ.objs) : ¬ Uses τ x σ.nf := fun u => by
  have : Uses σ x σ.nf := by unfold Uses at *; rwa [ho] at u
  exact absurd (h.uses this).1 (by omega)

theorem list_fin {G : Env} {x : Nat} {fv lv : AV} {to1 : To} {a : Nat → AV} {τ : AS} {R : Out → AS → Prop} (hm : Maker τ x fv to1) (h0 : a 0 = .ptr x 0) (h5 : a 5 = lv) (h1 : lv.cells = [lv]) (hk : lv.known = true) (ho : lv.one = true) (hb : to1.length + 1 ≤ 2 ^ 30)
    (h : ∀ τ' tos, All2 RepE tos to1 → τ'.objs = upd τ.objs x (some [fv, .sl (.fam τ.nf false) 1 (tos ++ [lv])]) → τ'.no = τ.no → τ'.nf = τ.nf + 1 → τ'.F τ.nf = .alive →
      (∀ f, f < τ.nf → ¬ Uses τ x f → τ'.F f = τ.F f) → R (.ret (.int .i64 to1.length)) τ') : avc Tryd.prog G 78 pc37_r1 (afin Tryd.prog [.tmp 4] R) a τ := by
  obtain ⟨hx, h00, tv, hob, ht⟩ := hm
  have hw : IntKind.wrap .i64 (to1.length : Int) = to1.length := by rw [wrap_i64] <;> omega
  rcases ht with ⟨rfl, rfl⟩ | ⟨g, tos, rfl, hg, hga, hg0, htos⟩
  · simp only [List.length_nil, Int.cast_ofNat_Int] at hw
    simp [pc37_r1, h0, h5, hob, hk, h1, ho, splice, hw]
    exact h _ [] .nil (by simp) rfl rfl (by simp) (fun f hf hu => by simp; omega)
  · have hl := htos.length
    simp [pc37_r1, h0, h5, hob, hk, h1, ho, splice, hga, hl, hw]
    refine ⟨by omega, h _ tos htos (by simp) rfl (by simp) (by simp) (fun f hf hu => ?_)⟩
    have : f ≠ g := fun e => hu ⟨fv, _, hob, by simp [famOf, e]⟩
    simp [this]; omega

theorem mrg_W (f : Nat) (w : W) : mrg f w.av = w.av := by simp [W.av, W.cs]
theorem mrg_Ws (f : Nat) (l : List W) : (l.map W.av).map (mrg f) = l.map W.av := by simp [Function.comp_def, mrg_W]
theorem RepE.mrg {v l} (h : RepE v l) {f : Nat} : mrg f v = v := by
  rcases h with ⟨_, rfl⟩ | ⟨b, rfl⟩
  · simp
  · rw [mrg_sl_fam, mrg_Ws]; split <;> rfl
theorem mrg_rows {tos to} (h : All2 RepE tos to) (f : Nat) : tos.map (mrg f) = tos := by
  induction h with
  | nil => rfl
  | cons h r ih => simp [h.mrg, ih]
theorem RepL.mrg {v l} (h : RepL v l) (f : Nat) : mrg f v = v := by
  rcases h with ⟨_, rfl⟩ | ⟨b, rfl⟩
  · simp
  · rw [mrg_sl_stat, mrg_Ws]
theorem mrg_rowsL {tos to} (h : All2 RepL tos to) (f : Nat) : tos.map (mrg f) = tos := by
  induction h with
  | nil => rfl
  | cons h r ih => simp [RepL.mrg h f, ih]
theorem FromV.mrg {v frm} (h : FromV v frm) (f : Nat) : mrg f v = v := by
  obtain ⟨b, rows, rfl, h⟩ := h
  rw [mrg_sl_stat, mrg_rowsL h]
/-- what the list's end asks of a frozen or plain state -/
theorem list_end {x : Nat} {fv lv : AV} {frm : To} (hf : FromV fv frm) {to1 : To} {l : List W} {σ τ τ' : AS} {tos : List AV} {R : Out → AS → Prop} (h00 : 0 < σ.nf ∧ σ.F 0 = .alive ∧ ¬ Uses σ x 0) (K : Keep x σ τ) (hm : Maker τ x fv to1) (hr : RL τ x σ.nf lv l)
    (ht : All2 RepE tos to1) (e1 : τ'.objs = upd τ.objs x (some [fv, .sl (.fam τ.nf false) 1 (tos ++ [lv])])) (e2 : τ'.no = τ.no) (e3 : τ'.nf = τ.nf + 1) (e4 : τ'.F τ.nf = .alive)
    (e5 : ∀ f, f < τ.nf → ¬ Uses τ x f → τ'.F f = τ.F f)
    (h : ∀ σ', Keep x σ σ' → Maker σ' x fv (to1 ++ [l]) → R (.ret (.int .i64 to1.length)) σ') :
    R (.ret (.int .i64 to1.length)) τ' ∨ ∃ v g p, Out.ret (.int .i64 to1.length) = .ret v ∧ 0 < τ'.nf ∧ τ'.F g = .alive ∧ R (.ret (mrg g v)) (τ'.mrg g p) := by
  have base : ∀ σ' : AS, σ'.no = τ.no → σ'.nf = τ.nf + 1 → (∀ o, o ≠ x → σ'.objs o = τ.objs o) → (∃ tos', σ'.objs x = some [fv, .sl (.fam τ.nf false) 1 tos'] ∧ All2 RepE tos' (to1 ++ [l])) → σ'.F τ.nf = .alive →
      (∀ f, f < σ.nf → ¬ Uses σ x f → σ'.F f = σ.F f) → R (.ret (.int .i64 to1.length)) σ' := by
    intro σ' a1 a2 a3 ⟨tos', a4, a5⟩ a6 a7
    refine h σ' ⟨by rw [a1]; exact K.no, by rw [a2]; have := K.nf; omega, fun o h1 h2 => (a3 o h2).trans (K.obj o h1 h2), a7, fun f h1 h2 => ?_⟩ ⟨by rw [a1]; exact hm.1, ⟨by omega, by rw [a7 0 h00.1 h00.2.2]; exact h00.2.1⟩, _, a4, .inr ⟨_, _, rfl, by omega, a6, by have := K.nf; omega, a5⟩⟩
    obtain ⟨fv', tv', b1, b2⟩ := h2
    rw [a4] at b1
    simp at b1
    obtain ⟨rfl, rfl⟩ := b1
    simp [famOf] at b2
    have := K.nf
    omega
  rcases hr with ⟨rfl, rfl⟩ | ⟨f, rfl, h1, h2, h3, h4⟩
  · refine .inl (base _ e2 e3 (fun o ho => by rw [e1]; simp [ho]) ⟨tos ++ [.nilsl], by rw [e1]; simp, ht.append (.cons (.inl ⟨rfl, rfl⟩) .nil)⟩ e4 (fun g hg hu => ?_))
    rw [e5 g (Nat.lt_of_lt_of_le hg K.nf) (fun u => hu (K.use g hg u)), K.fam g hg hu]
  · refine .inr ⟨_, f, fun o => o == x, rfl, by omega, by rw [e5 f h2 h4, h3], ?_⟩
    rw [mrg_int]
    refine base _ e2 e3 (fun o ho => by simp [AS.mrg, e1, ho]) ⟨tos ++ [.sl (.fam 0 false) 6 (l.map W.av)], ?_, ht.append (.cons (.inr ⟨_, rfl⟩) .nil)⟩ ?_ (fun g hg hu => ?_)
    · have : τ.nf ≠ f := by omega
      simp [AS.mrg, e1, FromV.mrg hf, mrg_rows ht, this, Function.comp_def, mrg_W]
    · have : τ.nf ≠ f := by omega
      simp [AS.mrg, mrgF, this, e4]
    · have : g ≠ f := by omega
      simp only [AS.mrg, mrgF, upd_at, this, if_false]
      rw [e5 g (Nat.lt_of_lt_of_le hg K.nf) (fun u => hu (K.use g hg u)), K.fam g hg hu]
end Go.Proofs.YthifgodgfhbnfaaDoor.Al
set_option linter.unusedSimpArgs false
set_option linter.unusedVariables false
namespace Go.Proofs.YthifgodgfhbnfaaDoor.Al
open Go Go.Abs Go.Proofs.YthifgodgfhbnfaaDoor
theorem Maker.not0 {σ x fv to} (h : Maker σ x fv to) : ¬ Uses σ x 0 := fun u => by
  obtain ⟨_, _, tv, h1, h2⟩ := h
  obtain ⟨fv', tv', h3, h4⟩ := u
  rw [h1] at h3
  simp at h3
  obtain ⟨rfl, rfl⟩ := h3
  rcases h2 with ⟨_, rfl⟩ | ⟨g, tos, rfl, h5, h6, h7, _⟩
  · simp [famOf] at h4
  · simp [famOf] at h4; omega
def LI (rec : Rec) (σ : AS) (x : Nat) (fv row : AV) (ws lfin : List W) (tofin : To) (a : Nat → AV) (τ : AS) : Prop := ∃ (i : Nat) (l : List W) (to : To),
  i ≤ ws.length ∧ l.length ≤ i ∧ a 0 = .ptr x 0 ∧ a 17 = row ∧ a 18 = .int .i64 (ws.length : Int) ∧ a 19 = .int .i64 (i : Int) ∧ RL τ x σ.nf (a 5) l ∧ Keep x σ τ ∧ Maker τ x fv to ∧ ploop rec (ws.drop i) l to = some (lfin, tofin)
def LM (ws : List W) (a : Nat → AV) (_ : AS) : Nat := match a 19 with
  | .int _ n => ws.length - n.toNat
  | _ => 0

theorem list_loop {G : Env} {x fv rec} (IH : RecOk G x fv rec) (gr : Grows rec) {σ : AS} {row : AV} {ws lfin : List W} {tofin : To} {R : Out → AS → Prop} (hrow : RepL row ws) (hlen : ws.length ≤ 2 ^ 30) (hb : tofin.length + 1 ≤ 2 ^ 30) (hxs : x < σ.no) (h0n : 0 < σ.nf)
    (fin : ∀ a τ, a 0 = .ptr x 0 → RL τ x σ.nf (a 5) lfin → Keep x σ τ → Maker τ x fv tofin → avc Tryd.prog G 78 pc37_r1 (afin Tryd.prog [.tmp 4] R) a τ)
    {a : Nat → AV} {τ : AS} (hI : LI rec σ x fv row ws lfin tofin a τ) :
    ALoop Tryd.prog G 78 pc37_l1 (ablock 0 (athen (avc Tryd.prog G 78 pc37_r1 (afin Tryd.prog [.tmp 4] R)) (afin Tryd.prog [.tmp 4] R))) a τ := by
  refine aloop (LI rec σ x fv row ws lfin tofin) (LM ws) hI fun a τ hI => ?_
  obtain ⟨i, l, to, hi, hli, h0, h17, h18, h19, hR, hK, hM, hp⟩ := hI
  have hx := hM.1
  have hmu : LM ws a τ = ws.length - i := by simp [LM, h19]
  by_cases hlt : i < ws.length
  · obtain ⟨w, hw'⟩ : ∃ w, ws[i] = w := ⟨ws[i], rfl⟩
    have hd : ws.drop i = w :: ws.drop (i + 1) := by
      rw [List.drop_eq_getElem_cons hlt, hw']
    rw [hd] at hp
    have K1 : ∀ c1 c2, Keep x σ ((τ.newO c1).setO τ.no c2) := fun _ _ => (hK.addO hxs).setO hK.no hxs
    have M1 : ∀ c1 c2, Maker ((τ.newO c1).setO τ.no c2) x fv to := fun _ _ => hM.mono_newO.setO (by omega)
    have R1 : ∀ c1 c2, RL ((τ.newO c1).setO τ.no c2) x σ.nf (a 5) l := fun c1 c2 => hR.mono ((Keep.newO hx).setO (Nat.le_refl _) hx)
    have KR : ∀ c1 c2, Keep x τ ((τ.newO c1).setO τ.no c2) := fun _ _ => (Keep.newO hx).setO (Nat.le_refl _) hx
    -- the round's end
    have next : ∀ (a' : Nat → AV) (τ' : AS) (l' : List W) (to' : To), a' 0 = .ptr x 0 → a' 17 = a 17 → a' 18 = a 18 → a' 19 = .int .i64 ((i : Int) + 1) → RL τ' x σ.nf (a' 5) l' → l'.length ≤ i + 1 → Keep x σ τ' → Maker τ' x fv to' →
        ploop rec (ws.drop (i + 1)) l' to' = some (lfin, tofin) → LI rec σ x fv row ws lfin tofin a' τ' ∧ LM ws a' τ' < LM ws a τ := by
      intro a' τ' l' to' b0 b17 b18 b19 b5 bl bK bM bp
      refine ⟨⟨i + 1, l', to', hlt, bl, b0, by rw [b17, h17], by rw [b18, h18], by rw [b19]; simp, b5, bK, bM, bp⟩, ?_⟩
      rw [hmu]
      simp only [LM, b19]
      have : ((i : Int) + 1).toNat = i + 1 := by omega
      rw [this]; omega
    -- one instruction more
    have more : ∀ (σ2 : AS) (lv : AV), RL σ2 x σ.nf lv l → Keep x σ σ2 → lv = .nilsl ∧ l = [] ∨ ∃ f, lv = .sl (.fam f false) 6 (l.map W.av) ∧ σ.nf ≤ f ∧ f < σ2.nf ∧ σ2.F f = .alive ∧ ¬ Uses σ2 x f := by
      intro σ2 lv h1 h2
      rcases h1 with ⟨h1, h3⟩ | h1
      · exact .inl ⟨h3, h1⟩
      · exact .inr h1
    rcases hrow with ⟨rfl, rfl⟩ | ⟨b2, rfl⟩
    · simp at hlt
    have hi1 : IntKind.wrap .i64 ((i : Int) + 1) = (i : Int) + 1 := by rw [wrap_i64] <;> omega
    cases hl : l.getLast? with
    | none =>
      have hnil : l = [] := by simpa using hl
      subst hnil
      rw [ploop] at hp
      simp only [List.getLast?_nil] at hp
      split at hp
      · cases hp
      rename_i w' to2 hw2
      have hg := loop_grows gr hp
      rcases hR with ⟨_, h5⟩ | ⟨f, h5, hf1, hf2, hf3, hf4⟩
      · simp [pc37_l1, h0, h17, h18, h19, h5, hlt, hw', W.av, W.cs, splice]
        refine lists_calls IH gr (w := w) (M1 _ _) hw2 (by omega) fun σ2 k2 m2 => ?_
        simp [W.av, W.cs, h19, hi1]
        refine next _ _ [w'] to2 (by simp [h0]) (by simp [h17]) (by simp [h18]) (by simp) (.inr ⟨σ2.nf, by simp [W.av, W.cs], ?_, by simp, by simp, m2.fresh rfl⟩) (by simp) ((K1 _ _).trans k2).newF m2.newF hp
        exact ((K1 _ _).trans k2).nf
      · simp [pc37_l1, h0, h17, h18, h19, h5, hlt, hw', W.av, W.cs, splice]
        refine lists_calls IH gr (w := w) (M1 _ _) hw2 (by omega) fun σ2 k2 m2 => ?_
        have k := (KR _ _).trans k2
        have ha : σ2.F f = .alive := by rw [k.fam f hf2 hf4, hf3]
        have hu : ¬ Uses σ2 x f := fun u => hf4 (k.use f hf2 u)
        simp [W.av, W.cs, h19, hi1, ha]
        refine next _ _ [w'] to2 (by simp [h0]) (by simp [h17]) (by simp [h18]) (by simp) (.inr ⟨σ2.nf, by simp [W.av, W.cs], ?_, by simp, by simp, m2.fresh rfl⟩) (by simp) (((K1 _ _).trans k2).grow f hf1) (m2.grow hu (by omega)) hp
        exact ((K1 _ _).trans k2).nf
    | some p =>
      obtain ⟨l0, rfl⟩ : ∃ l0, l = l0 ++ [p] := by
        obtain ⟨h1, h2⟩ := List.getLast?_eq_some_iff.1 hl
        exact ⟨h1, h2⟩
      rw [ploop] at hp
      simp only [List.getLast?_append, List.getLast?_singleton, Option.some_or] at hp
      rcases hR with ⟨hc, _⟩ | ⟨f, h5, hf1, hf2, hf3, hf4⟩
      · simp at hc
      have hpos : (0 : Int) < l0.length + 1 := by omega
      simp at hli
      have hwl : IntKind.wrap .i64 (l0.length : Int) = l0.length := by rw [wrap_i64] <;> omega
      have hget : (List.map W.av l0 ++ [AV.agg [.int .i64 p.op, .int .i64 p.ty, .int .i64 p.n, .int .i64 p.body, .int .i64 p.other, .str p.name]])[l0.length]? = some (AV.agg [.int .i64 p.op, .int .i64 p.ty, .int .i64 p.n, .int .i64 p.body, .int .i64 p.other, .str p.name]) := by simp
      have K2 : ∀ c1 c2 c3, Keep x σ (((τ.newO c1).setO τ.no c2).newO c3) := fun _ _ _ => (K1 _ _).addO hxs
      have M2 : ∀ c1 c2 c3, Maker (((τ.newO c1).setO τ.no c2).newO c3) x fv to := fun _ _ _ => (M1 _ _).mono_newO
      have KR2 : ∀ c1 c2 c3, Keep x τ (((τ.newO c1).setO τ.no c2).newO c3) := fun _ _ _ => (KR _ _).addO hx
      have R2 : ∀ c1 c2 c3, RL (((τ.newO c1).setO τ.no c2).newO c3) x σ.nf (a 5) (l0 ++ [p]) := fun c1 c2 c3 => RL.mono (.inr ⟨f, h5, hf1, hf2, hf3, hf4⟩) (KR2 c1 c2 c3)
      by_cases hle : leavesW p = true
      · rw [if_pos hle] at hp
        simp at hp
        obtain ⟨rfl, rfl⟩ := hp
        simp [pc37_l1, h0, h17, h18, h19, h5, hlt, hw', W.av, W.cs, splice, hf3, hpos, hwl, hget]
        refine leaves_calls (w := p) ?_
        simp [hle]
        exact fin _ _ (by simp [h0]) (by simpa [h5] using R2 _ _ _) (K2 _ _ _) (M2 _ _ _)
      · rw [if_neg hle] at hp
        split at hp
        · cases hp
        rename_i two is to1 hto
        have htl := two_length hto
        have hg1 : to1.length ≤ tofin.length := by
          split at hp
          · exact loop_grows gr hp
          · split at hp
            · cases hp
            · rename_i w' to2 hw2
              exact Nat.le_trans (plists_grows gr hw2) (loop_grows gr hp)
        simp [pc37_l1, h0, h17, h18, h19, h5, hlt, hw', W.av, W.cs, splice, hf3, hpos, hwl, hget]
        refine leaves_calls (w := p) ?_
        simp [hle, h0, h5, hf3, hpos, hwl, hget, W.av, W.cs]
        refine together_calls IH (w := p) (u := w) (M2 _ _ _) hto (by omega) fun σ2 v k2 m2 hv => ?_
        have k := (KR2 _ _ _).trans k2
        have ha : σ2.F f = .alive := by rw [k.fam f hf2 hf4, hf3]
        have hu : ¬ Uses σ2 x f := fun u => hf4 (k.use f hf2 u)
        cases is with
        | true =>
          simp at hp
          rcases hv with ⟨rfl, rfl⟩ | ⟨bb, rfl⟩
          · simp [h0, h5, hwl, ha, h19, hi1]
            refine ⟨by omega, by omega, next _ _ l0 to1 (by simp [h0]) (by simp [h17]) (by simp [h18]) (by simp) (.inr ⟨σ2.nf, by simp, ?_, by simp, by simp, m2.fresh rfl⟩) (by omega) (((K2 _ _ _).trans k2).grow f hf1) (m2.grow hu (by omega)) (by simpa using hp)⟩
            exact ((K2 _ _ _).trans k2).nf
          · simp [h0, h5, hwl, ha, h19, hi1]
            refine ⟨by omega, fun t _ => by simp [W.av, W.cs], by omega, next _ _ (l0 ++ two) to1 (by simp [h0]) (by simp [h17]) (by simp [h18]) (by simp) (.inr ⟨σ2.nf, by simp, ?_, by simp, by simp, m2.fresh rfl⟩) (by simp; omega) (((K2 _ _ _).trans k2).grow f hf1) (m2.grow hu (by omega)) (by simpa using hp)⟩
            exact ((K2 _ _ _).trans k2).nf
        | false =>
          simp at hp
          split at hp
          · cases hp
          rename_i w' to2 hw2
          have hg2 := loop_grows gr hp
          have eo := k2.obj τ.no (by simp; omega) (by omega)
          simp at eo
          simp [h0, h5, hwl, ha, h19, hi1, eo]
          refine lists_calls IH gr (w := w) m2 hw2 (by omega) fun σ3 k3 m3 => ?_
          have k' := k.trans k3
          have ha3 : σ3.F f = .alive := by rw [k'.fam f hf2 hf4, hf3]
          have hu3 : ¬ Uses σ3 x f := fun u => hf4 (k'.use f hf2 u)
          simp [h5, W.av, W.cs, h19, hi1, ha3]
          refine ⟨by omega, next _ _ (l0 ++ [p, w']) to2 (by simp [h0]) (by simp [h17]) (by simp [h18]) (by simp) (.inr ⟨σ3.nf, by simp [W.av, W.cs], ?_, by simp, by simp, m3.fresh rfl⟩) (by simp; omega) ((((K2 _ _ _).trans k2).trans k3).grow f hf1) (m3.grow hu3 (by omega)) (by simpa using hp)⟩
          exact (((K2 _ _ _).trans k2).trans k3).nf
  · have he : i = ws.length := by omega
    subst he
    simp [ploop] at hp
    obtain ⟨rfl, rfl⟩ := hp
    simp [pc37_l1, h18, h19]
    exact fin _ _ (by simpa using h0) (by simpa using hR) hK hM
theorem list_row {G : Env} {x b rows rec} (IH : RecOk G x (.sl (.stat b) 1 rows) rec) (gr : Grows rec)
    {σ : AS} {at_ : Int} {to to1 : To} {ws l : List W} {row : AV} {R : Out → AS → Prop} (hm : Maker σ x (.sl (.stat b) 1 rows) to) (h0 : 0 ≤ at_) (hr : rows[at_.toNat]? = some row) (hrow : RepL row ws) (hlen : ws.length ≤ 2 ^ 30) (hp : ploop rec ws [] to = some (l, to1)) (hb : to1.length + 1 ≤ 2 ^ 30)
    (fin : ∀ a τ, a 0 = .ptr x 0 → RL τ x σ.nf (a 5) l → Keep x σ τ → Maker τ x (.sl (.stat b) 1 rows) to1 → avc Tryd.prog G 78 pc37_r1 (afin Tryd.prog [.tmp 4] R) a τ) : ACalls Tryd.prog G 37 [.ptr x 0, .int .i64 at_] σ R := by
  refine calls37 rfl ?_
  have hM := hm
  obtain ⟨hx, h00, tv, ho, ht⟩ := hm
  have start : ∀ a, a 0 = .ptr x 0 → a 17 = row → a 18 = .int .i64 (ws.length : Int) → a 19 = .int .i64 0 → a 5 = .nilsl → LI rec σ x (.sl (.stat b) 1 rows) row ws l to1 a σ := by
    intro a a0 a17 a18 a19 a5
    exact ⟨0, [], to, Nat.zero_le _, Nat.le_refl _, a0, a17, a18, by simpa using a19, .inl ⟨rfl, a5⟩, .refl .., hM, by simpa using hp⟩
  have go : ∀ a, a 0 = .ptr x 0 → a 17 = row → a 18 = .int .i64 (ws.length : Int) → a 19 = .int .i64 0 → a 5 = .nilsl →
      ALoop Tryd.prog G 78 pc37_l1 (ablock 0 (athen (avc Tryd.prog G 78 pc37_r1 (afin Tryd.prog [.tmp 4] R)) (afin Tryd.prog [.tmp 4] R))) a σ :=
    fun a a0 a17 a18 a19 a5 => list_loop IH gr hrow hlen hb hx h00.1 fin (start a a0 a17 a18 a19 a5)
  clear start fin
  rcases hrow with ⟨rfl, rfl⟩ | ⟨b2, rfl⟩
  · simp [pc37, ho, hr, h0]
    refine go _ ?_ ?_ ?_ ?_ ?_ <;> simp
  · simp [pc37, ho, hr, h0]
    refine go _ ?_ ?_ ?_ ?_ ?_ <;> simp

theorem list_calls {G : Env} {x fv rec} (IH : RecOk G x fv rec) (gr : Grows rec) {frm : To} (hf : FromV fv frm) (hl : ∀ ws ∈ frm, ws.length ≤ 2 ^ 30)
    {σ : AS} {at_ : Int} {to to1 : To} {ws l : List W} {R : Out → AS → Prop} (hm : Maker σ x fv to) (h0 : 0 ≤ at_) (hw : frm[at_.toNat]? = some ws) (hp : ploop rec ws [] to = some (l, to1)) (hb : to1.length + 1 ≤ 2 ^ 30)
    (h : ∀ σ', Keep x σ σ' → Maker σ' x fv (to1 ++ [l]) → R (.ret (.int .i64 to1.length)) σ') : ACalls Tryd.prog G 37 [.ptr x 0, .int .i64 at_] σ R := by
  refine mergeOr ?_
  have hf' := hf
  obtain ⟨b, rows, rfl, hrows⟩ := hf
  obtain ⟨row, hr, hrow⟩ := hrows.get hw
  have hlen := hl ws (List.mem_of_getElem? hw)
  refine list_row IH gr hm h0 hr hrow hlen hp hb fun a τ a0 a5 k m => ?_
  have key : (a 5).cells = [a 5] ∧ (a 5).known = true ∧ (a 5).one = true := by
    rcases a5 with ⟨_, e⟩ | ⟨f, e, _⟩ <;> rw [e] <;> simp
  exact list_fin m a0 rfl key.1 key.2.1 key.2.2 hb fun τ' tos ht e1 e2 e3 e4 e5 => list_end hf' ⟨hm.2.1.1, hm.2.1.2, hm.not0⟩ k m a5 ht e1 e2 e3 e4 e5 h

/-- THE LIST-MAKER's CONTRACT. -/
theorem plist_ok {G : Env} {x fv} {frm : To} (hf : FromV fv frm) (hl : ∀ ws ∈ frm, ws.length ≤ 2 ^ 30) : ∀ k, RecOk G x fv (plist frm k)
  | 0, _, _, _, _, _, _, _, h, _, _ => by simp [plist] at h
  | k + 1, σ, at_, to, n, to', R, hm, h, hb, hR => by
    unfold plist at h
    split at h
    · cases h
    rename_i h0
    split at h
    · cases h
    rename_i ws hw
    split at h
    · cases h
    rename_i l to1 h1
    cases h
    exact list_calls (plist_ok hf hl k) (plist_grows frm k) hf hl hm (by omega) hw h1 (by simpa using hb) hR
end Go.Proofs.YthifgodgfhbnfaaDoor.Al
set_option linter.unusedSimpArgs false
set_option linter.unusedVariables false
namespace Go.Proofs.YthifgodgfhbnfaaDoor.Al
open Go Go.Abs Go.Proofs.YthifgodgfhbnfaaDoor
theorem Adds.mrg {σ σ' : AS} {f : Nat} {p : Nat → Bool} (h : Adds σ σ') (hf : σ.nf ≤ f) (hp : ∀ o, o < σ.no → p o = false) : Adds σ (σ'.mrg f p) where
  no := h.no
  nf := h.nf
  obj o a := by simp [AS.mrg, hp o a]; exact h.obj o a
  fam g a := by simp [AS.mrg, mrgF]; rw [if_neg (by omega)]; exact h.fam g a
/-- a list of numbers in the family 0, or an empty one -/
def IntsE (v : AV) (l : List Int) : Prop := (l = [] ∧ (v = .nilsl ∨ ∃ b, v = .sl (.stat b) 1 [])) ∨ ∃ b, v = .sl (.fam 0 b) 1 (l.map (.int .i64))
theorem IntsE.one {v l} (h : IntsE v l) : v.known = true ∧ v.one = true ∧ v.cells = [v] := by
  rcases h with ⟨_, rfl | ⟨b, rfl⟩⟩ | ⟨b, rfl⟩ <;> simp
def MrgOr (R : Out → AS → Prop) (o : Out) (σ' : AS) : Prop := R o σ' ∨ ∃ v g p, o = .ret v ∧ 0 < σ'.nf ∧ σ'.F g = .alive ∧ R (.ret (mrg g v)) (σ'.mrg g p)
theorem merging {P : Program} {G : Env} {f : FuncId} {args : List AV} {σ : AS} {R : Out → AS → Prop} (h : ACalls P G f args σ (MrgOr R)) : ACalls P G f args σ R := mergeOr h
theorem MrgOr.merged {R : Out → AS → Prop} {v : AV} {σ' : AS} (g : Nat) (p : Nat → Bool) (hn : 0 < σ'.nf) (h : σ'.F g = .alive) (h2 : R (.ret (mrg g v)) (σ'.mrg g p)) : MrgOr R (.ret v) σ' := .inr ⟨v, g, p, rfl, hn, h, h2⟩
theorem cloneE_calls {G : Env} {σ : AS} {v : AV} {l : List Int} {R : Out → AS → Prop} (h0 : 0 < σ.nf) (hv : IntsV v l) (hl : l.length ≤ 2 ^ 30) (h : ∀ v' σ', IntsE v' l → Adds σ σ' → R (.ret v') σ') : ACalls Tryd.prog G 38 [v] σ R := by
  refine merging (calls38 rfl ?_)
  rcases hv with ⟨rfl, rfl⟩ | ⟨b, rfl⟩
  · have := h .nilsl σ (.inl ⟨rfl, .inl rfl⟩) (.refl _)
    simp [pc38, aeq]
    exact .inl this
  · cases l with
    | nil =>
      have := h (.sl (.stat true) 1 []) σ (.inl ⟨rfl, .inr ⟨_, rfl⟩⟩) (.refl _)
      simp [pc38, aeq]
      exact .inl this
    | cons n l =>
      have := h (.sl (.fam 0 false) 1 ((n :: l).map (.int .i64))) (σ.newF.mrg σ.nf fun _ => false) (.inr ⟨_, rfl⟩) (Adds.mrg (Adds.refl σ).newF (Nat.le_refl _) fun _ _ => rfl)
      simp at hl
      simp [pc38, aeq]
      refine ⟨by omega, .merged σ.nf (fun _ => false) (by simp) (by simp) ?_⟩
      simpa [Function.comp_def] using this
/-- a function's lists, in a family of their own -/
def LstE (g : Nat) (v : AV) (to : To) : Prop := (to = [] ∧ v = .nilsl) ∨ ∃ tos, v = .sl (.fam g false) 1 tos ∧ All2 RepE tos to
theorem LstE.one {g v l} (h : LstE g v l) : v.known = true ∧ v.one = true ∧ v.cells = [v] := by
  rcases h with ⟨_, rfl⟩ | ⟨tos, rfl, _⟩ <;> simp
theorem list_top {G : Env} {x : Nat} {fv : AV} {frm : To} (hf : FromV fv frm) (hl : ∀ ws ∈ frm, ws.length ≤ 2 ^ 30) {k : Nat} {σ : AS} {at_ n : Int} {to : To} {R : Out → AS → Prop} (h00 : 0 < σ.nf ∧ σ.F 0 = .alive) (hx : x < σ.no) (ho : σ.objs x = some [fv, .nilsl])
    (hp : plist frm k at_ [] = some (n, to)) (hb : to.length ≤ 2 ^ 30)
    (h : ∀ σ' tv g, σ.no ≤ σ'.no → σ.nf ≤ σ'.nf → (∀ o, o < σ.no → o ≠ x → σ'.objs o = σ.objs o) → (∀ f, f < σ.nf → σ'.F f = σ.F f) → σ'.objs x = some [fv, tv] → LstE g tv to → (to ≠ [] → σ.nf ≤ g ∧ g < σ'.nf ∧ σ'.F g = .alive) → R (.ret (.int .i64 n)) σ') : ACalls Tryd.prog G 37 [.ptr x 0, .int .i64 at_] σ R := by
  have hu : ∀ f, ¬ Uses σ x f := fun f ⟨fv', tv', h1, h2⟩ => by rw [ho] at h1; simp at h1; obtain ⟨rfl, rfl⟩ := h1; simp [famOf] at h2
  refine plist_ok hf hl k σ at_ [] n to _ ⟨hx, h00, _, ho, .inl ⟨rfl, rfl⟩⟩ hp hb fun σ' K ⟨m1, m0, tv, m2, m3⟩ => ?_
  rcases m3 with ⟨e, rfl⟩ | ⟨g, tos, rfl, g1, g2, g0, g3⟩
  · exact h σ' _ 0 K.no K.nf K.obj (fun f hf => K.fam f hf (hu f)) m2 (.inl ⟨e, rfl⟩) fun q => absurd e q
  · have hg : σ.nf ≤ g := by
      by_cases hlt : g < σ.nf
      · exact absurd (K.use g hlt ⟨_, _, m2, rfl⟩) (hu g)
      · omega
    exact h σ' _ g K.no K.nf K.obj (fun f hf => K.fam f hf (hu f)) m2 (.inr ⟨_, rfl, g3⟩) fun _ => ⟨hg, g1, g2⟩
theorem plist_ne {frm : To} {k : Nat} {a n : Int} {to to' : To} (h : plist frm k a to = some (n, to')) : to' ≠ [] := by
  cases k with
  | zero => simp [plist] at h
  | succ k =>
    unfold plist at h
    split at h
    · cases h
    split at h
    · cases h
    split at h
    · cases h
    cases h
    simp
/-- a function, its lists in the family g -/
def FVE (v : AV) (p : F × Nat) : Prop := ∃ pv lv tv, v = .agg [.str p.1.name, pv, lv, .int .i64 p.1.type, tv] ∧ IntsE pv p.1.params ∧ IntsE lv p.1.locals ∧ LstE p.2 tv p.1.lists
/-- functions; their lists' families are many -/
structure Gs (τ : AS) (base : Nat) (g : Nat) (gs : List Nat) : Prop where
  nd : gs.Nodup
  each : ∀ x ∈ gs, base ≤ x ∧ x < τ.nf ∧ τ.F x = .alive ∧ x ≠ g
def OutE (τ : AS) (base : Nat) (v : AV) (l : List F) : Prop :=
  (l = [] ∧ v = .nilsl) ∨ ∃ g rows ps, v = .sl (.fam g false) 5 rows ∧ base ≤ g ∧ g < τ.nf ∧ τ.F g = .alive ∧ ps.map Prod.fst = l ∧ All2 FVE rows ps ∧ Gs τ base g (ps.map Prod.snd)
def PI (k : Nat) (σ : AS) (r o : Nat) (fsv : AV) (fs all : List F) (mem mn : Int) (rc : List AV) (a : Nat → AV) (τ : AS) : Prop := ∃ (i : Nat) (done rest : List F) (ov : AV),
  i ≤ fs.length ∧ done.length = i ∧ a 2 = .ptr r 0 ∧ a 3 = .ptr o 0 ∧ a 13 = fsv ∧ a 14 = .int .i64 (fs.length : Int) ∧ a 15 = .int .i64 (i : Int) ∧ τ.objs r = some rc ∧ τ.objs o = some [ov, .int .i64 mem, .int .i64 mn] ∧
  r < τ.no ∧ o < τ.no ∧ OutE τ σ.nf ov done ∧ peepFs k (fs.drop i) = some rest ∧ done ++ rest = all ∧ Adds σ τ
def PM (fs : List F) (a : Nat → AV) (_ : AS) : Nat := match a 15 with
  | .int _ n => fs.length - n.toNat
  | _ => 0

theorem peep_loop {G : Env} {k : Nat} {σ : AS} {r o : Nat} {fsv : AV} {fs all : List F} {mem mn : Int} {rc : List AV} {R : Out → AS → Prop} (hro : r ≠ o) (hr : σ.no ≤ r) (hso : σ.no ≤ o) (hfs : FsV fsv fs) (hlen : fs.length ≤ 2 ^ 30) (hok : ∀ f ∈ fs, FOk k f) (h00 : 0 < σ.nf ∧ σ.F 0 = .alive)
    (fin : ∀ a τ ov, a 2 = .ptr r 0 → a 3 = .ptr o 0 → τ.objs r = some rc → τ.objs o = some [ov, .int .i64 mem, .int .i64 mn] → OutE τ σ.nf ov all → Adds σ τ → avc Tryd.prog G 50 pc13_r1 (afin Tryd.prog [.cell 2 24] R) a τ)
    {a : Nat → AV} {τ : AS} (hI : PI k σ r o fsv fs all mem mn rc a τ) :
    ALoop Tryd.prog G 50 pc13_l1 (ablock 0 (athen (avc Tryd.prog G 50 pc13_r1 (afin Tryd.prog [.cell 2 24] R)) (afin Tryd.prog [.cell 2 24] R))) a τ := by
  refine aloop (PI k σ r o fsv fs all mem mn rc) (PM fs) hI fun a τ hI => ?_
  obtain ⟨i, done, rest, ov, hi, hd, h2, h3, h13, h14, h15, hor, hoo, hrl, hol, hov, hp, hall, hA⟩ := hI
  have hmu : PM fs a τ = fs.length - i := by simp [PM, h15]
  by_cases hlt : i < fs.length
  · have hd' := List.drop_eq_getElem_cons hlt
    rw [hd', peepFs] at hp
    rcases hfs with ⟨rfl, rfl⟩ | ⟨b, rows, rfl, hrows⟩
    · simp at hlt
    obtain ⟨row, hrow, pv, lv, tv, rfl, hpv, hlv, htv⟩ := hrows.get (i := i) (y := fs[i]) (by simp [hlt])
    obtain ⟨ok1, ok2, ok3, ok4, n, to, ok5, ok6⟩ := hok _ (List.getElem_mem hlt)
    have hpf : peepF k fs[i] = some { fs[i] with lists := to } := by simp [peepF, ok5]
    rw [hpf] at hp
    simp only at hp
    generalize fs[i] = f at *
    split at hp
    · cases hp
    rename_i rest' hrest
    simp at hp
    have hrl' := hrows.length
    have htl : FromV tv f.lists := by
      rcases htv with ⟨e, _⟩ | h
      · rw [e] at ok5; cases k <;> simp [plist] at ok5
      · exact h
    obtain ⟨b2, trows, rfl, htr⟩ := htl
    have htll := htr.length
    have hw1 : IntKind.wrap .i64 ((f.lists.length : Int) - 1) = (f.lists.length : Int) - 1 := by rw [wrap_i64] <;> omega
    have hw2 : IntKind.wrap .i64 ((i : Int) + 1) = (i : Int) + 1 := by rw [wrap_i64] <;> omega
    have hlv1 := hlv.one
    have hpv1 := hpv.one
    simp [pc13_l1, h13, h14, h15, hlt, hrow, splice, htll, hw1, hpv1, hlv1]
    have hnf := hA.nf
    have hF0 : τ.F 0 = .alive := (hA.fam 0 h00.1).trans h00.2
    refine list_top ⟨b2, trows, rfl, htr⟩ ok3 ⟨by simp; omega, by simpa using hF0⟩ (by simp) (by simp) ok5 ok6 fun σ1 tv1 g1 n1 n2 e1 e2 e3 htv1 hg1 => ?_
    have hF := e1 τ.no (by simp; omega) (by omega)
    simp at hF
    simp [hF, e3]
    have hO1 := e1 o (by simp; omega) (by omega)
    simp only [newO_objs, setO_objs, setO_no, newO_no, upd_at] at hO1
    rw [if_neg (by omega), if_neg (by omega), if_neg (by omega), hoo] at hO1
    have hR1 := e1 r (by simp; omega) (by omega)
    simp only [newO_objs, setO_objs, setO_no, newO_no, upd_at] at hR1
    rw [if_neg (by omega), if_neg (by omega), if_neg (by omega), hor] at hR1
    simp at n1 n2 e2
    refine cloneE_calls (by omega) hpv ok1 fun pv' σ2 hpv' A2 => ?_
    have hF2 := (A2.obj τ.no (by omega)).trans hF
    have hX2 := (A2.obj (τ.no + 1) (by omega)).trans e3
    have hO2 := (A2.obj o (by omega)).trans hO1
    have hR2 := (A2.obj r (by omega)).trans hR1
    have n3 := A2.no
    have n4 := A2.nf
    simp [hF2, hX2]
    refine cloneE_calls (by have := A2.nf; omega) hlv ok2 fun lv' σ3 hlv' A3 => ?_
    have hF3 := (A3.obj τ.no (by omega)).trans hF2
    have hX3 := (A3.obj (τ.no + 1) (by omega)).trans hX2
    have hO3 := (A3.obj o (by omega)).trans hO2
    have hR3 := (A3.obj r (by omega)).trans hR2
    have n5 := A3.no
    have n6 := A3.nf
    have hpv1' := hpv'.one
    have hlv1' := hlv'.one
    have htv1' := htv1.one
    have hon : ¬ o = τ.no := by omega
    have hrn : ¬ r = τ.no := by omega
    have hpos : ∀ (x y z : AV), (AV.agg [x, y, z, .int .i64 f.type, tv1]).cells.length = 5 := by simp
    have A : Adds σ σ3 := ⟨by have := hA.no; omega, by have := hA.nf; omega, fun p hp => ?_, fun g hg => ?_⟩
    · have hfv : FVE (.agg [.str f.name, pv', lv', .int .i64 f.type, tv1]) ({ f with lists := to }, g1) := ⟨_, _, _, rfl, hpv', hlv', htv1⟩
      obtain ⟨gq1, gq2, gq3⟩ := hg1 (plist_ne ok5)
      have gq4 : σ3.F g1 = .alive := by rw [A3.fam g1 (by omega), A2.fam g1 (by omega)]; exact gq3
      have gq5 := hA.nf
      simp at gq1
      have next : ∀ (a' : Nat → AV) (τ' : AS) (ov' : AV), a' 2 = .ptr r 0 → a' 3 = .ptr o 0 → a' 13 = .sl (.stat b) 5 rows → a' 14 = .int .i64 (fs.length : Int) → a' 15 = .int .i64 ((i : Int) + 1) → τ'.objs r = some rc → τ'.objs o = some [ov', .int .i64 mem, .int .i64 mn] →
          r < τ'.no → o < τ'.no → OutE τ' σ.nf ov' (done ++ [{ f with lists := to }]) → Adds σ τ' → PI k σ r o (.sl (.stat b) 5 rows) fs all mem mn rc a' τ' ∧ PM fs a' τ' < PM fs a τ := by
        intro a' τ' ov' b2 b3 b13 b14 b15 c1 c2 c3 c4 c5 c6
        refine ⟨⟨i + 1, done ++ [{ f with lists := to }], rest', ov', hlt, by simp [hd], b2, b3, b13, b14, by rw [b15]; simp, c1, c2, c3, c4, c5, hrest, ?_, c6⟩, ?_⟩
        · rw [← hall, ← hp]; simp
        · rw [hmu]
          simp only [PM, b15]
          have : ((i : Int) + 1).toNat = i + 1 := by omega
          rw [this]; omega
      rcases hov with ⟨rfl, rfl⟩ | ⟨g, orows, ps, rfl, q1, q2, q3, q4, q5, q6⟩
      · simp [hF3, hX3, hO3, h3, hon, hpv1', hlv1', htv1', h15, hw2, splice]
        refine next _ _ (.sl (.fam σ3.nf false) 5 [.agg [.str f.name, pv', lv', .int .i64 f.type, tv1]]) (by simp [h2]) (by simp [h3]) (by simp [h13]) (by simp [h14]) (by simp) ?_ (by simp) (by simp; omega) (by simp; omega) ?_ ?_
        · simp [hrn, Ne.symm hro, hro, hR3]
        · refine .inr ⟨σ3.nf, _, [({ f with lists := to }, g1)], by simp, by omega, by simp, by simp, by simp, .cons hfv .nil, ⟨by simp, fun x hx => ?_⟩⟩
          simp at hx
          subst hx
          have : x ≠ σ3.nf := by omega
          simp [this, gq4]
          omega
        · exact ((((A.setO (by omega)).setO (by omega)).setO (by omega)).newF).setO hso
      · have ga : σ3.F g = .alive := by rw [A3.fam g (by omega), A2.fam g (by omega), e2 g q2, q3]
        have gl := q5.length
        have gl2 : ps.length = i := by have := congrArg List.length q4; simp at this; omega
        simp [hF3, hX3, hO3, h3, hon, hpv1', hlv1', htv1', h15, hw2, ga, splice]
        refine ⟨by omega, next _ _ (.sl (.fam σ3.nf false) 5 (orows ++ [.agg [.str f.name, pv', lv', .int .i64 f.type, tv1]])) (by simp [h2]) (by simp [h3]) (by simp [h13]) (by simp [h14]) (by simp) ?_ (by simp) (by simp; omega) (by simp; omega) ?_ ?_⟩
        · simp [hrn, Ne.symm hro, hro, hR3]
        · refine .inr ⟨σ3.nf, _, ps ++ [({ f with lists := to }, g1)], by simp, by omega, by simp, by simp, by simp [q4], q5.append (.cons hfv .nil), ⟨?_, fun x hx => ?_⟩⟩
          · rw [List.map_append, List.nodup_append]
            refine ⟨q6.nd, by simp, fun x hx y hy e => ?_⟩
            have := (q6.each x hx).2.1
            simp at hy
            omega
          · rw [List.map_append, List.mem_append] at hx
            rcases hx with hx | hx
            · obtain ⟨u1, u2, u3, u4⟩ := q6.each x hx
              have u5 : σ3.F x = .alive := by rw [A3.fam x (by omega), A2.fam x (by omega), e2 x u2, u3]
              have u6 : x ≠ σ3.nf := by omega
              simp [u4, u5, u6]
              omega
            · simp at hx
              subst hx
              have u6 : x ≠ σ3.nf := by omega
              have u4 : x ≠ g := by omega
              simp [u4, u6, gq4]
              omega
        · exact ((((A.setO (by omega)).setO (by omega)).setO (by omega)).setF q1).newF.setO hso
    · have := hA.no
      rw [A3.obj p (by omega), A2.obj p (by omega), e1 p (by simp; omega) (by omega)]
      simp
      rw [if_neg (by omega), if_neg (by omega), if_neg (by omega)]
      exact hA.obj p hp
    · have := hA.nf
      rw [A3.fam g (by omega), A2.fam g (by omega), e2 g (by omega), hA.fam g hg]
  · have he : i = fs.length := by omega
    subst he
    simp [peepFs] at hp
    subst hp
    simp at hall
    subst hall
    simp [pc13_l1, h14, h15]
    exact fin _ _ _ (by simpa using h2) (by simpa using h3) hor hoo hov hA
end Go.Proofs.YthifgodgfhbnfaaDoor.Al
set_option linter.unusedSimpArgs false
set_option linter.unusedVariables false
namespace Go.Proofs.YthifgodgfhbnfaaDoor.Al
open Go Go.Abs Go.Proofs.YthifgodgfhbnfaaDoor
/-- a module that may still be written -/
def ME (τ : AS) (base : Nat) (v : AV) (m : M) : Prop := ∃ fv, v = .agg [fv, .int .i64 m.memory, .int .i64 m.main] ∧ OutE τ base fv m.funcs
/-- PEEP's CONTRACT. -/
theorem peep_calls {G : Env} {k : Nat} {m : M} {mv : AV} {fs' : List F} {σ : AS} {R : Out → AS → Prop} (hm : MV mv m) (hlen : m.funcs.length ≤ 2 ^ 30) (hok : ∀ f ∈ m.funcs, FOk k f) (h00 : 0 < σ.nf ∧ σ.F 0 = .alive) (hp : peepFs k m.funcs = some fs')
    (h : ∀ v' σ', ME σ' σ.nf v' ⟨fs', m.memory, m.main⟩ → Adds σ σ' → R (.ret v') σ') : ACalls Tryd.prog G 13 [mv] σ R := by
  refine calls13 rfl ?_
  obtain ⟨fsv, rfl, hfs⟩ := hm
  have h1 := hfs.one
  have fin : ∀ (rc : List AV) (a : Nat → AV) (τ : AS) (ov : AV), rc.length = 3 → a 2 = .ptr (σ.no + 1) 0 → a 3 = .ptr (σ.no + 1 + 1) 0 → τ.objs (σ.no + 1) = some rc → τ.objs (σ.no + 1 + 1) = some [ov, .int .i64 m.memory, .int .i64 m.main] → OutE τ σ.nf ov fs' → Adds σ τ →
      avc Tryd.prog G 50 pc13_r1 (afin Tryd.prog [.cell 2 24] R) a τ := by
    intro rc a τ ov hrc a2 a3 o1 o2 hov hA
    obtain ⟨x, y, z, rfl⟩ : ∃ x y z, rc = [x, y, z] := by
      match rc, hrc with
      | [x, y, z], _ => exact ⟨x, y, z, rfl⟩
    have hov' : ∀ p cs, OutE (τ.setO p cs) σ.nf ov fs' := fun p cs => by
      rcases hov with h | ⟨g, rows, ps, q0, q1, q2, q3, q4, q5, q6⟩
      · exact .inl h
      · exact .inr ⟨g, rows, ps, q0, q1, q2, q3, q4, q5, q6.nd, q6.each⟩
    have o3 : ov.known = true ∧ ov.one = true ∧ ov.cells = [ov] := by
      rcases hov with ⟨_, rfl⟩ | ⟨g, rows, ps, rfl, _⟩ <;> simp
    simp [pc13_r1, a2, a3, o1, o2, o3, splice]
    exact h _ _ ⟨ov, rfl, hov' _ _⟩ (hA.setO (by omega))
  have start : ∀ a rc τ, τ.objs (σ.no + 1) = some rc → rc.length = 3 → τ.objs (σ.no + 1 + 1) = some [.nilsl, .int .i64 m.memory, .int .i64 m.main] → σ.no + 1 + 1 < τ.no → Adds σ τ → a 2 = .ptr (σ.no + 1) 0 → a 3 = .ptr (σ.no + 1 + 1) 0 → a 13 = fsv → a 14 = .int .i64 (m.funcs.length : Int) → a 15 = .int .i64 0 →
      ALoop Tryd.prog G 50 pc13_l1 (ablock 0 (athen (avc Tryd.prog G 50 pc13_r1 (afin Tryd.prog [.cell 2 24] R)) (afin Tryd.prog [.cell 2 24] R))) a τ := by
    intro a rc τ o1 hrc o2 o3 hA a2 a3 a13 a14 a15
    exact peep_loop (r := σ.no + 1) (o := σ.no + 1 + 1) (σ := σ) (rc := rc) (k := k) (by omega) (by omega) (by omega) hfs hlen hok h00 (fun a τ ov b2 b3 c1 c2 c3 c4 => fin rc a τ ov hrc b2 b3 c1 c2 c3 c4)
      ⟨0, [], fs', .nilsl, by omega, rfl, a2, a3, a13, a14, by simpa using a15, o1, o2, by omega, o3, .inl ⟨rfl, rfl⟩, by simpa using hp, by simp, hA⟩
  clear fin
  have A0 : ∀ c1 c2 c3 c4, Adds σ ((((σ.newO c1).newO c2).newO c3).setO (σ.no + 1 + 1) c4) := fun _ _ _ _ => ((((Adds.refl σ).newO).newO).newO).setO (by omega)
  have e2 : ¬ σ.no = σ.no + 1 + 1 := by omega
  have e1 : ¬ σ.no + 1 = σ.no + 1 + 1 := by omega
  rcases hfs with ⟨e, rfl⟩ | ⟨b, rows, rfl, hr⟩
  · simp [pc13, splice, e1, e2]
    refine start _ [.nilsl, .int .i64 0, .int .i64 0] _ ?_ rfl ?_ ?_ (A0 _ _ _ _) ?_ ?_ ?_ ?_ ?_ <;> simp [e]
  · have hl := hr.length
    simp [pc13, splice, e1, e2]
    refine start _ [.nilsl, .int .i64 0, .int .i64 0] _ ?_ rfl ?_ ?_ (A0 _ _ _ _) ?_ ?_ ?_ ?_ ?_ <;> simp [hl]
end Go.Proofs.YthifgodgfhbnfaaDoor.Al
set_option linter.unusedSimpArgs false
set_option linter.unusedVariables false
namespace Go.Proofs.YthifgodgfhbnfaaDoor.Al
open Go Go.Abs Go.Proofs.YthifgodgfhbnfaaDoor
/-- all stands but for the families of S, of which none ends -/
structure Spo (S : Nat → Prop) (σ σ' : AS) : Prop where
  no : σ.no ≤ σ'.no
  nf : σ.nf ≤ σ'.nf
  obj : ∀ o, o < σ.no → σ'.objs o = σ.objs o
  fam : ∀ k, k < σ.nf → ¬ S k → σ'.F k = σ.F k
  live : ∀ k, k < σ.nf → σ.F k ≠ .dead → σ'.F k ≠ .dead
theorem Spo.refl (S σ) : Spo S σ σ := ⟨Nat.le_refl _, Nat.le_refl _, fun _ _ => rfl, fun _ _ _ => rfl, fun _ _ h => h⟩
theorem Spo.trans {S σ σ1 σ2} (h : Spo S σ σ1) (k : Spo S σ1 σ2) : Spo S σ σ2 where
  no := Nat.le_trans h.no k.no
  nf := Nat.le_trans h.nf k.nf
  obj o a := by rw [k.obj o (Nat.lt_of_lt_of_le a h.no), h.obj o a]
  fam f a b := by rw [k.fam f (Nat.lt_of_lt_of_le a h.nf) b, h.fam f a b]
  live f a b := k.live f (Nat.lt_of_lt_of_le a h.nf) (h.live f a b)
theorem Spo.mono {S T : Nat → Prop} {σ σ'} (h : Spo S σ σ') (hs : ∀ k, S k → T k) : Spo T σ σ' := ⟨h.no, h.nf, h.obj, fun k a b => h.fam k a fun q => b (hs k q), h.live⟩
theorem Spo.adds {S σ σ1 σ2} (h : Spo S σ σ1) (k : Adds σ1 σ2) : Spo S σ σ2 := h.trans ⟨k.no, k.nf, k.obj, fun f a _ => k.fam f a, fun f a b => by rw [k.fam f a]; exact b⟩
theorem Spo.spoil {S : Nat → Prop} {σ σ1} (h : Spo S σ σ1) {g : Nat} (hg : S g) : Spo S σ (σ1.setF g .spoiled) where
  no := h.no
  nf := h.nf
  obj := h.obj
  fam k a b := by
    have : k ≠ g := fun e => b (e ▸ hg)
    simp [this]; exact h.fam k a b
  live k a b := by
    by_cases e : k = g
    · subst e; simp
    · simp [e]; exact h.live k a b
def SpI (v : AV) (n : Nat) (S : Nat → Prop) (σ : AS) (a : Nat → AV) (τ : AS) : Prop := ∃ i : Nat, i ≤ n ∧ a 0 = v ∧ a 2 = .int .i64 (i : Int) ∧ Spo S σ τ
theorem markInts_calls {G : Env} {n : Int} {σ : AS} {R : Out → AS → Prop} (h : ∀ k, R (.ret (.int .i64 k)) σ) : ACalls Tryd.prog G 62 [.int .i64 n] σ R := by
  refine calls62 rfl ?_
  simp [pc62]
  exact h _
theorem markWs_calls {G : Env} {n : Int} {σ : AS} {R : Out → AS → Prop} (h : ∀ (w : W) σ', Adds σ σ' → R (.ret w.av) σ') : ACalls Tryd.prog G 63 [.int .i64 n] σ R := by
  refine calls63 rfl ?_
  simp [pc63, splice]
  exact h ⟨_, 0, 0, 0, 0, []⟩ _ .mk1
theorem markLists_calls {G : Env} {n : Int} {σ : AS} {R : Out → AS → Prop} (h : ∀ v, v.known = true → v.one = true → v.cells = [v] → R (.ret v) σ) : ACalls Tryd.prog G 64 [.int .i64 n] σ R := by
  refine calls64 rfl ?_
  simp [pc64, splice]
  exact h _ (by simp) (by simp) (by simp)
theorem markFs_calls {G : Env} {n : Int} {σ : AS} {R : Out → AS → Prop} (h : ∀ t σ', Adds σ σ' → R (.ret (.agg [.str [], .nilsl, .nilsl, .int .i64 t, .nilsl])) σ') : ACalls Tryd.prog G 65 [.int .i64 n] σ R := by
  refine calls65 rfl ?_
  simp [pc65, splice]
  exact h _ _ .mk1
theorem spoilInts_calls {G : Env} {v : AV} {l : List Int} {σ : AS} {R : Out → AS → Prop} (hv : IntsE v l) (hl : l.length ≤ 2 ^ 40) (h0 : 0 < σ.nf ∧ σ.F 0 ≠ .dead) (h : ∀ σ', Spo (· = 0) σ σ' → R (.ret (.tuple [])) σ') : ACalls Tryd.prog G 41 [v] σ R := by
  refine calls41 rfl ?_
  simp [pc41]
  refine aloop (SpI v l.length (· = 0) σ) (MU 2 (l.length + 1)) ⟨0, by omega, by simp, by simp, .refl _ _⟩ fun a τ hI => ?_
  obtain ⟨i, hi, a0, a2, hS⟩ := hI
  have w1 : IntKind.wrap .i64 ((i : Int) + 1) = ((i + 1 : Nat) : Int) := by rw [wrap_i64] <;> omega
  rcases hv with ⟨rfl, rfl | ⟨b, rfl⟩⟩ | ⟨b, rfl⟩
  · have : i = 0 := by simpa using hi
    subst this
    simp [pc41_l1, a0, a2]
    exact h _ hS
  · have : i = 0 := by simpa using hi
    subst this
    simp [pc41_l1, a0, a2]
    exact h _ hS
  · by_cases hlt : i < l.length
    · have hlt' : (i : Int) < (l.length : Int) := by omega
      have hd := hS.live 0 h0.1 h0.2
      simp [pc41_l1, a0, a2, hlt']
      refine markInts_calls fun k => ?_
      simp [a0, a2, hlt, hd, w1]
      refine ⟨⟨i + 1, by omega, by simp [a0], by simp, hS.spoil rfl⟩, ?_⟩
      simp only [MU, a2]; simp; omega
    · have hlt' : ¬ (i : Int) < (l.length : Int) := by omega
      simp [pc41_l1, a0, a2, hlt']
      exact h _ hS
theorem spoilWs_calls {G : Env} {v : AV} {l : List W} {σ : AS} {R : Out → AS → Prop} (hv : RepE v l) (hl : l.length ≤ 2 ^ 40) (h0 : 0 < σ.nf ∧ σ.F 0 ≠ .dead) (h : ∀ σ', Spo (· = 0) σ σ' → R (.ret (.tuple [])) σ') : ACalls Tryd.prog G 42 [v] σ R := by
  refine calls42 rfl ?_
  simp [pc42]
  refine aloop (SpI v l.length (· = 0) σ) (MU 2 (l.length + 1)) ⟨0, by omega, by simp, by simp, .refl _ _⟩ fun a τ hI => ?_
  obtain ⟨i, hi, a0, a2, hS⟩ := hI
  have w1 : IntKind.wrap .i64 ((i : Int) + 1) = ((i + 1 : Nat) : Int) := by rw [wrap_i64] <;> omega
  rcases hv with ⟨rfl, rfl⟩ | ⟨b, rfl⟩
  · have : i = 0 := by simpa using hi
    subst this
    simp [pc42_l1, a0, a2]
    exact h _ hS
  · by_cases hlt : i < l.length
    · have hlt' : (i : Int) < (l.length : Int) := by omega
      simp [pc42_l1, a0, a2, hlt']
      refine markWs_calls fun w σ1 A1 => ?_
      have hS1 := hS.adds A1
      have hd := hS1.live 0 h0.1 h0.2
      simp [W.av, W.cs, a0, a2, hlt, hd, w1]
      refine ⟨⟨i + 1, by omega, by simp [a0, W.av, W.cs], by simp, hS1.spoil rfl⟩, ?_⟩
      simp only [MU, a2]; simp; omega
    · have hlt' : ¬ (i : Int) < (l.length : Int) := by omega
      simp [pc42_l1, a0, a2, hlt']
      exact h _ hS
theorem RepE.one {v l} (h : RepE v l) : v.known = true ∧ v.one = true ∧ v.cells = [v] := by
  rcases h with ⟨_, rfl⟩ | ⟨b, rfl⟩ <;> simp
theorem spoilLists_calls {G : Env} {g : Nat} {v : AV} {l : To} {σ : AS} {R : Out → AS → Prop} (hv : LstE g v l) (hl : l.length ≤ 2 ^ 40) (h0 : l ≠ [] → g < σ.nf ∧ σ.F g ≠ .dead) (h : ∀ σ', Spo (· = g) σ σ' → R (.ret (.tuple [])) σ') : ACalls Tryd.prog G 43 [v] σ R := by
  refine calls43 rfl ?_
  simp [pc43]
  refine aloop (SpI v l.length (· = g) σ) (MU 2 (l.length + 1)) ⟨0, by omega, by simp, by simp, .refl _ _⟩ fun a τ hI => ?_
  obtain ⟨i, hi, a0, a2, hS⟩ := hI
  have w1 : IntKind.wrap .i64 ((i : Int) + 1) = ((i + 1 : Nat) : Int) := by rw [wrap_i64] <;> omega
  rcases hv with ⟨rfl, rfl⟩ | ⟨tos, rfl, ht⟩
  · have : i = 0 := by simpa using hi
    subst this
    simp [pc43_l1, a0, a2]
    exact h _ hS
  · have hlen := ht.length
    by_cases hlt : i < l.length
    · have hlt' : (i : Int) < (l.length : Int) := by omega
      obtain ⟨u, hu, hru⟩ := ht.get (List.getElem?_eq_getElem hlt)
      have u1 := hru.one
      have hne : l ≠ [] := by rintro rfl; simp at hlt
      have hd := hS.live g (h0 hne).1 (h0 hne).2
      simp [pc43_l1, a0, a2, hlen, hlt']
      refine markLists_calls fun v v1 v2 v3 => ?_
      simp [a0, a2, hu, u1, v1, v2, v3, hd, w1]
      refine ⟨⟨i + 1, by omega, by simp [a0], by simp, hS.spoil rfl⟩, ?_⟩
      simp only [MU, a2]; simp; omega
    · have hlt' : ¬ (i : Int) < (l.length : Int) := by omega
      simp [pc43_l1, a0, a2, hlen, hlt']
      exact h _ hS
theorem spoilFs_calls {G : Env} {g : Nat} {rows : List AV} {ps : List (F × Nat)} {σ : AS} {R : Out → AS → Prop} (hr : All2 FVE rows ps) (hl : ps.length ≤ 2 ^ 40) (h0 : g < σ.nf ∧ σ.F g ≠ .dead) (h : ∀ σ', Spo (· = g) σ σ' → R (.ret (.tuple [])) σ') : ACalls Tryd.prog G 44 [.sl (.fam g false) 5 rows] σ R := by
  refine calls44 rfl ?_
  have hlen := hr.length
  simp [pc44]
  refine aloop (SpI (.sl (.fam g false) 5 rows) ps.length (· = g) σ) (MU 2 (ps.length + 1)) ⟨0, by omega, by simp, by simp, .refl _ _⟩ fun a τ hI => ?_
  obtain ⟨i, hi, a0, a2, hS⟩ := hI
  have w1 : IntKind.wrap .i64 ((i : Int) + 1) = ((i + 1 : Nat) : Int) := by rw [wrap_i64] <;> omega
  by_cases hlt : i < ps.length
  · have hlt' : (i : Int) < (ps.length : Int) := by omega
    obtain ⟨u, hu, pv, lv, tv, rfl, hp, hll, ht⟩ := hr.get (List.getElem?_eq_getElem hlt)
    have p1 := hp.one
    have l1 := hll.one
    have t1 := ht.one
    simp [pc44_l1, a0, a2, hlen, hlt']
    refine markFs_calls fun t σ1 A1 => ?_
    have hS1 := hS.adds A1
    have hd := hS1.live g h0.1 h0.2
    simp [a0, a2, hu, p1, l1, t1, hd, w1]
    refine ⟨⟨i + 1, by omega, by simp [a0], by simp, hS1.spoil rfl⟩, ?_⟩
    simp only [MU, a2]; simp; omega
  · have hlt' : ¬ (i : Int) < (ps.length : Int) := by omega
    simp [pc44_l1, a0, a2, hlen, hlt']
    exact h _ hS
end Go.Proofs.YthifgodgfhbnfaaDoor.Al
set_option linter.unusedSimpArgs false
set_option linter.unusedVariables false
namespace Go.Proofs.YthifgodgfhbnfaaDoor.Al
open Go Go.Abs Go.Proofs.YthifgodgfhbnfaaDoor
def Sp (base : Nat) (k : Nat) : Prop := k = 0 ∨ base ≤ k
def SMO (mb g base : Nat) (rows : List AV) (ps : List (F × Nat)) (mem mn : Int) (σ : AS) (a : Nat → AV) (τ : AS) : Prop := ∃ i : Nat, i ≤ ps.length ∧ a 1 = .ptr mb 0 ∧ a 2 = .int .i64 (i : Int) ∧ τ.objs mb = some [.sl (.fam g false) 5 rows, .int .i64 mem, .int .i64 mn] ∧ mb < τ.no ∧ Spo (Sp base) σ τ ∧ τ.F g = .alive ∧
  (0 < τ.nf ∧ τ.F 0 ≠ .dead) ∧ g < τ.nf ∧ ∀ (j : Nat) p, i ≤ j → ps[j]? = some p → p.2 < τ.nf ∧ τ.F p.2 = .alive
def SMI (mb g base : Nat) (rows : List AV) (ps : List (F × Nat)) (mem mn : Int) (σ : AS) (i n : Nat) (a : Nat → AV) (τ : AS) : Prop := ∃ k : Nat, k ≤ n ∧ a 1 = .ptr mb 0 ∧ a 2 = .int .i64 (i : Int) ∧ a 3 = .int .i64 (k : Int) ∧ τ.objs mb = some [.sl (.fam g false) 5 rows, .int .i64 mem, .int .i64 mn] ∧ mb < τ.no ∧ Spo (Sp base) σ τ ∧ τ.F g = .alive ∧
  (0 < τ.nf ∧ τ.F 0 ≠ .dead) ∧ g < τ.nf ∧ ∀ (j : Nat) p, i ≤ j → ps[j]? = some p → p.2 < τ.nf ∧ τ.F p.2 = .alive
set_option maxHeartbeats 4000000 in
theorem spoilM_calls {G : Env} {base : Nat} {v : AV} {m : M} {σ : AS} {R : Out → AS → Prop} (hm : ME σ base v m) (hb0 : 0 < base) (hl : m.funcs.length ≤ 2 ^ 30) (h1 : ∀ f ∈ m.funcs, f.params.length ≤ 2 ^ 40) (h2 : ∀ f ∈ m.funcs, f.locals.length ≤ 2 ^ 40) (h3 : ∀ f ∈ m.funcs, f.lists.length ≤ 2 ^ 40) (h4 : ∀ f ∈ m.funcs, ∀ r ∈ f.lists, r.length ≤ 2 ^ 40)
    (h00 : 0 < σ.nf ∧ σ.F 0 ≠ .dead) (h : ∀ σ', Spo (Sp base) σ σ' → R (.ret (.tuple [])) σ') : ACalls Tryd.prog G 16 [v] σ R := by
  refine calls16 rfl ?_
  obtain ⟨fv, rfl, hov⟩ := hm
  rcases hov with ⟨hn, rfl⟩ | ⟨g, rows, ps, rfl, q1, q2, q3, q4, q5, q6⟩
  · simp [pc16]
    refine aloop (fun a τ => a 1 = .ptr σ.no 0 ∧ a 2 = .int .i64 0 ∧ τ = σ.newO [.nilsl, .int .i64 m.memory, .int .i64 m.main]) (fun _ _ => 0) ⟨by simp, by simp, by simp⟩ fun a τ hI => ?_
    obtain ⟨a1, a2, rfl⟩ := hI
    simp [pc16_l2, pc16_r3, a1, a2]
    refine calls44 rfl ?_
    simp [pc44]
    refine aloop (fun a τ => a 0 = .nilsl ∧ a 2 = .int .i64 0 ∧ τ = σ.newO [.nilsl, .int .i64 m.memory, .int .i64 m.main]) (fun _ _ => 0) ⟨by simp, by simp, by simp⟩ fun a τ hI => ?_
    obtain ⟨a0, a2, rfl⟩ := hI
    simp [pc44_l1, a0, a2]
    exact h _ ((Spo.refl _ _).adds (Adds.refl σ).newO)
  · have hrl := q5.length
    have hpl : ps.length = m.funcs.length := by rw [← q4]; simp
    simp [pc16]
    have hs1 : Spo (Sp base) σ (σ.newO [AV.sl (Own.fam g false) 5 rows, AV.int IntKind.i64 m.memory, AV.int IntKind.i64 m.main]) := (Spo.refl _ _).adds (Adds.refl σ).newO
    have hin : ∀ p ∈ ps, p.1 ∈ m.funcs := fun p hp => by rw [← q4]; exact List.mem_map_of_mem hp
    have hgs : ∀ p ∈ ps, base ≤ p.2 ∧ p.2 < σ.nf ∧ σ.F p.2 = .alive ∧ p.2 ≠ g := fun p hp => q6.each _ (List.mem_map_of_mem hp)
    refine aloop (SMO σ.no g base rows ps m.memory m.main σ) (MU 2 (ps.length + 1)) ⟨0, by omega, by simp, by simp, by simp, by simp, hs1, by simpa using q3, ⟨by simpa using h00.1, by simpa using h00.2⟩, by simpa using q2, fun j p _ hp => ⟨by simpa using (hgs p (List.mem_of_getElem? hp)).2.1, by simpa using (hgs p (List.mem_of_getElem? hp)).2.2.1⟩⟩ fun a τ hI => ?_
    obtain ⟨i, hi, a1, a2, hob, hlt0, hS, hg, h0, hgn, hal⟩ := hI
    by_cases hlt : i < ps.length
    · have hlt' : (i : Int) < (ps.length : Int) := by omega
      have hpi : ps[i]? = some ps[i] := List.getElem?_eq_getElem hlt
      obtain ⟨u, hu, pv, lv, tv, rfl, hp, hll, ht⟩ := q5.get hpi
      have hmem := List.getElem_mem hlt
      have b1 := h1 _ (hin _ hmem)
      have b2 := h2 _ (hin _ hmem)
      have b3 := h3 _ (hin _ hmem)
      have b4 := h4 _ (hin _ hmem)
      have hgi := hgs _ hmem
      have hnd := q6.nd
      have hdis : ∀ (j : Nat) p, i + 1 ≤ j → ps[j]? = some p → p.2 ≠ ps[i].2 := fun j p hj hp e => by
        obtain ⟨hjl, rfl⟩ := List.getElem?_eq_some_iff.1 hp
        have hpw := List.pairwise_iff_getElem.1 hnd i j (by simpa using hlt) (by simpa using hjl) (by omega)
        simp only [List.getElem_map] at hpw
        exact hpw e.symm
      generalize ps[i] = p at *
      have p1 := hp.one
      have l1 := hll.one
      have t1 := ht.one
      simp [pc16_l2, a1, a2, hob, hrl, hlt', hu, p1, l1, t1, hg]
      refine spoilInts_calls hp b1 h0 fun σ2 s2 => ?_
      have ob2 := (s2.obj _ hlt0).trans hob
      have g2 : σ2.F g = .alive := (s2.fam g hgn (by omega)).trans hg
      have n2 := s2.no
      have f2 := s2.nf
      have S2 : Spo (Sp base) σ σ2 := hS.trans (s2.mono fun k hk => .inl hk)
      have z2 : 0 < σ2.nf ∧ σ2.F 0 ≠ .dead := ⟨by omega, s2.live 0 h0.1 h0.2⟩
      simp [a1, a2, ob2, hu, p1, l1, t1, g2]
      refine spoilInts_calls hll b2 z2 fun σ3 s3 => ?_
      have ob3 := (s3.obj _ (by omega)).trans ob2
      have g3 : σ3.F g = .alive := (s3.fam g (by omega) (by omega)).trans g2
      have n3 := s3.no
      have f3 := s3.nf
      have S3 : Spo (Sp base) σ σ3 := S2.trans (s3.mono fun k hk => .inl hk)
      have z3 : 0 < σ3.nf ∧ σ3.F 0 ≠ .dead := ⟨by omega, s3.live 0 z2.1 z2.2⟩
      have al3 : ∀ (j : Nat) p, i ≤ j → ps[j]? = some p → p.2 < σ3.nf ∧ σ3.F p.2 = .alive := fun j p hj hp => by
        obtain ⟨x1, x2⟩ := hal j p hj hp
        have := (hgs p (List.mem_of_getElem? hp)).1
        exact ⟨by omega, by rw [s3.fam _ (by omega) (by omega), s2.fam _ (by omega) (by omega)]; exact x2⟩
      simp [a1, a2]
      refine aloop (SMI σ.no g base rows ps m.memory m.main σ i p.1.lists.length) (MU 3 (p.1.lists.length + 1)) ⟨0, by omega, by simp [a1], by simp [a2], by simp, ob3, by omega, S3, g3, z3, by omega, al3⟩ fun c ρ hJ => ?_
      obtain ⟨k, hk, c1, c2, c3, obk, hltk, Sk, gk, zk, gnk, alk⟩ := hJ
      have aik := alk i p (Nat.le_refl _) hpi
      by_cases hkl : k < p.1.lists.length
      · have hkl' : (k : Int) < (p.1.lists.length : Int) := by omega
        have w2 : IntKind.wrap .i64 ((k : Int) + 1) = ((k + 1 : Nat) : Int) := by rw [wrap_i64] <;> omega
        rcases ht with ⟨he, _⟩ | ⟨tos, rfl, htr⟩
        · rw [he] at hkl; simp at hkl
        have htl := htr.length
        obtain ⟨rv, hrv, hre⟩ := htr.get (List.getElem?_eq_getElem hkl)
        have hrow := b4 _ (List.getElem_mem hkl)
        have r1 := hre.one
        generalize p.1.lists[k] = row at *
        simp [pc16_l1, c1, c2, c3, obk, hu, p1, l1, gk, htl, hkl', hrv, r1, aik.2]
        refine spoilWs_calls hre hrow zk fun σ4 s4 => ?_
        have f4 := s4.nf
        have n4 := s4.no
        simp [c1, c2, c3, w2]
        refine ⟨⟨k + 1, by omega, by simp [c1], by simp [c2], by simp, (s4.obj _ hltk).trans obk, by omega, Sk.trans (s4.mono fun k hk => .inl hk), (s4.fam g gnk (by omega)).trans gk, ⟨by omega, s4.live 0 zk.1 zk.2⟩, by omega, fun j p hj hp => ?_⟩, ?_⟩
        · obtain ⟨x1, x2⟩ := alk j p hj hp
          have := (hgs p (List.mem_of_getElem? hp)).1
          exact ⟨by omega, by rw [s4.fam _ (by omega) (by omega)]; exact x2⟩
        · simp only [MU, c3]; simp; omega
      · have hkl' : ¬ (k : Int) < (p.1.lists.length : Int) := by omega
        have htlen : ∀ K : AV → Prop, alen Tryd.prog 35 tv K = K (.int .i64 (p.1.lists.length : Int)) := fun K => by
          rcases ht with ⟨he, rfl⟩ | ⟨tos, rfl, htr⟩
          · simp [he]
          · simp [htr.length]
        have w1 : IntKind.wrap .i64 ((i : Int) + 1) = ((i + 1 : Nat) : Int) := by rw [wrap_i64] <;> omega
        simp [pc16_l1, pc16_r1, c1, c2, c3, obk, hu, p1, l1, t1, gk, htlen, hkl']
        refine spoilLists_calls ht b3 (fun _ => ⟨aik.1, by rw [aik.2]; simp⟩) fun σ4 s4 => ?_
        have f4 := s4.nf
        have n4 := s4.no
        simp [pc16_r2, c1, c2, w1]
        refine ⟨⟨i + 1, by omega, by simp [c1], by simp, (s4.obj _ hltk).trans obk, by omega, Sk.trans (s4.mono fun k hk => .inr (by rw [hk]; exact hgi.1)), (s4.fam g gnk (fun e => hgi.2.2.2 e.symm)).trans gk, ⟨by omega, s4.live 0 zk.1 zk.2⟩, by omega, fun j p' hj hp' => ?_⟩, ?_⟩
        · obtain ⟨x1, x2⟩ := alk j p' (by omega) hp'
          exact ⟨by omega, by rw [s4.fam _ (by omega) (hdis j p' hj hp')]; exact x2⟩
        · simp only [MU, a2]; simp; omega
    · have hlt' : ¬ (i : Int) < (ps.length : Int) := by omega
      simp [pc16_l2, pc16_r3, a1, a2, hob, hrl, hlt']
      refine spoilFs_calls q5 (by omega) ⟨hgn, by rw [hg]; simp⟩ fun σ4 s4 => ?_
      simp
      exact h _ (hS.trans (s4.mono fun k hk => .inr (by rw [hk]; exact q1)))
end Go.Proofs.YthifgodgfhbnfaaDoor.Al
set_option linter.unusedSimpArgs false
set_option linter.unusedVariables false
namespace Go.Proofs.YthifgodgfhbnfaaDoor.Al
open Go Go.Abs Go.Proofs.YthifgodgfhbnfaaDoor
/-- memory that may be read, and that calls which only add leave so -/
def Rd (σ : AS) : Go.Abs.Own → Prop
  | .stat _ => True
  | .fam f _ => f < σ.nf ∧ σ.F f = .alive
theorem Rd.read {σ φ} (h : Rd σ φ) : Readable σ.F φ := by
  cases φ with
  | stat b => exact trivial
  | fam f b => exact h.2
theorem Rd.keep {σ σ' φ} (h : Rd σ φ) (A : Adds σ σ') : Rd σ' φ := by
  cases φ with
  | stat b => exact trivial
  | fam f b => exact ⟨by have := A.nf; have := h.1; omega, (A.fam f h.1).trans h.2⟩
def IntsO (σ : AS) (v : AV) (l : List Int) : Prop := (l = [] ∧ v = .nilsl) ∨ ∃ φ, v = .sl φ 1 (l.map (.int .i64)) ∧ Rd σ φ
def RepO (σ : AS) (v : AV) (l : List W) : Prop := (l = [] ∧ v = .nilsl) ∨ ∃ φ, v = .sl φ 6 (l.map W.av) ∧ Rd σ φ
def LstO (σ : AS) (v : AV) (l : To) : Prop := (l = [] ∧ v = .nilsl) ∨ ∃ φ rows, v = .sl φ 1 rows ∧ Rd σ φ ∧ All2 (RepO σ) rows l
def FVO (σ : AS) (v : AV) (f : F) : Prop := ∃ pv lv tv, v = .agg [.str f.name, pv, lv, .int .i64 f.type, tv] ∧ IntsO σ pv f.params ∧ IntsO σ lv f.locals ∧ LstO σ tv f.lists
def FsO (σ : AS) (v : AV) (l : List F) : Prop := (l = [] ∧ v = .nilsl) ∨ ∃ φ rows, v = .sl φ 5 rows ∧ Rd σ φ ∧ All2 (FVO σ) rows l
def MO (σ : AS) (v : AV) (m : M) : Prop := ∃ fv, v = .agg [fv, .int .i64 m.memory, .int .i64 m.main] ∧ FsO σ fv m.funcs
theorem IntsO.one {σ v l} (h : IntsO σ v l) : v.known = true ∧ v.one = true ∧ v.cells = [v] := by rcases h with ⟨_, rfl⟩ | ⟨b, rfl, _⟩ <;> simp
theorem RepO.one {σ v l} (h : RepO σ v l) : v.known = true ∧ v.one = true ∧ v.cells = [v] := by rcases h with ⟨_, rfl⟩ | ⟨b, rfl, _⟩ <;> simp
theorem LstO.one {σ v l} (h : LstO σ v l) : v.known = true ∧ v.one = true ∧ v.cells = [v] := by rcases h with ⟨_, rfl⟩ | ⟨b, _, rfl, _⟩ <;> simp
theorem FsO.one {σ v l} (h : FsO σ v l) : v.known = true ∧ v.one = true ∧ v.cells = [v] := by rcases h with ⟨_, rfl⟩ | ⟨b, _, rfl, _⟩ <;> simp
theorem IntsO.keep {σ σ' v l} (h : IntsO σ v l) (A : Adds σ σ') : IntsO σ' v l := by
  rcases h with h | ⟨φ, h, r⟩
  · exact .inl h
  · exact .inr ⟨φ, h, r.keep A⟩
theorem RepO.keep {σ σ' v l} (h : RepO σ v l) (A : Adds σ σ') : RepO σ' v l := by
  rcases h with h | ⟨φ, h, r⟩
  · exact .inl h
  · exact .inr ⟨φ, h, r.keep A⟩
theorem all2_mono {α β : Type} {R S : α → β → Prop} {xs ys} (h : All2 R xs ys) (hs : ∀ x y, R x y → S x y) : All2 S xs ys := by
  induction h with
  | nil => exact .nil
  | cons h r ih => exact .cons (hs _ _ h) ih
theorem LstO.keep {σ σ' v l} (h : LstO σ v l) (A : Adds σ σ') : LstO σ' v l := by
  rcases h with h | ⟨φ, rows, h, r, k⟩
  · exact .inl h
  · exact .inr ⟨φ, rows, h, r.keep A, all2_mono k fun _ _ q => q.keep A⟩
theorem FVO.keep {σ σ' v l} (h : FVO σ v l) (A : Adds σ σ') : FVO σ' v l := by
  obtain ⟨pv, lv, tv, h, a, b, c⟩ := h
  exact ⟨pv, lv, tv, h, a.keep A, b.keep A, c.keep A⟩
theorem FsO.keep {σ σ' v l} (h : FsO σ v l) (A : Adds σ σ') : FsO σ' v l := by
  rcases h with h | ⟨φ, rows, h, r, k⟩
  · exact .inl h
  · exact .inr ⟨φ, rows, h, r.keep A, all2_mono k fun _ _ q => q.keep A⟩
theorem MO.keep {σ σ' v m} (h : MO σ v m) (A : Adds σ σ') : MO σ' v m := by
  obtain ⟨fv, h, k⟩ := h
  exact ⟨fv, h, k.keep A⟩
theorem IntsO.len {σ v l} (h : IntsO σ v l) (K : AV → Prop) : alen Tryd.prog 34 v K = K (.int .i64 (l.length : Int)) := by rcases h with ⟨rfl, rfl⟩ | ⟨b, rfl, _⟩ <;> simp
theorem LstO.len {σ v l} (h : LstO σ v l) (K : AV → Prop) : alen Tryd.prog 35 v K = K (.int .i64 (l.length : Int)) := by
  rcases h with ⟨rfl, rfl⟩ | ⟨b, rows, rfl, _, hr⟩
  · simp
  · simp [hr.length]
theorem FsO.len {σ v l} (h : FsO σ v l) (K : AV → Prop) : alen Tryd.prog 22 v K = K (.int .i64 (l.length : Int)) := by
  rcases h with ⟨rfl, rfl⟩ | ⟨b, rows, rfl, _, hr⟩
  · simp
  · simp [hr.length]
theorem IntsO.at {σ v l} (h : IntsO σ v l) {i : Nat} (hi : i < l.length) : ∃ φ, Rd σ φ ∧ ∀ K : AV → Prop, aindexAddr Tryd.prog 34 v (.int .i64 (i : Int)) K = K (.pv φ (.int .i64 l[i])) := by
  rcases h with ⟨rfl, _⟩ | ⟨φ, rfl, r⟩
  · simp at hi
  · exact ⟨φ, r, fun K => by simp [hi]⟩
theorem LstO.at {σ v l} (h : LstO σ v l) {i : Nat} (hi : i < l.length) : ∃ φ rv, Rd σ φ ∧ RepO σ rv l[i] ∧ ∀ K : AV → Prop, aindexAddr Tryd.prog 35 v (.int .i64 (i : Int)) K = K (.pv φ rv) := by
  rcases h with ⟨rfl, _⟩ | ⟨φ, rows, rfl, r, hr⟩
  · simp at hi
  · obtain ⟨rv, h1, h2⟩ := hr.get (List.getElem?_eq_getElem hi)
    exact ⟨φ, rv, r, h2, fun K => by simp [h1]⟩
theorem FsO.at {σ v l} (h : FsO σ v l) {i : Nat} (hi : i < l.length) : ∃ φ rv, Rd σ φ ∧ FVO σ rv l[i] ∧ ∀ K : AV → Prop, aindexAddr Tryd.prog 22 v (.int .i64 (i : Int)) K = K (.pv φ rv) := by
  rcases h with ⟨rfl, _⟩ | ⟨φ, rows, rfl, r, hr⟩
  · simp at hi
  · obtain ⟨rv, h1, h2⟩ := hr.get (List.getElem?_eq_getElem hi)
    exact ⟨φ, rv, r, h2, fun K => by simp [h1]⟩
def EI (va vb : AV) (n : Nat) (σ : AS) (a : Nat → AV) (τ : AS) : Prop := ∃ i : Nat, i ≤ n ∧ a 0 = va ∧ a 1 = vb ∧ a 5 = .int .i64 (i : Int) ∧ Adds σ τ
theorem eqInts_calls {G : Env} {σ : AS} {R : Out → AS → Prop} {va vb : AV} {l : List Int} (ha : IntsO σ va l) (hb : IntsO σ vb l) (hl : l.length ≤ 2 ^ 40) (h : ∀ σ', Adds σ σ' → R (.ret (.bool true)) σ') : ACalls Tryd.prog G 18 [va, vb] σ R := by
  refine calls18 rfl ?_
  have hal := ha.len
  have hbl := hb.len
  simp [pc18, hal, hbl]
  refine aloop (EI va vb l.length σ) (MU 5 (l.length + 1)) ⟨0, by omega, by simp, by simp, by simp, .refl _⟩ fun a τ hI => ?_
  obtain ⟨i, hi, a0, a1, a5, A⟩ := hI
  by_cases hlt : i < l.length
  · obtain ⟨φ, r1, hx1⟩ := (ha.keep A).at hlt
    obtain ⟨ψ, r2, hx2⟩ := (hb.keep A).at hlt
    have q1 := r1.read
    have q2 := r2.read
    have w5 : IntKind.wrap .i64 ((i : Int) + 1) = ((i + 1 : Nat) : Int) := by rw [wrap_i64] <;> omega
    simp [pc18_l1, a0, a1, a5, hal, hlt, hx1, hx2, w5, q1, q2]
    refine ⟨⟨i + 1, by omega, by simp [a0], by simp [a1], by simp, A⟩, ?_⟩
    simp only [MU, a5]; simp; omega
  · simp [pc18_l1, pc18_r1, a0, a1, a5, hal, hlt]
    exact h _ A
theorem eqLists_calls {G : Env} {σ : AS} {R : Out → AS → Prop} {va vb : AV} {l : To} (ha : LstO σ va l) (hb : LstO σ vb l) (hl : l.length ≤ 2 ^ 40) (hr : ∀ r ∈ l, r.length ≤ 2 ^ 30) (h : ∀ σ', Adds σ σ' → R (.ret (.bool true)) σ') : ACalls Tryd.prog G 78 [va, vb] σ R := by
  refine calls78 rfl ?_
  have hal := ha.len
  have hbl := hb.len
  simp [pc78, hal, hbl]
  refine aloop (EI va vb l.length σ) (MU 5 (l.length + 1)) ⟨0, by omega, by simp, by simp, by simp, .refl _⟩ fun a τ hI => ?_
  obtain ⟨i, hi, a0, a1, a5, A⟩ := hI
  by_cases hlt : i < l.length
  · obtain ⟨φ, rv1, r1, e1, hx1⟩ := (ha.keep A).at hlt
    obtain ⟨ψ, rv2, r2, e2, hx2⟩ := (hb.keep A).at hlt
    have q1 := r1.read
    have q2 := r2.read
    have o1 := e1.one
    have o2 := e2.one
    have hrl := hr _ (List.getElem_mem hlt)
    have w5 : IntKind.wrap .i64 ((i : Int) + 1) = ((i + 1 : Nat) : Int) := by rw [wrap_i64] <;> omega
    have sl : ∀ {v : AV} {r : List W}, RepO τ v r → SlW τ v r := fun h => by
      rcases h with ⟨h1, h2⟩ | ⟨φ, h1, h2⟩
      · exact .inl ⟨h1, h2⟩
      · exact .inr ⟨φ, h1, h2.read⟩
    simp [pc78_l1, a0, a1, a5, hal, hlt, hx1, hx2, q1, q2, o1, o2]
    refine same_calls (sl e1) (sl e2) hrl ?_
    simp [w5, a5]
    refine ⟨⟨i + 1, by omega, by simp [a0], by simp [a1], by simp, A⟩, ?_⟩
    simp only [MU, a5]; simp; omega
  · simp [pc78_l1, pc78_r1, a0, a1, a5, hal, hlt]
    exact h _ A
structure SzE (f : F) : Prop where
  params : f.params.length ≤ 2 ^ 40
  locals : f.locals.length ≤ 2 ^ 40
  lists : f.lists.length ≤ 2 ^ 40
  rows : ∀ r ∈ f.lists, r.length ≤ 2 ^ 30
theorem eqF_calls {G : Env} {σ : AS} {R : Out → AS → Prop} {va vb : AV} {f : F} (ha : FVO σ va f) (hb : FVO σ vb f) (hs : SzE f) (h : ∀ σ', Adds σ σ' → R (.ret (.bool true)) σ') : ACalls Tryd.prog G 59 [va, vb] σ R := by
  refine calls59 rfl ?_
  obtain ⟨pa, la, ta, rfl, hpa, hla, hta⟩ := ha
  obtain ⟨pb, lb, tb, rfl, hpb, hlb, htb⟩ := hb
  have a1 := hpa.one
  have a2 := hla.one
  have a3 := hta.one
  have b1 := hpb.one
  have b2 := hlb.one
  have b3 := htb.one
  simp [pc59, a1, a2, a3, b1, b2, b3]
  have A1 : Adds σ ((σ.newO [AV.str f.name, pa, la, AV.int IntKind.i64 f.type, ta]).newO [AV.str f.name, pb, lb, AV.int IntKind.i64 f.type, tb]) := (Adds.refl σ).newO.newO
  have oa : ((σ.newO [AV.str f.name, pa, la, AV.int IntKind.i64 f.type, ta]).newO [AV.str f.name, pb, lb, AV.int IntKind.i64 f.type, tb]).objs σ.no = some [AV.str f.name, pa, la, AV.int IntKind.i64 f.type, ta] := by simp
  have ob : ((σ.newO [AV.str f.name, pa, la, AV.int IntKind.i64 f.type, ta]).newO [AV.str f.name, pb, lb, AV.int IntKind.i64 f.type, tb]).objs (σ.no + 1) = some [AV.str f.name, pb, lb, AV.int IntKind.i64 f.type, tb] := by simp
  have n1 : ((σ.newO [AV.str f.name, pa, la, AV.int IntKind.i64 f.type, ta]).newO [AV.str f.name, pb, lb, AV.int IntKind.i64 f.type, tb]).no = σ.no + 2 := by simp
  generalize (σ.newO [AV.str f.name, pa, la, AV.int IntKind.i64 f.type, ta]).newO [AV.str f.name, pb, lb, AV.int IntKind.i64 f.type, tb] = σ1 at *
  refine eqInts_calls (hpa.keep A1) (hpb.keep A1) hs.params fun σ2 A2 => ?_
  have oa2 := (A2.obj _ (by omega)).trans oa
  have ob2 := (A2.obj _ (by omega)).trans ob
  have n2 := A2.no
  have B2 := A1.trans A2
  simp [oa2, ob2, a1, a2, a3, b1, b2, b3]
  refine eqInts_calls (hla.keep B2) (hlb.keep B2) hs.locals fun σ3 A3 => ?_
  have oa3 := (A3.obj _ (by omega)).trans oa2
  have ob3 := (A3.obj _ (by omega)).trans ob2
  have B3 := B2.trans A3
  simp [oa3, ob3, a1, a2, a3, b1, b2, b3]
  refine eqLists_calls (hta.keep B3) (htb.keep B3) hs.lists hs.rows fun σ4 A4 => ?_
  simp
  exact h _ (B3.trans A4)
theorem eqFs_calls {G : Env} {σ : AS} {R : Out → AS → Prop} {va vb : AV} {l : List F} (ha : FsO σ va l) (hb : FsO σ vb l) (hl : l.length ≤ 2 ^ 40) (hs : ∀ f ∈ l, SzE f) (h : ∀ σ', Adds σ σ' → R (.ret (.bool true)) σ') : ACalls Tryd.prog G 39 [va, vb] σ R := by
  refine calls39 rfl ?_
  have hal := ha.len
  have hbl := hb.len
  simp [pc39, hal, hbl]
  refine aloop (EI va vb l.length σ) (MU 5 (l.length + 1)) ⟨0, by omega, by simp, by simp, by simp, .refl _⟩ fun a τ hI => ?_
  obtain ⟨i, hi, a0, a1, a5, A⟩ := hI
  by_cases hlt : i < l.length
  · obtain ⟨φ, rv1, r1, e1, hx1⟩ := (ha.keep A).at hlt
    obtain ⟨ψ, rv2, r2, e2, hx2⟩ := (hb.keep A).at hlt
    have q1 := r1.read
    have q2 := r2.read
    have hsz := hs _ (List.getElem_mem hlt)
    generalize l[i] = f at *
    have w5 : IntKind.wrap .i64 ((i : Int) + 1) = ((i + 1 : Nat) : Int) := by rw [wrap_i64] <;> omega
    have f1 := e1
    have f2 := e2
    obtain ⟨pa, la, ta, rfl, hpa, hla, hta⟩ := e1
    obtain ⟨pb, lb, tb, rfl, hpb, hlb, htb⟩ := e2
    have o1 := hpa.one
    have o2 := hla.one
    have o3 := hta.one
    have o4 := hpb.one
    have o5 := hlb.one
    have o6 := htb.one
    simp [pc39_l1, a0, a1, a5, hal, hlt, hx1, hx2, q1, q2, o1, o2, o3, o4, o5, o6]
    refine eqF_calls f1 f2 hsz fun σ2 A2 => ?_
    simp [w5, a5]
    refine ⟨⟨i + 1, by omega, by simp [a0], by simp [a1], by simp, A.trans A2⟩, ?_⟩
    simp only [MU, a5]; simp; omega
  · simp [pc39_l1, pc39_r1, a0, a1, a5, hal, hlt]
    exact h _ A
/-- TWO MODULES THAT ARE THE SAME. -/
theorem eqM_calls {G : Env} {σ : AS} {R : Out → AS → Prop} {va vb : AV} {m : M} (ha : MO σ va m) (hb : MO σ vb m) (hl : m.funcs.length ≤ 2 ^ 40) (hs : ∀ f ∈ m.funcs, SzE f) (h : ∀ σ', Adds σ σ' → R (.ret (.bool true)) σ') : ACalls Tryd.prog G 14 [va, vb] σ R := by
  refine calls14 rfl ?_
  obtain ⟨fa, rfl, hfa⟩ := ha
  obtain ⟨fb, rfl, hfb⟩ := hb
  have a1 := hfa.one
  have b1 := hfb.one
  simp [pc14, a1, b1]
  have A1 : Adds σ ((σ.newO [fa, AV.int IntKind.i64 m.memory, AV.int IntKind.i64 m.main]).newO [fb, AV.int IntKind.i64 m.memory, AV.int IntKind.i64 m.main]) := (Adds.refl σ).newO.newO
  refine eqFs_calls (hfa.keep A1) (hfb.keep A1) hl hs fun σ2 A2 => ?_
  simp
  exact h _ (A1.trans A2)
/-! what is in plain memory, or may still be written, may be read -/
theorem rep_o {σ : AS} {v l} (h : RepL v l) : RepO σ v l := by
  rcases h with h | ⟨b, h⟩
  · exact .inl h
  · exact .inr ⟨_, h, trivial⟩
theorem ints_o {σ : AS} {v l} (h : IntsV v l) : IntsO σ v l := by
  rcases h with h | ⟨b, h⟩
  · exact .inl h
  · exact .inr ⟨_, h, trivial⟩
theorem lists_o {σ : AS} {v l} (h : ListsV v l) : LstO σ v l := by
  rcases h with h | ⟨b, rows, h, k⟩
  · exact .inl h
  · exact .inr ⟨_, rows, h, trivial, all2_mono k fun _ _ q => rep_o q⟩
theorem m_o {σ : AS} {v m} (h : MV v m) : MO σ v m := by
  obtain ⟨fv, rfl, hf⟩ := h
  refine ⟨fv, rfl, ?_⟩
  rcases hf with h | ⟨b, rows, h, k⟩
  · exact .inl h
  · refine .inr ⟨_, rows, h, trivial, all2_mono k fun _ _ q => ?_⟩
    obtain ⟨pv, lv, tv, h, a, b, c⟩ := q
    exact ⟨pv, lv, tv, h, ints_o a, ints_o b, lists_o c⟩
theorem rep_e {σ : AS} (h0 : 0 < σ.nf ∧ σ.F 0 = .alive) {v l} (h : RepE v l) : RepO σ v l := by
  rcases h with h | ⟨b, h⟩
  · exact .inl h
  · exact .inr ⟨_, h, h0⟩
theorem ints_e {σ : AS} (h0 : 0 < σ.nf ∧ σ.F 0 = .alive) {v l} (h : IntsE v l) : IntsO σ v l := by
  rcases h with ⟨rfl, h | ⟨b, h⟩⟩ | ⟨b, h⟩
  · exact .inl ⟨rfl, h⟩
  · exact .inr ⟨_, h, trivial⟩
  · exact .inr ⟨_, h, h0⟩
theorem all2_fst {R : AV → F × Nat → Prop} {S : AV → F → Prop} {rows : List AV} {ps : List (F × Nat)} (h : All2 R rows ps) (hs : ∀ v p, p ∈ ps → R v p → S v p.1) : All2 S rows (ps.map Prod.fst) := by
  induction h with
  | nil => exact .nil
  | cons h r ih => exact .cons (hs _ _ (by simp) h) (ih fun v p hp => hs v p (by simp [hp]))
theorem m_e {σ : AS} {base : Nat} (h0 : 0 < σ.nf ∧ σ.F 0 = .alive) {v m} (h : ME σ base v m) : MO σ v m := by
  obtain ⟨fv, rfl, hf⟩ := h
  refine ⟨fv, rfl, ?_⟩
  rcases hf with h | ⟨g, rows, ps, rfl, q1, q2, q3, q4, q5, q6⟩
  · exact .inl h
  · refine .inr ⟨_, rows, rfl, ⟨q2, q3⟩, ?_⟩
    rw [← q4]
    refine all2_fst q5 fun v p hp ⟨pv, lv, tv, e, a, b, c⟩ => ⟨pv, lv, tv, e, ints_e h0 a, ints_e h0 b, ?_⟩
    obtain ⟨u1, u2, u3, u4⟩ := q6.each p.2 (List.mem_map_of_mem hp)
    rcases c with c | ⟨tos, rfl, c⟩
    · exact .inl c
    · exact .inr ⟨_, tos, rfl, ⟨u2, u3⟩, all2_mono c fun _ _ q => rep_e h0 q⟩
end Go.Proofs.YthifgodgfhbnfaaDoor.Al
