/- Part of the proofs of layer 22's statements: P7 (what peep's functions do, in lists of instructions, under the conditions that each theorem names). -/
import Derived.Test.YthifgodgfhbnfaaP6
set_option linter.unusedSimpArgs false
set_option linter.unusedVariables false
namespace Go.Proofs.Ythifgodgfhbnfaa
open Go Go.Abs
def OutV (τ : AS) (base : Nat) (v : AV) (l : List F) : Prop :=
  (l = [] ∧ v = .nilsl) ∨ ∃ g rows, v = .sl (.fam g false) 5 rows ∧ base ≤ g ∧ g < τ.nf ∧ τ.F g = .alive ∧ All2 FV rows l
def PI (k : Nat) (σ : AS) (r o : Nat) (fsv : AV) (fs all : List F) (mem mn : Int) (rc : List AV) (a : Nat → AV) (τ : AS) : Prop := ∃ (i : Nat) (done rest : List F) (ov : AV),
  i ≤ fs.length ∧ done.length = i ∧ a 2 = .ptr r 0 ∧ a 3 = .ptr o 0 ∧ a 13 = fsv ∧ a 14 = .int .i64 (fs.length : Int) ∧ a 15 = .int .i64 (i : Int) ∧ τ.objs r = some rc ∧ τ.objs o = some [ov, .int .i64 mem, .int .i64 mn] ∧
  r < τ.no ∧ o < τ.no ∧ OutV τ σ.nf ov done ∧ peepFs k (fs.drop i) = some rest ∧ done ++ rest = all ∧ Adds σ τ
def PM (fs : List F) (a : Nat → AV) (_ : AS) : Nat := match a 15 with
  | .int _ n => fs.length - n.toNat
  | _ => 0

theorem peep_loop {G : Nat → AV} {k : Nat} {σ : AS} {r o : Nat} {fsv : AV} {fs all : List F} {mem mn : Int} {rc : List AV} {R : Out → AS → Prop} (hro : r ≠ o) (hr : σ.no ≤ r) (hso : σ.no ≤ o) (hfs : FsV fsv fs) (hlen : fs.length ≤ 2 ^ 30) (hok : ∀ f ∈ fs, FOk k f)
    (fin : ∀ a τ ov, a 2 = .ptr r 0 → a 3 = .ptr o 0 → τ.objs r = some rc → τ.objs o = some [ov, .int .i64 mem, .int .i64 mn] → OutV τ σ.nf ov all → Adds σ τ → avc Try.prog G 50 pc10_r1 (afin Try.prog [.cell 2 30] R) a τ)
    {a : Nat → AV} {τ : AS} (hI : PI k σ r o fsv fs all mem mn rc a τ) :
    ALoop Try.prog G 50 pc10_l1 (ablock 0 (athen (avc Try.prog G 50 pc10_r1 (afin Try.prog [.cell 2 30] R)) (afin Try.prog [.cell 2 30] R))) a τ := by
  refine aloop (PI k σ r o fsv fs all mem mn rc) (PM fs) hI fun a τ hI => ?_
  obtain ⟨i, done, rest, ov, hi, hd, h2, h3, h13, h14, h15, hor, hoo, hrl, hol, hov, hp, hall, hA⟩ := hI
  have hmu : PM fs a τ = fs.length - i := by simp [PM, h15]
  by_cases hlt : i < fs.length
  · have hd' := List.drop_eq_getElem_cons hlt
    rw [hd', peepFs] at hp
    rcases hfs with ⟨rfl, rfl⟩ | ⟨b, rows, rfl, hrows⟩
    · simp at hlt
    obtain ⟨row, hrow, pv, lv, tv, rfl, hpv, hlv, htv⟩ := hrows.get (i := i) (y := fs[i]) (by simp [hlt])
    obtain ⟨ok1, ok2, ok3, ok4, n, to, ok5, ok6⟩ := hok _ (List.getElem_mem hlt)
    have hpf : peepF k fs[i] = some { fs[i] with lists := to } := by simp [peepF, ok5]
    rw [hpf] at hp
    simp only at hp
    generalize fs[i] = f at *
    split at hp
    · cases hp
    rename_i rest' hrest
    simp at hp
    have hrl' := hrows.length
    have htl : FromV tv f.lists := by
      rcases htv with ⟨e, _⟩ | h
      · rw [e] at ok5; cases k <;> simp [plist] at ok5
      · exact h
    obtain ⟨b2, trows, rfl, htr⟩ := htl
    have htll := htr.length
    have hw1 : IntKind.wrap .i64 ((f.lists.length : Int) - 1) = (f.lists.length : Int) - 1 := by rw [wrap_i64] <;> omega
    have hw2 : IntKind.wrap .i64 ((i : Int) + 1) = (i : Int) + 1 := by rw [wrap_i64] <;> omega
    have hlv1 := hlv.one
    have hpv1 := hpv.one
    simp [pc10_l1, h13, h14, h15, hlt, hrow, splice, htll, hw1, hpv1, hlv1]
    refine list_top ⟨b2, trows, rfl, htr⟩ ok3 (by simp) (by simp) ok5 ok6 fun σ1 tv1 n1 n2 e1 e2 e3 htv1 => ?_
    have hF := e1 τ.no (by simp; omega) (by omega)
    simp at hF
    simp [hF, e3]
    have hO1 := e1 o (by simp; omega) (by omega)
    simp only [newO_objs, setO_objs, setO_no, newO_no, upd_at] at hO1
    rw [if_neg (by omega), if_neg (by omega), if_neg (by omega), hoo] at hO1
    have hR1 := e1 r (by simp; omega) (by omega)
    simp only [newO_objs, setO_objs, setO_no, newO_no, upd_at] at hR1
    rw [if_neg (by omega), if_neg (by omega), if_neg (by omega), hor] at hR1
    simp at n1 n2 e2
    refine clone_calls hpv ok1 fun pv' σ2 hpv' A2 => ?_
    have hF2 := (A2.obj τ.no (by omega)).trans hF
    have hX2 := (A2.obj (τ.no + 1) (by omega)).trans e3
    have hO2 := (A2.obj o (by omega)).trans hO1
    have hR2 := (A2.obj r (by omega)).trans hR1
    have n3 := A2.no
    have n4 := A2.nf
    simp [hF2, hX2]
    refine clone_calls hlv ok2 fun lv' σ3 hlv' A3 => ?_
    have hF3 := (A3.obj τ.no (by omega)).trans hF2
    have hX3 := (A3.obj (τ.no + 1) (by omega)).trans hX2
    have hO3 := (A3.obj o (by omega)).trans hO2
    have hR3 := (A3.obj r (by omega)).trans hR2
    have n5 := A3.no
    have n6 := A3.nf
    have hpv1' := hpv'.one
    have hlv1' := hlv'.one
    have htv1' := htv1.one
    have hon : ¬ o = τ.no := by omega
    have hrn : ¬ r = τ.no := by omega
    have hpos : ∀ (x y z : AV), (AV.agg [x, y, z, .int .i64 f.type, tv1]).cells.length = 5 := by simp
    have A : Adds σ σ3 := ⟨by have := hA.no; omega, by have := hA.nf; omega, fun p hp => ?_, fun g hg => ?_⟩
    · have hfv : FV (.agg [.str f.name, pv', lv', .int .i64 f.type, tv1]) { f with lists := to } := ⟨_, _, _, rfl, hpv', hlv', htv1⟩
      have next : ∀ (a' : Nat → AV) (τ' : AS) (ov' : AV), a' 2 = .ptr r 0 → a' 3 = .ptr o 0 → a' 13 = .sl (.stat b) 5 rows → a' 14 = .int .i64 (fs.length : Int) → a' 15 = .int .i64 ((i : Int) + 1) → τ'.objs r = some rc → τ'.objs o = some [ov', .int .i64 mem, .int .i64 mn] →
          r < τ'.no → o < τ'.no → OutV τ' σ.nf ov' (done ++ [{ f with lists := to }]) → Adds σ τ' → PI k σ r o (.sl (.stat b) 5 rows) fs all mem mn rc a' τ' ∧ PM fs a' τ' < PM fs a τ := by
        intro a' τ' ov' b2 b3 b13 b14 b15 c1 c2 c3 c4 c5 c6
        refine ⟨⟨i + 1, done ++ [{ f with lists := to }], rest', ov', hlt, by simp [hd], b2, b3, b13, b14, by rw [b15]; simp, c1, c2, c3, c4, c5, hrest, ?_, c6⟩, ?_⟩
        · rw [← hall, ← hp]; simp
        · rw [hmu]
          simp only [PM, b15]
          have : ((i : Int) + 1).toNat = i + 1 := by omega
          rw [this]; omega
      rcases hov with ⟨rfl, rfl⟩ | ⟨g, orows, rfl, g1, g2, g3, g4⟩
      · simp [hF3, hX3, hO3, h3, hon, hpv1', hlv1', htv1', h15, hw2, splice]
        refine next _ _ (.sl (.fam σ3.nf false) 5 [.agg [.str f.name, pv', lv', .int .i64 f.type, tv1]]) (by simp [h2]) (by simp [h3]) (by simp [h13]) (by simp [h14]) (by simp) ?_ (by simp) (by simp; omega) (by simp; omega) ?_ ?_
        · simp [hrn, Ne.symm hro, hro, hR3]
        · exact .inr ⟨σ3.nf, _, by simp, by have := hA.nf; omega, by simp, by simp, .cons hfv .nil⟩
        · exact ((((A.setO (by omega)).setO (by omega)).setO (by omega)).newF).setO hso
      · have ga : σ3.F g = .alive := by rw [A3.fam g (by omega), A2.fam g (by omega), e2 g g2, g3]
        have gl := g4.length
        simp [hF3, hX3, hO3, h3, hon, hpv1', hlv1', htv1', h15, hw2, ga, splice]
        refine ⟨by omega, next _ _ (.sl (.fam σ3.nf false) 5 (orows ++ [.agg [.str f.name, pv', lv', .int .i64 f.type, tv1]])) (by simp [h2]) (by simp [h3]) (by simp [h13]) (by simp [h14]) (by simp) ?_ (by simp) (by simp; omega) (by simp; omega) ?_ ?_⟩
        · simp [hrn, Ne.symm hro, hro, hR3]
        · exact .inr ⟨σ3.nf, _, by simp, by have := hA.nf; omega, by simp, by simp, g4.append (.cons hfv .nil)⟩
        · exact ((((A.setO (by omega)).setO (by omega)).setO (by omega)).setF g1).newF.setO hso
    · have := hA.no
      rw [A3.obj p (by omega), A2.obj p (by omega), e1 p (by simp; omega) (by omega)]
      simp
      rw [if_neg (by omega), if_neg (by omega), if_neg (by omega)]
      exact hA.obj p hp
    · have := hA.nf
      rw [A3.fam g (by omega), A2.fam g (by omega), e2 g (by omega), hA.fam g hg]
  · have he : i = fs.length := by omega
    subst he
    simp [peepFs] at hp
    subst hp
    simp at hall
    subst hall
    simp [pc10_l1, h14, h15]
    exact fin _ _ _ (by simpa using h2) (by simpa using h3) hor hoo hov hA
end Go.Proofs.Ythifgodgfhbnfaa
