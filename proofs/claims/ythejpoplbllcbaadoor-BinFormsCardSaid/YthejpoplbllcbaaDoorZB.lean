/- Parts of the proof of the row BinForms: contracts of functions, each under the conditions that its theorem names. -/
import Derived.Test.YthejpoplbllcbaaDoorZA
import Derived.Test.YthejpoplbllcbaaDoorTie
import Derived.ProofKit
import Derived.OpenShut
import Derived.ChangeOld
import Derived.ChangeSame
import Derived.ChangeVars
import Derived.Lib.LaidTab
import Derived.LaidLaws
import Derived.LaidHandle
import Derived.ShapedOpen
import Derived.Lay
import Derived.LaidMore
set_option linter.unusedSimpArgs false
set_option linter.unusedVariables false
set_option linter.unusedSimpArgs false
set_option linter.unusedVariables false
namespace Go.Proofs.YthejpoplbllcbaaDoor
open Go Go.Abs
section
variable {G : Env} {σ : AS} {R : Out → AS → Prop}
theorem Rdr.push {base β x s τ bv g tos lv l} (h : Rdr base β x s τ) (hv : BV β bv s.b) (ht : All2 Al.RepE tos s.ls) (hG : GrowR σ x 6 τ lv (l.map W.av)) (hσ : base ≤ σ.nf) {τ' : AS} (e1 : τ'.objs = upd τ.objs x (some [bv, .sl (.fam τ.nf false) 1 (tos ++ [lv]), .int .i64 (s.n : Int)])) (e2 : τ'.no = τ.no) (e3 : τ'.nf = τ.nf + 1) (e4 : τ'.F τ.nf = .alive)
  (e5 : ∀ f, f < τ.nf → ¬ UsesR τ x f → τ'.F f = τ.F f) (K : KeepR x σ τ) (hg : ∀ f, UsesR τ x f → f = g) {v : AV} (hmv : ∀ f, Go.Abs.mrg f v = v) (hR : ∀ σ', Rdr base β x { s with ls := s.ls ++ [l] } σ' → KeepR x σ σ' → R (.ret v) σ') : Al.MrgOr R (.ret v) τ' := by
 have hb := h.hb
 have hn := K.nf
 have base0 : ∀ σ' : AS, σ'.no = τ.no → σ'.nf = τ.nf + 1 → (∀ o, o ≠ x → σ'.objs o = τ.objs o) → (∃ bv' tos', σ'.objs x = some [bv', .sl (.fam τ.nf false) 1 tos', .int .i64 (s.n : Int)] ∧ BV β bv' s.b ∧ All2 Al.RepE tos' (s.ls ++ [l])) → σ'.F τ.nf = .alive →
   (∀ f, f < τ.nf → ¬ UsesR τ x f → f < σ.nf ∨ f < base → σ'.F f = τ.F f) → R (.ret v) σ' := by
  intro σ' a1 a2 a3 ⟨bv', tos', a4, a5, a6⟩ a7 a8
  have nb : ∀ f, f < base → ¬ UsesR τ x f := fun f hf => h.uses hf
  refine hR σ' ⟨by rw [a1]; exact h.hx, ⟨hb.1, by omega⟩, ?_, fun f hf => ?_, bv', _, a4, a5, .inr ⟨τ.nf, tos', rfl, hb.2, by omega, a7, a6⟩⟩ ⟨by rw [a1]; exact K.no, by omega, fun o h1 h2 => (a3 o h2).trans (K.obj o h1 h2), fun f h1 h2 => ?_, fun f h1 h2 => ?_⟩
  ·rw [a8 0 (by omega) (nb 0 hb.1) (.inr hb.1)]; exact h.h0
  ·obtain ⟨h1, h2⟩ := h.hβ f hf
   exact ⟨h1, by rw [a8 f (by omega) (nb f h1) (.inr h1)]; exact h2⟩
  ·have hu : ¬ UsesR τ x f := fun u => h2 (K.use f h1 u)
   rw [a8 f (by omega) hu (.inl h1)]
   exact K.fam f h1 h2
  ·obtain ⟨cs, v, q1, q2, q3⟩ := h2
   rw [a4] at q1
   cases q1
   simp at q2
   subst q2
   simp [famOf] at q3
   omega
 rcases hG with ⟨h1, rfl⟩ | ⟨f, rfl, h2, h3, h4, h5⟩
 ·have hl : l = [] := by simpa using h1
  subst hl
  exact .inl (base0 τ' e2 e3 (fun o ho => by rw [e1]; simp [ho]) ⟨bv, tos ++ [.nilsl], by rw [e1]; simp, hv, ht.append (.cons (.inl ⟨rfl, rfl⟩) .nil)⟩ e4 (fun f q1 q2 _ => e5 f q1 q2))
 ·refine Al.MrgOr.merged f (fun o => o == x) (by omega) (by rw [e5 f h3 h5]; exact h4) ?_
  rw [hmv]
  have hbf : Go.Abs.mrg f bv = bv := by
   rcases hv with ⟨_, rfl⟩ | ⟨φ, hφ, rfl⟩
   ·simp
   ·cases φ with
    | stat b => simp [B, Function.comp_def]
    | fam g' b =>
     obtain ⟨q1, _⟩ := h.hβ g' hφ.symm
     have : ¬ g' = f := by omega
     simp [this, B, Function.comp_def]
  refine base0 _ e2 e3 (fun o ho => by simp [AS.mrg, e1, ho]) ⟨bv, tos ++ [.sl (.fam 0 false) 6 (l.map W.av)], ?_, hv, ht.append (.cons (.inr ⟨_, rfl⟩) .nil)⟩ ?_ (fun f' q1 q2 q3 => ?_)
  ·have : ¬ τ.nf = f := by omega
   simp [AS.mrg, e1, hbf, Al.mrg_rows ht, this, Function.comp_def, Al.mrg_W]
  ·have : ¬ τ.nf = f := by omega
   simp [AS.mrg, mrgF, this, e4]
  ·have : ¬ f' = f := by omega
   simp only [AS.mrg, mrgF, upd_at, this, if_false]
   exact e5 f' q1 q2
theorem listP_one {st : Bool} {k d : Nat} {c : UInt8} {s s' : Rs} {w : W} (h : instrP st (fun d s => listP st k d [] s) d c s = some (w, s')) : s'.ls.length + s'.b.length ≤ s.ls.length + s.b.length ∧ s'.b.length ≤ s.b.length := by
 unfold instrP at h
 split at h
 ·split at h
  ·unfold withinP at h
   simp only [Option.bind_eq_some_iff] at h
   obtain ⟨⟨c1, s1⟩, h1, ⟨⟨n, e⟩, s2⟩, h2, h3⟩ := h
   obtain ⟨f1, f2, f3⟩ := byteP_some h1
   have z1 := (listP_size _ _ _ _ _ _ _ _ h2).1
   obtain ⟨_, _, _, _, _, ⟨xx, _, z3⟩, _⟩ := listP_ls _ _ _ _ _ _ _ _ h2
   have z4 := sub_len z3
   have f2' : s1.ls.length = s.ls.length := congrArg List.length f2
   have f1' : s.b.length = s1.b.length + 1 := by rw [f1]; rfl
   simp only at z1 z4
   split at h3
   ·split at h3
    ·rw [Option.map_eq_some_iff] at h3
     obtain ⟨⟨⟨n2, e2⟩, s5⟩, h4, h5⟩ := h3
     simp only [Prod.mk.injEq] at h5
     obtain ⟨rfl, rfl⟩ := h5
     have y1 := (listP_size _ _ _ _ _ _ _ _ h4).1
     obtain ⟨_, _, _, _, _, ⟨xx, _, y3⟩, _⟩ := listP_ls _ _ _ _ _ _ _ _ h4
     have y4 := sub_len y3
     simp only at y1 y4
     exact ⟨by omega, by omega⟩
    ·cases h3
     refine ⟨?_, ?_⟩ <;> simp only <;> omega
   ·cases h3
    refine ⟨?_, ?_⟩ <;> simp only <;> omega
  ·cases h
 ·obtain ⟨⟨xx, a1⟩, a2, _⟩ := leafP_some h
  have := sub_len a1
  rw [a2]
  omega
def MBx (x : Nat) (_ : Nat → AV) (τ : AS) : Nat := match τ.objs x with
 | some (.sl _ _ xs :: _) => xs.length
 | _ => 0
theorem MBx_eq {base β x s τ} (h : Rdr base β x s τ) (a : Nat → AV) : MBx x a τ = s.b.length := by
 obtain ⟨bv, lv, ho, hv, hl⟩ := h.cells
 unfold MBx
 rw [ho]
 rcases hv with ⟨h1, rfl⟩ | ⟨φ, _, rfl⟩
 ·simp [h1]
 ·simp
def LsR (base : Nat) (β : Option Nat) (x d k0 : Nat) (s0 : Rs) (σ : AS) (a : Nat → AV) (τ : AS) : Prop := ∃ (k : Nat) (l : List W) (s : Rs), listP false k0 d [] s0 = listP false k d l s ∧ k ≤ k0 ∧ s.b.length < k ∧ l.length + s.b.length ≤ 2 ^ 38 ∧ s.ls.length + s.b.length ≤ 2 ^ 38 ∧ a 0 = .ptr x 0 ∧ a 1 = .int .i64 (d : Int) ∧ GrowR σ x 6 τ (a 6) (l.map W.av) ∧ Rdr base β x s τ ∧ KeepR x σ τ
theorem listRd_body (V : VarsB G) {base β x s0} {k0 d : Nat} (hd : d ≤ 400) (hσ : base ≤ σ.nf) (IH : ∀ j, j < k0 → ListOkR G base β x j) (hn : listP false k0 d [] s0 = none → NoneR R x σ) (hs : ∀ n e s', listP false k0 d [] s0 = some ((n, e), s') → ∀ σ', Rdr base β x s' σ' → KeepR x σ σ' → R (.ret (.tuple [.int .i64 n, .int .u8 (e.toNat : Int)])) σ')
  {a : Nat → AV} {τ : AS} (hI : LsR base β x d k0 s0 σ a τ) : avc Tryd.prog G 42 pc50_l1 (athen (fun a' σ' => LsR base β x d k0 s0 σ a' σ' ∧ MBx x a' σ' < MBx x a τ) (ablock 0 (afin Tryd.prog [.tmp 4, .tmp 5] (Al.MrgOr R)))) a τ := by
 obtain ⟨k, l, s, he, hk, hkb, hlb, hsb, a0, a1, hG, hR, hK⟩ := hI
 have hmb := MBx_eq hR a
 obtain ⟨k, rfl⟩ : ∃ j, k = j + 1 := ⟨k - 1, by omega⟩
 rw [listP] at he
 simp [pc50_l1, a0]
 refine take1_calls hR (fun q => ?_) (fun c s1 q v σ1 hv hr1 hk1 => ?_)
 ·intro e σ' h1 h2
  exact .inl (hn (by rw [he, q]; rfl) e σ' h1 (hK.trans h2))
 ·obtain ⟨φ, hφ, rfl⟩ := hv
  have hrd := rd_of hr1 hφ
  obtain ⟨q1, q2, q3⟩ := byteP_some q
  rw [q] at he
  simp only [Option.bind_some] at he
  have hK1 := hK.trans hk1
  have hG1 := hG.keep hk1
  have hmb1 := MBx_eq hr1 a
  rw [q1] at hkb hlb hsb hmb
  simp only [List.length_cons] at hkb hlb hsb hmb
  by_cases hc : c = 11 ∨ c = 5
  ·rw [if_pos hc] at he
   obtain ⟨bv, lv, ho, hbv, hlv⟩ := hr1.cells
   have l1 := hlv.one
   have b1 := hbv.one
   have g1 := hG1.one
   have wl : IntKind.wrap .i64 (s1.ls.length : Int) = (s1.ls.length : Int) := by rw [wrap_i64] <;> (rw [q2]; omega)
   have fin : ∀ τ' : AS, ∀ tos g, All2 Al.RepE tos s1.ls → (∀ f, UsesR σ1 x f → f = g) → τ'.objs = upd σ1.objs x (some [bv, .sl (.fam σ1.nf false) 1 (tos ++ [a 6]), .int .i64 (s1.n : Int)]) → τ'.no = σ1.no → τ'.nf = σ1.nf + 1 → τ'.F σ1.nf = .alive → (∀ f, f < σ1.nf → ¬ UsesR σ1 x f → τ'.F f = σ1.F f) →
     Al.MrgOr R (.ret (.tuple [.int .i64 (s1.ls.length : Int), .int .u8 (c.toNat : Int)])) τ' := fun τ' tos g t1 t2 t3 t4 t5 t6 t7 =>
    Rdr.push hr1 hbv t1 hG1 hσ t3 t4 t5 t6 t7 hK1 t2 (by intro f; simp) fun σ' r1 r2 => hs _ _ _ he σ' r1 r2
   have hcc : (c.toNat : Int) = 11 ∨ ¬ (c.toNat : Int) = 11 ∧ (c.toNat : Int) = 5 := by
    rcases hc with rfl | rfl
    ·exact .inl rfl
    ·exact .inr ⟨by decide, rfl⟩
   have hlen : s1.ls.length ≤ 2 ^ 38 := by rw [q2]; omega
   rcases hlv with ⟨hl0, rfl⟩ | ⟨g, tos, rfl, t1, t2, t3, t4⟩
   ·have wl' : IntKind.wrap .i64 0 = 0 := rfl
    have key := fin ((σ1.newF).setO x [bv, .sl (.fam σ1.nf false) 1 ([] ++ [a 6]), .int .i64 (s1.n : Int)]) [] 0 (by rw [hl0]; exact .nil) (fun f ⟨cs, v, u1, u2, u3⟩ => by rw [ho] at u1; cases u1; simp at u2; subst u2; cases u3) (by simp) (by simp) (by simp) (by simp) (fun f h1 h2 => by
     have : ¬ f = σ1.nf := by omega
     simp [this])
    rw [hl0] at key
    rcases hcc with h1 | ⟨h1, h2⟩
    ·simp [hrd, a0, ho, h1, g1, splice, wl']
     simpa [h1] using key
    ·simp [hrd, a0, ho, h1, h2, g1, splice, wl']
     simpa [h2] using key
   ·have tl := t4.length
    have key := fin (((σ1.setF g .dead).newF).setO x [bv, .sl (.fam σ1.nf false) 1 (tos ++ [a 6]), .int .i64 (s1.n : Int)]) tos g t4 (fun f ⟨cs, v, u1, u2, u3⟩ => by rw [ho] at u1; cases u1; simp at u2; subst u2; simpa [famOf] using u3.symm) (by simp) (by simp) (by simp) (by simp) (fun f h1 h2 => by
     have : ¬ f = σ1.nf := by omega
     have : ¬ f = g := fun e => h2 ⟨_, _, ho, rfl, by rw [e]; rfl⟩
     simp [*])
    rcases hcc with h1 | ⟨h1, h2⟩
    ·simp [hrd, a0, ho, h1, g1, splice, t3, tl, wl]
     refine ⟨by omega, ?_⟩
     simpa [h1] using key
    ·simp [hrd, a0, ho, h1, h2, g1, splice, t3, tl, wl]
     refine ⟨by omega, ?_⟩
     simpa [h2] using key
  ·rw [if_neg hc] at he
   have h11 : ¬ (c.toNat : Int) = 11 := fun e => hc (.inl (UInt8.toNat_inj.1 (show c.toNat = (11 : UInt8).toNat by have : (11 : UInt8).toNat = 11 := rfl; omega)))
   have h5 : ¬ (c.toNat : Int) = 5 := fun e => hc (.inr (UInt8.toNat_inj.1 (show c.toNat = (5 : UInt8).toNat by have : (5 : UInt8).toNat = 5 := rfl; omega)))
   have g1 := hG1.one
   simp [hrd, a0, a1, h11, h5, g1]
   refine instr_calls V hr1 hd (IH k (by omega)) (by omega) (by rw [q2]; omega) (fun q5 => ?_) (fun w s2 q5 σ2 hr2 hk2 => ?_)
   ·intro e σ' e1 e2
    exact .inl (hn (by rw [he, q5]; rfl) e σ' e1 (hK1.trans e2))
   ·rw [q5] at he
    simp only [Option.bind_some] at he
    have hin : s2.ls.length + s2.b.length ≤ s1.ls.length + s1.b.length ∧ s2.b.length ≤ s1.b.length := by
     have hx := listP_one q5
     exact hx
    rw [q2] at hin
    have hmb2 := MBx_eq hr2 a
    have g2 := (hG1.keep hk2).one
    simp [W.av, W.cs, g2]
    refine grow_R (row := w.av) (hG1.keep hk2) hr2 (hK1.trans hk2) hσ (by simp [W.av, W.cs]) (by simp; omega) fun v' τ' e1 e2 e3 e4 e5 _ => ?_
    simp
    refine ⟨⟨k, l ++ [w], s2, he, by omega, by omega, by simp; omega, by omega, by simp [a0], by simp [a1], by simpa using e1, e2, e3⟩, ?_⟩
    rw [MBx_eq e2, hmb]
    omega
theorem list_okR (V : VarsB G) {base β x} : ∀ k j : Nat, j ≤ k → ListOkR G base β x j
 | 0, j, hj => fun σ R s d h hk => by omega
 | k + 1, j, hj => by
  have IH := list_okR V (base := base) (β := β) (x := x) k
  intro σ R s d h hk hz hd hn hs
  refine Al.merging (calls50 rfl ?_)
  have hb := h.hb
  simp [pc50]
  refine aloop (LsR base β x d j s σ) (MBx x) ⟨j, [], s, rfl, Nat.le_refl _, hk, by simp; omega, hz, by simp, by simp, .inl ⟨rfl, by simp⟩, h, .refl ..⟩ fun a τ hI => ?_
  exact listRd_body V hd hb.2 (fun i hi => IH i (by omega)) hn hs hI
end
end Go.Proofs.YthejpoplbllcbaaDoor
set_option linter.unusedSimpArgs false
set_option linter.unusedVariables false
namespace Go.Proofs.YthejpoplbllcbaaDoor
open Go Go.Abs
section
variable {G : Env} {σ : AS} {R : Out → AS → Prop}
theorem mul_calls {x y : Nat} (hx : x < 18446744073709551616) (hy : y < 18446744073709551616) (h : R (.ret (.tuple [.int .u64 ((x * y / 18446744073709551616 : Nat) : Int), .int .u64 ((x * y % 18446744073709551616 : Nat) : Int)])) σ) : ACalls Tryd.prog G 59 [.int .u64 (x : Int), .int .u64 (y : Int)] σ R := by
 refine ACalls.of_below fun M w cargs S g hc => ?_
 obtain ⟨c0, e0, v0⟩ := hc.2 0 _ rfl
 obtain ⟨c1, e1, v1⟩ := hc.2 1 _ rfl
 have h0 : c0 = .int .u64 (x : Int) := by cases v0; rfl
 have h1 : c1 = .int .u64 (y : Int) := by cases v1; rfl
 subst h0
 subst h1
 have hcargs : cargs = #[.int .u64 (x : Int), .int .u64 (y : Int)] := by
  have hsz : cargs.size = 2 := hc.1
  apply Array.ext
  ·simpa using hsz
  ·intro i h1 h2
   match i, h1 with
   | 0, _ => simpa using (Array.getElem?_eq_some_iff.1 e0).2
   | 1, _ => simpa using (Array.getElem?_eq_some_iff.1 e1).2
   | i + 2, h => omega
 rw [hcargs]
 refine (Tryd.bits_Mul x y hx hy w).mono fun e w' ⟨he, hw⟩ => ?_
 subst he hw
 refine ⟨⟨.tuple [.int .u64 _, .int .u64 _], _, rfl, fun M F w => .tuple _ _ rfl fun j hj hj' => ?_, h⟩, rfl, rfl, rfl, Nat.le_refl _, fun _ _ => rfl⟩
 match j, hj with
 | 0, _ => exact .int _ _
 | 1, _ => exact .int _ _
 | j + 2, h => simp at h; omega
theorem amake_ints {n : Nat} (hn : n < 2 ^ 40) {K : AV → AS → Prop} : amake Tryd.prog 38 (.int .i64 (n : Int)) (.int .i64 (n : Int)) σ K = K (.slm σ.no 0 1 n) (σ.newO (List.replicate n (.int .i64 0))) := by
 have e1 : elOf Tryd.prog 38 = some 1 := by kernel_rfl
 have e2 : elBytes Tryd.prog 38 = some 8 := by kernel_rfl
 have e3 : elZero Tryd.prog 38 = some (.int .i64 0) := by kernel_rfl
 have e5 : flat (List.replicate n (AV.int .i64 0)) = List.replicate n (AV.int .i64 0) := by
  induction n with
  | zero => rfl
  | succ n ih =>
   have := ih (by omega)
   simp only [flat, List.replicate_succ, List.flatMap_cons] at *
   rw [this]
   rfl
 simp [amake, e1, e2, e3, AV.cells, AV.known, e5]
 exact ⟨fun q => q.2.2, fun q => ⟨by omega, by omega, q⟩⟩
theorem mul1_calls {n : Nat} (hn : n ≤ 65536) (h : R (.ret (.tuple [.int .u64 0, .int .u64 (n : Int)])) σ) : ACalls Tryd.prog G 59 [.int .u64 1, .int .u64 (n : Int)] σ R := by
 refine mul_calls (x := 1) (y := n) (by decide) (by omega) ?_
 have e1 : 1 * n / 18446744073709551616 = 0 := by omega
 have e2 : 1 * n % 18446744073709551616 = n := by omega
 rw [e1, e2]
 exact h
theorem rep_splice (t z : AV) {n k m : Nat} (h : k + m ≤ n) : splice (List.replicate k t ++ List.replicate (n - k) z) k (List.replicate m t) = List.replicate (k + m) t ++ List.replicate (n - (k + m)) z := by
 unfold splice
 rw [List.take_left' (by simp), List.drop_append, List.drop_eq_nil_of_le (by simp)]
 simp only [List.length_replicate, List.nil_append, List.drop_replicate, List.replicate_append_replicate]
 congr 2
 omega
theorem famOrV {P : Program} {f : FuncId} {args : List AV}
  (h : ACalls P G f args σ fun o σ' => R o σ' ∨ ∃ ob sz rows, o = .ret (.slm ob 0 sz rows.length) ∧ σ'.objs ob = some (flat rows) ∧ (∀ x ∈ rows, x.cells.length = sz) ∧ R (.ret (.sl (.fam σ'.nf false) sz rows)) (σ'.famO ob)) : ACalls P G f args σ R := by
 intro M w cargs S g c
 refine (h M w cargs S g c).mono fun e w' ⟨o, σ', M', hR, h2, h3, h4⟩ => ?_
 rcases hR with hR | ⟨ob, sz, rows, ho, hob, hsz, hR⟩
 ·exact ⟨o, σ', M', hR, h2, h3, h4⟩
 subst ho
 cases e <;> simp only [OutRel] at h2
 have hrole := (h3.obj ob _ hob).2.1
 have E := ext_famO (M := M') (F := σ'.F) (w := w') hrole
 have hF : (σ'.famO ob).F = upd σ'.F M'.nf .alive := by rw [h3.nf]; rfl
 cases h2 with
 | slm _ _ _ _ cap hob' hcap hr =>
 obtain ⟨S', v'⟩ := h3.famO hob hsz hcap (fun j hj => by simpa using hr j hj)
 exact ⟨_, _, M'.famO (M'.obj ob).1, hR, v', S', by rw [hF]; exact h4.trans E⟩
theorem flat_one : ∀ (l : List AV), (∀ x ∈ l, x.cells = [x]) → flat l = l
 | [], _ => rfl
 | x :: l, h => by
  have := flat_one l fun y hy => h y (by simp [hy])
  simp only [flat, List.flatMap_cons] at *
  rw [this, h x (by simp)]
  rfl
def ReI (t : Int) (n o : Nat) (σ : AS) (a : Nat → AV) (τ : AS) : Prop := ∃ k : Nat, k ≤ n ∧ (1 ≤ n → 1 ≤ k) ∧ a 7 = .slm o 0 1 n ∧ a 8 = .int .i64 (k : Int) ∧ Adds σ τ ∧ o = σ.no ∧ o < τ.no ∧ τ.objs o = some (List.replicate k (.int .i64 t) ++ List.replicate (n - k) (.int .i64 0))
theorem repeat_calls {t : Int} {n : Nat} (hn : n ≤ 65536) (h : ∀ σ' g, Adds σ σ' → σ.nf ≤ g → g < σ'.nf → σ'.F g = .alive → R (.ret (.sl (.fam g false) 1 (List.replicate n (.int .i64 t)))) σ') : ACalls Tryd.prog G 49 [.sl (.stat true) 1 [.int .i64 t], .int .i64 (n : Int)] σ R := by
 refine famOrV (calls49 rfl ?_)
 have w0 : ¬ (n : Int) < 0 := by omega
 have w1 : IntKind.wrap .u64 1 = ((1 : Nat) : Int) := rfl
 have w2 : IntKind.wrap .u64 (n : Int) = ((n : Nat) : Int) := by rw [wrap_u64]; omega
 simp [pc49, w0, w1, w2]
 refine mul1_calls hn ?_
 have w3 : IntKind.wrap .i64 (n : Int) = (n : Int) := by rw [wrap_i64] <;> omega
 have w4 : ¬ (9223372036854775807 : Int) < (n : Int) := by omega
 simp [w3, w4, amake_ints (show n < 2 ^ 40 by omega), acopyTo_eq]
 have hst : ∀ cs, Adds σ ((σ.newO (List.replicate n (.int .i64 0))).setO σ.no cs) := fun cs => .mk1
 have hmin : Nat.min 1 n = if n = 0 then 0 else 1 := by
  split
  ·rename_i h0; subst h0; rfl
  ·exact Nat.min_eq_left (by omega)
 refine aloop (ReI t n σ.no σ) (MU 8 (n + 1)) ⟨Nat.min 1 n, Nat.min_le_right _ _, fun h => by rw [hmin, if_neg (by omega)]; omega, by simp, by simp, hst _, rfl, by simp, ?_⟩ fun a τ hI => ?_
 ·have e1 : List.take n [AV.int .i64 t] = List.replicate (Nat.min 1 n) (.int .i64 t) := by
   rw [hmin]
   cases n with
   | zero => rfl
   | succ n => simp
  have := rep_splice (.int .i64 t) (.int .i64 0) (n := n) (k := 0) (m := Nat.min 1 n) (by rw [hmin]; split <;> omega)
  simp at this
  simp [e1, this]
 ·obtain ⟨k, hk, hk1, a7, a8, hA, _, ho1, ho⟩ := hI
  by_cases hlt : k < n
  ·have hlt' : (k : Int) < (n : Int) := by omega
   have hk1 := hk1 (by omega)
   obtain ⟨m, hm, hm1, hm2, hm3⟩ : ∃ m, k.min (n - k) = m ∧ min (n - k) k = m ∧ k + m ≤ n ∧ 1 ≤ m := by
    refine ⟨min k (n - k), rfl, Nat.min_comm _ _, ?_, ?_⟩ <;> omega
   have w5 : IntKind.wrap .i64 ((k : Int) + (m : Int)) = ((k + m : Nat) : Int) := by rw [wrap_i64] <;> omega
   simp [pc49_l1, a7, a8, hlt', acopyTo_eq, ho, hm, hm1, w5]
   refine ⟨by omega, .inl hlt, by omega, ⟨k + m, hm2, fun _ => by omega, by simp [a7], by simp, hA.setO (Nat.le_refl _), rfl, by simpa using ho1, ?_⟩, ?_⟩
   ·rw [rep_splice _ _ hm2]
    simp
   ·simp only [MU, a8]; simp; omega
  ·have : k = n := by omega
   subst this
   simp [pc49_l1, pc49_r1, a7, a8]
   refine .inr ⟨σ.no, 1, List.replicate k (.int .i64 t), by simp, ?_, fun x hx => by rw [(List.mem_replicate.1 hx).2]; rfl, ?_⟩
   ·rw [flat_one _ (fun x hx => by rw [(List.mem_replicate.1 hx).2]; rfl)]
    simpa using ho
   ·have hn := hA.nf
    refine h _ τ.nf ⟨by simpa using hA.no, by simp; omega, fun o ho => ?_, fun f hf => ?_⟩ hn (by simp) (by simp)
    ·have : ¬ o = σ.no := by omega
     simp [this]
     exact hA.obj o ho
    ·have : ¬ f = τ.nf := by omega
     simp [this]
     exact hA.fam f hf
end
end Go.Proofs.YthejpoplbllcbaaDoor
set_option linter.unusedSimpArgs false
set_option linter.unusedVariables false
namespace Go.Proofs.YthejpoplbllcbaaDoor
open Go Go.Abs
structure KeepF (x fo : Nat) (σ σ' : AS) : Prop where
 no : σ.no ≤ σ'.no
 nf : σ.nf ≤ σ'.nf
 obj : ∀ o, o < σ.no → o ≠ x → o ≠ fo → σ'.objs o = σ.objs o
 fam : ∀ f, f < σ.nf → σ'.F f = σ.F f
theorem KeepF.refl (x fo σ) : KeepF x fo σ σ := ⟨Nat.le_refl _, Nat.le_refl _, fun _ _ _ _ => rfl, fun _ _ => rfl⟩
theorem KeepF.trans {x fo σ σ1 σ2} (h : KeepF x fo σ σ1) (h' : KeepF x fo σ1 σ2) : KeepF x fo σ σ2 where
 no := Nat.le_trans h.no h'.no
 nf := Nat.le_trans h.nf h'.nf
 obj o a b c := by rw [h'.obj o (Nat.lt_of_lt_of_le a h.no) b c, h.obj o a b c]
 fam f a := by rw [h'.fam f (Nat.lt_of_lt_of_le a h.nf), h.fam f a]
theorem KeepS.f {x fo σ σ'} (h : KeepS x σ σ') : KeepF x fo σ σ' := ⟨h.no, h.nf, fun o a b _ => h.obj o a b, h.fam⟩
theorem KeepF.setO {x fo σ σ' o cs} (h : KeepF x fo σ σ') (ho : o = x ∨ o = fo ∨ σ.no ≤ o) : KeepF x fo σ (σ'.setO o cs) where
 no := h.no
 nf := h.nf
 obj p a b c := by
  have : ¬ p = o := by rcases ho with h | h | h <;> omega
  simp [this]
  exact h.obj p a b c
 fam := h.fam
theorem KeepF.adds {x fo σ σ1 σ2} (h : KeepF x fo σ σ1) (A : Adds σ1 σ2) : KeepF x fo σ σ2 := h.trans ⟨A.no, A.nf, fun o a _ _ => A.obj o a, A.fam⟩
theorem KeepF.endF {x fo σ τ} (K : KeepF x fo σ τ) {g : Nat} (hg : σ.nf ≤ g) : KeepF x fo σ (τ.setF g .dead) where
 no := K.no
 nf := K.nf
 obj := K.obj
 fam f a := by
  have : ¬ f = g := by omega
  simp [this]
  exact K.fam f a
theorem KeepF.newF {x fo σ τ} (K : KeepF x fo σ τ) : KeepF x fo σ τ.newF where
 no := K.no
 nf := Nat.le_succ_of_le K.nf
 obj := K.obj
 fam f a := by
  have := K.nf
  have : ¬ f = τ.nf := by omega
  simp [this]
  exact K.fam f a
def NoneA (R : Out → AS → Prop) (σ0 : AS) : Prop := ∀ e σ', ErrV e → Adds σ0 σ' → R (.panic e) σ'
theorem noneR_of {R σ0 σ base β x s} (h : NoneA R σ0) (A : Adds σ0 σ) (hx : σ0.no ≤ x) (hb : σ0.nf ≤ base) (hR : Rdr base β x s σ) : NoneR R x σ := fun e σ' he K => h e σ' he ⟨Nat.le_trans A.no K.no, Nat.le_trans A.nf K.nf, fun o ho => by
 have := A.no
 rw [K.obj o (by omega) (by omega), A.obj o ho], fun f hf => by
 have := A.nf
 rw [K.fam f (by omega) (hR.uses (by omega)), A.fam f hf]⟩
theorem KeepF.adds0 {x fo σ0 σ σ'} (K : KeepF x fo σ σ') (A : Adds σ0 σ) (hx : σ0.no ≤ x) (hf : σ0.no ≤ fo) : Adds σ0 σ' := ⟨Nat.le_trans A.no K.no, Nat.le_trans A.nf K.nf, fun o ho => by
 have := A.no
 rw [K.obj o (by omega) (by omega) (by omega), A.obj o ho], fun f hf => by
 have := A.nf
 rw [K.fam f (by omega), A.fam f hf]⟩
theorem splice_at {cs : List AV} {i : Nat} {v : AV} (h : i < cs.length) : (splice cs i [v])[i]? = some v := by
 unfold splice
 rw [List.append_assoc, List.getElem?_append_right (by simp; omega)]
 have : i - (cs.take i).length = 0 := by simp; omega
 rw [this]
 rfl
theorem splice_len {cs : List AV} {i : Nat} {v : AV} (h : i < cs.length) : (splice cs i [v]).length = cs.length := by
 unfold splice
 simp
 omega
theorem splice_set {cs : List AV} {i : Nat} {v : AV} (h : i < cs.length) : splice cs i [v] = cs.set i v := by
 unfold splice
 apply List.ext_getElem?
 intro j
 rw [List.append_assoc]
 rcases Nat.lt_trichotomy j i with h1 | h1 | h1
 ·rw [List.getElem?_append_left (by simp; omega), List.getElem?_take_of_lt h1, List.getElem?_set_ne (by omega)]
 ·subst h1
  rw [List.getElem?_append_right (by simp; omega), List.getElem?_set_self h]
  have : j - (cs.take j).length = 0 := by simp; omega
  rw [this]
  rfl
 ·rw [List.getElem?_append_right (by simp; omega), List.getElem?_set_ne (by omega)]
  have e : j - (cs.take i).length = (j - i - 1) + 1 := by simp; omega
  rw [e]
  simp only [List.singleton_append, List.getElem?_cons_succ, List.length_cons, List.length_nil, Nat.zero_add, List.getElem?_drop]
  congr 1
  omega
theorem grow_Rs {base β x s} {σ0 τ : AS} {v : AV} {xs ys : List AV} {bsz : Nat} {K : AV → AS → Prop} (hG : GrowR σ0 x 1 τ v xs) (hR : Rdr base β x s τ) (hn : σ0.nf ≤ τ.nf) (hb : base ≤ σ0.nf) (hl : (xs.length + ys.length) * bsz ≤ 2 ^ 47)
  (h : ∀ v' τ', GrowR σ0 x 1 τ' v' (xs ++ ys) → Rdr base β x s τ' → τ'.objs = τ.objs → τ'.no = τ.no → (∀ fo, KeepF x fo σ0 τ → KeepF x fo σ0 τ') → K v' τ') : grown bsz 1 v ys τ K := by
 rcases hG with ⟨rfl, rfl⟩ | ⟨g, rfl, h2, h3, h4, h5⟩
 ·cases ys with
  | nil =>
   simp
   exact h _ _ (.inl ⟨rfl, rfl⟩) hR rfl rfl fun _ q => q
  | cons y ys =>
   have hnu : ¬ UsesR τ.newF x τ.nf := fun u => by have := hR.lt (f := τ.nf) u; omega
   have := h (.sl (.fam τ.nf false) 1 (y :: ys)) τ.newF (.inr ⟨τ.nf, rfl, hn, by simp, by simp, hnu⟩) hR.newF (by simp) (by simp) (fun _ q => q.newF)
   simp at hl
   simp
   exact ⟨by omega, this⟩
 ·have hR' := (hR.endF (by omega) h5).newF
  have hnu : ¬ UsesR (τ.setF g .dead).newF x τ.nf := fun u => by have := hR.lt (f := τ.nf) u; omega
  have := h (.sl (.fam τ.nf false) 1 (xs ++ ys)) (τ.setF g .dead).newF (.inr ⟨τ.nf, rfl, hn, by simp, by simp, hnu⟩) hR' (by simp) (by simp) (fun _ q => (q.endF h2).newF)
  simp [h4]
  exact ⟨hl, this⟩
section
variable {G : Env} {σ : AS} {R : Out → AS → Prop}
theorem GrowR.setO {σ0 x sz τ v xs o cs} (h : GrowR σ0 x sz τ v xs) (ho : o ≠ x) : GrowR σ0 x sz (τ.setO o cs) v xs := by
 rcases h with h | ⟨g, h1, h2, h3, h4, h5⟩
 ·exact .inl h
 ·refine .inr ⟨g, h1, h2, h3, h4, fun ⟨cs', v, u1, u2, u3⟩ => h5 ?_⟩
  have : ¬ x = o := fun e => ho e.symm
  simp [this] at u1
  exact ⟨cs', v, u1, u2, u3⟩
def GpR (base : Nat) (β : Option Nat) (x fo off : Nat) (cs : List AV) (N : Int) (s1 : Rs) (σ : AS) (a : Nat → AV) (τ : AS) : Prop := ∃ (i : Nat) (done : List (List Int)) (s : Rs) (lv : AV), (i : Int) ≤ max N 0 ∧ repP (groupP false) N.toNat s1 = (repP (groupP false) (N.toNat - i) s).map (fun q => (done ++ q.1, q.2)) ∧ s.n = s1.n + done.flatten.length ∧ s.b.length ≤ s1.b.length ∧ s.n ≤ 65536 ∧ s.ls = s1.ls ∧
 a 0 = .ptr x 0 ∧ a 1 = .ptr fo off ∧ a 8 = .int .i64 N ∧ a 9 = .int .i64 (i : Int) ∧ τ.objs fo = some (splice cs (off + 2) [lv]) ∧ GrowR σ x 1 τ lv (done.flatten.map (.int .i64)) ∧ Rdr base β x s τ ∧ KeepF x fo σ τ ∧ fo < τ.no
theorem group_body {base β x fo off cs σ0} {N : Int} {s1 : Rs} (hN : N < 2 ^ 63) (hbase : base ≤ σ.nf) (hfx : fo ≠ x) (hlen : off + 5 ≤ cs.length) (hA : Adds σ0 σ) (hx0 : σ0.no ≤ x) (hf0 : σ0.no ≤ fo) (hb0 : σ0.nf ≤ base) (hnone : repP (groupP false) N.toNat s1 = none → NoneA R σ0)
  (fin : ∀ l s', repP (groupP false) N.toNat s1 = some (l, s') → ∀ a τ lv, a 0 = .ptr x 0 → a 1 = .ptr fo off → τ.objs fo = some (splice cs (off + 2) [lv]) → GrowR σ x 1 τ lv (l.flatten.map (.int .i64)) → Rdr base β x s' τ → KeepF x fo σ τ → fo < τ.no → s'.b.length ≤ s1.b.length → s'.ls = s1.ls → avc Tryd.prog G 63 pc35_r1 (afin Tryd.prog [] R) a τ)
  {a : Nat → AV} {τ : AS} (hI : GpR base β x fo off cs N s1 σ a τ) : avc Tryd.prog G 63 pc35_l1 (athen (fun a' σ' => GpR base β x fo off cs N s1 σ a' σ' ∧ MU 9 (N.toNat + 1) a' σ' < MU 9 (N.toNat + 1) a τ) (ablock 0 (athen (avc Tryd.prog G 63 pc35_r1 (afin Tryd.prog [] R)) (afin Tryd.prog [] R)))) a τ := by
 obtain ⟨i, done, s, lv, hi, he, hsn, hsb, hs65, hsl, a0, a1, a8, a9, hfo, hG, hR, hK, hfn⟩ := hI
 have g1 := hG.one
 have hNA : ∀ {τ' s'}, Rdr base β x s' τ' → KeepF x fo σ τ' → repP (groupP false) N.toNat s1 = none → NoneR R x τ' := fun hr hk hq => noneR_of (hnone hq) (hk.adds0 hA hx0 hf0) hx0 hb0 hr
 by_cases hlt : (i : Int) < N
 ·have w1 : IntKind.wrap .i64 ((i : Int) + 1) = ((i + 1 : Nat) : Int) := by rw [wrap_i64] <;> omega
  simp [pc35_l1, a0, a1, a8, a9, hlt]
  refine number_callsS hR (fun q => ?_) (fun m s2 q τ2 hr2 hk2 => ?_)
  ·exact hNA hR hK (by rw [he, repP_none (by omega) (by unfold groupP; rw [q]; rfl)]; rfl)
  ·have hK2 := hK.trans hk2.f
   obtain ⟨⟨xx, _, hxx⟩, e1', e2, n1, n2, _⟩ := numP_some q
   have hsl2 := sub_len hxx
   obtain ⟨bv, lsv, ho2, hbv, hlv⟩ := hr2.cells
   have b1 := hbv.one
   have l1 := hlv.one
   have hfo2 := (hk2.obj fo hfn hfx).trans hfo
   have w6 : IntKind.wrap .i64 (65536 - (s2.n : Int)) = 65536 - (s2.n : Int) := by rw [wrap_i64] <;> omega
   have gno : ∀ q, ¬ (0 ≤ m ∧ m ≤ 65536 - (s2.n : Int)) → groupP false s = q → q = none := fun q' hno hq => by
    rw [← hq]
    unfold groupP
    rw [q]
    simp only [Option.bind_some]
    rw [if_neg hno]
   by_cases hm0 : 0 ≤ m
   ·by_cases hm1 : m ≤ 65536 - (s2.n : Int)
    ·obtain ⟨k, rfl⟩ : ∃ k : Nat, m = k := ⟨m.toNat, by omega⟩
     have hk65 : s2.n + k ≤ 65536 := by omega
     have w7 : IntKind.wrap .i64 ((s2.n : Int) + (k : Int)) = ((s2.n + k : Nat) : Int) := by rw [wrap_i64] <;> omega
     have hgr : groupP false s = (typeP false { s2 with n := s2.n + k }).map fun q => (List.replicate k q.1, q.2) := by
      unfold groupP
      rw [q]
      simp only [Option.bind_some, Int.toNat_natCast]
      rw [if_pos ⟨hm0, hm1⟩]
     simp [a0, a1, hm0, ho2, w6, hm1]
     refine must_calls (fun _ => ?_) (fun q => by cases q)
     have hr3 : Rdr base β x { s2 with n := s2.n + k } (τ2.setO x [bv, lsv, .int .i64 ((s2.n + k : Nat) : Int)]) := hr2.set (s' := { s2 with n := s2.n + k }) hbv hlv
     have hK3 : KeepF x fo σ (τ2.setO x [bv, lsv, .int .i64 ((s2.n + k : Nat) : Int)]) := hK2.setO (.inl rfl)
     have hfx' : ¬ fo = x := hfx
     have hxf' : ¬ x = fo := fun e => hfx e.symm
     have hfo3 : (τ2.setO x [bv, lsv, .int .i64 ((s2.n + k : Nat) : Int)]).objs fo = some (splice cs (off + 2) [lv]) := by simp [hfx', hfo2]
     have hfn2 := hk2.no
     have hget : (splice cs (off + 2) [lv])[off + 2]? = some lv := splice_at (by omega)
     have hset : ∀ v', splice (splice cs (off + 2) [lv]) (off + 2) [v'] = splice cs (off + 2) [v'] := fun v' => by
      rw [splice_set (by rw [splice_len (by omega)]; omega), splice_set (by omega), splice_set (by omega), List.set_set]
     have hCl : (splice cs (off + 2) [lv]).length = cs.length := splice_len (by omega)
     generalize splice cs (off + 2) [lv] = C at *
     simp [a0, a1, ho2, b1, l1, w7, splice, hfx', hxf', hfo2, hget]
     generalize hτ3 : τ2.setO x [bv, lsv, .int .i64 ((s2.n : Int) + (k : Int))] = τ3 at *
     have hτ3' : τ2.setO x [bv, lsv, .int .i64 ((s2.n + k : Nat) : Int)] = τ3 := hτ3
     rw [hτ3'] at hr3 hK3 hfo3
     have hn3 : τ3.no = τ2.no := by rw [← hτ3]; simp
     refine take1_callsS hr3 (fun q4 => ?_) (fun c s4 q4 v τ4 hv hr4 hk4 => ?_)
     ·refine hNA hr3 hK3 ?_
      rw [he, repP_none (by omega) (by rw [hgr]; unfold typeP; rw [q4]; rfl)]
      rfl
     ·obtain ⟨φ, hφ, rfl⟩ := hv
      have hrd := rd_of hr4 hφ
      obtain ⟨z1, z2, z3⟩ := byteP_some q4
      simp only at z1 z2 z3
      have hfo4 := (hk4.obj fo (by omega) hfx).trans hfo3
      have hK4 := hK3.trans hk4.f
      have hn4 := hk4.no
      have w8 : IntKind.wrap .i64 (c.toNat : Int) = (c.toNat : Int) := by have := c.toNat_lt; rw [wrap_i64] <;> omega
      have w9 : IntKind.wrap .i64 (128 - (c.toNat : Int)) = 128 - (c.toNat : Int) := by have := c.toNat_lt; rw [wrap_i64] <;> omega
      simp [a0, a1, hfo4, hget, hrd, w8, w9]
      refine repeat_calls (by omega) fun τ5 g5 A5 ng5 lg5 al5 => ?_
      have hr5 := hr4.adds A5
      have hK5 := hK4.adds A5
      have hfo5 := (A5.obj fo (by omega)).trans hfo4
      have hn5 := A5.no
      have hG5 : GrowR σ x 1 τ5 lv (done.flatten.map (.int .i64)) := by
       have h1 : GrowR σ x 1 τ2 lv (done.flatten.map (.int .i64)) := hG.keep hk2.r
       have h2 : GrowR σ x 1 τ3 lv (done.flatten.map (.int .i64)) := by
        rw [← hτ3]
        rcases h1 with h | ⟨g, q1, q2, q3, q4, q5⟩
        ·exact .inl h
        ·refine .inr ⟨g, q1, q2, q3, q4, fun ⟨cs', v, u1, u2, u3⟩ => q5 ?_⟩
         simp at u1
         subst u1
         exact ⟨_, _, ho2, u2, u3⟩
       exact (h2.keep hk4.r).keep (A5.keepR hr4.hx)
      have hmp : List.replicate k (AV.int .i64 (128 - (c.toNat : Int))) = (List.replicate k (128 - (c.toNat : Int))).map (.int .i64) := by simp
      have hdl : done.flatten.length ≤ 65536 := by omega
      simp [hfo5, hget, al5]
      rw [hmp]
      refine grow_Rs hG5 hr5 hK5.nf hbase (by rw [List.length_map, List.length_map, List.length_replicate]; omega) fun v' τ6 e1 e2' e3 e4 e5 => ?_
      have hv1 := e1.one
      have hfo6 : τ6.objs fo = some C := (congrFun e3 fo).trans hfo5
      simp [a1, a9, hfo6, hv1, w1, hCl]
      refine ⟨by omega, ⟨i + 1, done ++ [List.replicate k (128 - (c.toNat : Int))], s4, v', by omega, ?_, ?_, ?_, ?_, ?_, by simp [a0], by simp [a1], by simp [a8], by simp, ?_, ?_, ?_, ?_, ?_⟩, ?_⟩
      ·rw [he, repP_step (s' := s4) (a := List.replicate k (128 - (c.toNat : Int))) (by omega) (by rw [hgr]; unfold typeP; rw [q4]; simp)]
       have : N.toNat - i - 1 = N.toNat - (i + 1) := by omega
       rw [this]
       cases repP (groupP false) (N.toNat - (i + 1)) s4 with
       | none => rfl
       | some p => simp
      ·rw [List.flatten_append, List.length_append, z3, e2, hsn]
       simp
       omega
      ·rw [z1] at hsl2
       simp only [List.length_cons] at hsl2
       omega
      ·omega
      ·rw [z2, e1', hsl]
      ·simp [hset]
      ·have e7 : (done ++ [List.replicate k (128 - (c.toNat : Int))]).flatten.map (AV.int .i64) = done.flatten.map (.int .i64) ++ (List.replicate k (128 - (c.toNat : Int))).map (.int .i64) := by simp
       rw [e7]
       exact e1.setO hfx
      ·exact e2'.setO hfx
      ·exact (e5 fo hK5).setO (.inr (.inl rfl))
      ·simp; omega
      ·simp only [MU, a9]; simp; omega
    ·have hg := gno _ (fun h => hm1 h.2) rfl
     simp [a0, a1, hm0, ho2, w6, hm1]
     refine must_calls (fun q => by cases q) (fun _ => ?_)
     simp
     exact hNA hr2 hK2 (by rw [he, repP_none (by omega) hg]; rfl) _ _ (.inr (.inr rfl)) (.refl ..)
   ·have hg := gno _ (fun h => hm0 h.1) rfl
    simp [a0, a1, hm0]
    refine must_calls (fun q => by cases q) (fun _ => ?_)
    simp
    exact hNA hr2 hK2 (by rw [he, repP_none (by omega) hg]; rfl) _ _ (.inr (.inr rfl)) (.refl ..)
 ·simp [pc35_l1, a8, a9, hlt]
  have hz : N.toNat - i = 0 := by omega
  rw [hz] at he
  simp only [repP, Option.map_some, List.append_nil] at he
  exact fin _ _ he _ _ lv (by simpa using a0) (by simpa using a1) hfo hG hR hK hfn hsb hsl
theorem Rdr.mrgP {base β x s τ} (h : Rdr base β x s τ) {g : Nat} {p : Nat → Bool} (hp : p x = false) (hg : base ≤ g) (hu : ¬ UsesR τ x g) : Rdr base β x s (τ.mrg g p) := by
 obtain ⟨bv, lv, ho, hv, hl⟩ := h.cells
 have hb := h.hb
 refine ⟨h.hx, hb, ?_, fun f hf => ?_, bv, lv, by simpa [AS.mrg, hp] using ho, hv, ?_⟩
 ·have : ¬ 0 = g := by omega
  simp [AS.mrg, mrgF, this, h.h0]
 ·obtain ⟨h1, h2⟩ := h.hβ f hf
  have : ¬ f = g := by omega
  exact ⟨h1, by simp [AS.mrg, mrgF, this, h2]⟩
 ·rcases hl with h1 | ⟨f, tos, h1, h2, h3, h4, h5⟩
  ·exact .inl h1
  ·have : ¬ f = g := fun e => hu ⟨_, _, ho, rfl, by rw [h1, ← e]; rfl⟩
   exact .inr ⟨f, tos, h1, h2, h3, by simp [AS.mrg, mrgF, this, h4], h5⟩
theorem KeepF.mrg {x fo σ τ} (K : KeepF x fo σ τ) {g : Nat} (hg : σ.nf ≤ g) : KeepF x fo σ (τ.mrg g fun o => o == fo) where
 no := K.no
 nf := K.nf
 obj o a b c := by
  have : ¬ o = fo := c
  simpa [AS.mrg, this] using K.obj o a b c
 fam f a := by
  have : ¬ f = g := by omega
  simp [AS.mrg, mrgF, this]
  exact K.fam f a
theorem map_splice (f : AV → AV) (cs : List AV) (i : Nat) (v : AV) : (splice cs i [v]).map f = splice (cs.map f) i [f v] := by
 simp [splice]
theorem function_calls (V : VarsB G) {base β x s fo off cs f σ0} (h : Rdr base β x s σ) (hfx : fo ≠ x) (hfn : fo < σ.no) (ho : σ.objs fo = some cs) (hc2 : cs[off + 2]? = some .nilsl) (hlen : off + 5 ≤ cs.length) (hfl : f.locals = []) (hsz : s.b.length ≤ 2 ^ 37) (hs65 : s.n ≤ 65536) (hmr : ∀ g, σ.nf ≤ g → cs.map (Go.Abs.mrg g) = cs)
  (hA : Adds σ0 σ) (hx0 : σ0.no ≤ x) (hf0 : σ0.no ≤ fo) (hb0 : σ0.nf ≤ base) (hn : functionP false f s = none → NoneA R σ0)
  (hs : ∀ f' s', functionP false f s = some (f', s') → ∀ σ' lv tv g, Al.IntsE lv f'.locals → Al.LstE g tv f'.lists → (f'.lists ≠ [] → σ.nf ≤ g ∧ g < σ'.nf ∧ σ'.F g = .alive) → Rdr base β x s' σ' → KeepF x fo σ σ' → σ'.objs fo = some (splice (splice cs (off + 2) [lv]) (off + 4) [tv]) → R (.ret (.tuple [])) σ') : ACalls Tryd.prog G 35 [.ptr x 0, .ptr fo off] σ R := by
 have hnM : NoneA R σ0 → NoneA (Al.MrgOr R) σ0 := fun q e σ' a b => .inl (q e σ' a b)
 refine Al.merging (calls35 rfl ?_)
 have hbase := h.hb.2
 simp [pc35]
 refine number_callsS h (fun q => noneR_of (hnM (hn (by unfold functionP; rw [q]; rfl))) hA hx0 hb0 h) (fun m1 s1 q1 σ1 hr1 hk1 => ?_)
 have K1 : KeepF x fo σ σ1 := hk1.f
 simp
 refine number_callsS hr1 (fun q => noneR_of (hnM (hn (by unfold functionP; rw [q1]; simp only [Option.bind_some]; rw [q]; rfl))) (K1.adds0 hA hx0 hf0) hx0 hb0 hr1) (fun N s2 q2 σ2 hr2 hk2 => ?_)
 have K2 : KeepF x fo σ σ2 := K1.trans hk2.f
 obtain ⟨⟨xx, _, hxx⟩, z1, z2, _⟩ := numP_some q1
 obtain ⟨⟨yy, _, hyy⟩, z3, z4, n1, n2, _⟩ := numP_some q2
 have l1 := sub_len hxx
 have l2 := sub_len hyy
 have hfn1 := hk1.no
 have hfn2 := hk2.no
 have ho2 : σ2.objs fo = some cs := (hk2.obj fo (by omega) hfx).trans ((hk1.obj fo hfn hfx).trans ho)
 have A2 := K2.adds0 hA hx0 hf0
 have hfp : functionP false f s = (repP (groupP false) N.toNat s2).bind fun l => (listP false (l.2.b.length + 1) 0 [] { l.2 with ls := [] }).map fun r => ({ f with locals := f.locals ++ l.1.flatten, lists := r.2.ls }, r.2) := by
  unfold functionP
  rw [q1]
  simp only [Option.bind_some]
  rw [q2]
  rfl
 have hcs0 : splice cs (off + 2) [.nilsl] = cs := by
  rw [splice_set (by omega)]
  apply List.ext_getElem?
  intro j
  by_cases hj : j = off + 2
  ·subst hj
   rw [List.getElem?_set_self (by omega), hc2]
  ·rw [List.getElem?_set_ne (by omega)]
 simp
 refine aloop (GpR base β x fo off cs N s2 σ2) (MU 9 (N.toNat + 1)) ⟨0, [], s2, .nilsl, by omega, by cases hh : repP (groupP false) N.toNat s2 <;> simp [hh], by simp, Nat.le_refl _, by omega, rfl, by simp, by simp, by simp, by simp, by rw [hcs0]; exact ho2, .inl ⟨rfl, rfl⟩, hr2, .refl .., by omega⟩ fun a τ hI => ?_
 refine group_body n2 hr2.hb.2 hfx hlen A2 hx0 hf0 hb0 (fun q => hnM (hn (by rw [hfp, q]; rfl))) (fun l s3 q3 a τ lv a0 a1 hfo hG hR hK hfn3 hl3 hls3 => ?_) hI
 rw [q3] at hfp
 simp only [Option.bind_some] at hfp
 have K3 := K2.trans hK
 obtain ⟨bv, lsv, hox, hbv, hlv⟩ := hR.cells
 have b1 := hbv.one
 have hfx' : ¬ fo = x := hfx
 have hxf' : ¬ x = fo := fun e => hfx e.symm
 simp [pc35_r1, a0, a1, hox, splice]
 have hr4 : Rdr base β x { s3 with ls := [] } (τ.setO x [bv, .nilsl, .int .i64 (s3.n : Int)]) := hR.set (s' := { s3 with ls := [] }) hbv (.inl ⟨rfl, rfl⟩)
 have K4 : KeepF x fo σ (τ.setO x [bv, .nilsl, .int .i64 (s3.n : Int)]) := K3.setO (.inl rfl)
 have nou : ∀ g, ¬ UsesR (τ.setO x [bv, .nilsl, .int .i64 (s3.n : Int)]) x g := fun g ⟨cs', v, u1, u2, u3⟩ => by
  simp at u1
  subst u1
  simp at u2
  subst u2
  cases u3
 have hfo4 : (τ.setO x [bv, .nilsl, .int .i64 (s3.n : Int)]).objs fo = some (splice cs (off + 2) [lv]) := by simp [hfx', hfo]
 have hG4 : GrowR σ2 x 1 (τ.setO x [bv, .nilsl, .int .i64 (s3.n : Int)]) lv (l.flatten.map (.int .i64)) := by
  rcases hG with h | ⟨g, h1, h2, h3, h4, h5⟩
  ·exact .inl h
  ·exact .inr ⟨g, h1, h2, h3, h4, nou g⟩
 have hn4 : (τ.setO x [bv, .nilsl, .int .i64 (s3.n : Int)]).no = τ.no := by simp
 have hnf4 : (τ.setO x [bv, .nilsl, .int .i64 (s3.n : Int)]).nf = τ.nf := by simp
 generalize τ.setO x [bv, .nilsl, .int .i64 (s3.n : Int)] = τ4 at *
 refine list_okR V (s3.b.length + 1) (s3.b.length + 1) (Nat.le_refl _) τ4 _ { s3 with ls := [] } 0 hr4 (by simp) (by simp; omega) (by omega) (fun q4 => noneR_of (hnM (hn (by rw [hfp, q4]; rfl))) (K4.adds0 hA hx0 hf0) hx0 hb0 hr4) (fun n e s5 q5 τ5 hr5 hk5 => ?_)
 rw [q5] at hfp
 simp only [Option.map_some] at hfp
 have K5 : KeepF x fo σ τ5 := K4.trans ⟨hk5.no, hk5.nf, fun o a b _ => hk5.obj o a b, fun f a => hk5.fam f a (nou f)⟩
 have hn5 := hk5.no
 have hfo5 := (hk5.obj fo (by omega) hfx).trans hfo4
 obtain ⟨bv5, tv, hox5, hbv5, htv⟩ := hr5.cells
 have t1 := htv.one
 have hG5 := hG4.keep hk5
 have hLst : ∃ g, Al.LstE g tv s5.ls ∧ (s5.ls ≠ [] → τ4.nf ≤ g ∧ g < τ5.nf ∧ τ5.F g = .alive ∧ UsesR τ5 x g) := by
  rcases htv with ⟨h1, h2⟩ | ⟨g, tos, h1, h2, h3, h4, h5⟩
  ·exact ⟨0, .inl ⟨h1, h2⟩, fun q => absurd h1 q⟩
  ·have hu : UsesR τ5 x g := ⟨_, _, hox5, rfl, by rw [h1]; rfl⟩
   refine ⟨g, .inr ⟨tos, h1, h5⟩, fun _ => ⟨?_, h3, h4, hu⟩⟩
   by_cases hlt : g < τ4.nf
   ·exact absurd (hk5.use g hlt hu) (nou g)
   ·omega
 obtain ⟨g, hL, hLg⟩ := hLst
 have hsl : (splice cs (off + 2) [lv]).length = cs.length := splice_len (by omega)
 have fin : ∀ (τ6 : AS) (lv' : AV), Al.IntsE lv' (f.locals ++ l.flatten) → Rdr base β x s5 τ6 → KeepF x fo σ τ6 → τ6.objs fo = some (splice (splice cs (off + 2) [lv']) (off + 4) [tv]) → (s5.ls ≠ [] → σ.nf ≤ g ∧ g < τ6.nf ∧ τ6.F g = .alive) → R (.ret (.tuple [])) τ6 := fun τ6 lv' e1 e2 e3 e4 e5 =>
  hs _ _ hfp τ6 lv' tv g e1 hL e5 e2 e3 e4
 simp [a0, a1, hox5, t1, hfo5]
 refine ⟨by rw [hsl]; omega, ?_⟩
 have hr6 := hr5.setO (o := fo) (cs := splice (splice cs (off + 2) [lv]) (off + 4) [tv]) hfx
 have K6 := K5.setO (o := fo) (cs := splice (splice cs (off + 2) [lv]) (off + 4) [tv]) (.inr (.inl rfl))
 have hnfs : σ.nf ≤ σ2.nf := K2.nf
 rcases hG5 with ⟨e1, rfl⟩ | ⟨gl, rfl, e2, e3, e4, e5⟩
 ·have hl0 : l.flatten = [] := by simpa using e1
  refine .inl (fin _ .nilsl (.inl ⟨by rw [hl0, hfl]; rfl, .inl rfl⟩) hr6 K6 (by simp) fun q => ?_)
  obtain ⟨u1, u2, u3, _⟩ := hLg q
  have := K4.nf
  exact ⟨by omega, by simpa using u2, by simpa using u3⟩
 ·have hne : s5.ls ≠ [] → ¬ g = gl := fun q e => by
   subst e
   exact e5 (hLg q).2.2.2
  have hnu6 : ¬ UsesR (τ5.setO fo (splice (splice cs (off + 2) [AV.sl (.fam gl false) 1 (l.flatten.map (.int .i64))]) (off + 4) [tv])) x gl :=
   fun ⟨cs', v, u1, u2, u3⟩ => e5 ⟨cs', v, by simpa [hxf'] using u1, u2, u3⟩
  have hne5 : s5.ls ≠ [] := fun q => by
   obtain ⟨_, y1, y2, _⟩ := listP_ls _ _ _ _ _ _ _ _ q5
   rw [q] at y1
   simp at y1 y2
   omega
  have htvm : Go.Abs.mrg gl tv = tv := by
   rcases hL with ⟨_, rfl⟩ | ⟨tos, rfl, ht⟩
   ·simp
   ·rw [mrg_sl_fam, Al.mrg_rows ht]
    rw [if_neg (hne hne5)]
  refine Al.MrgOr.merged gl (fun o => o == fo) (by simp; omega) (by simpa using e4) ?_
  have hmm : Go.Abs.mrg gl (.tuple []) = .tuple [] := by simp
  rw [hmm]
  refine fin _ (.sl (.fam 0 false) 1 (l.flatten.map (.int .i64))) (.inr ⟨false, by rw [hfl]; rfl⟩) (hr6.mrgP (by simpa using hxf') (by omega) hnu6) (K6.mrg (by omega)) ?_ fun q => ?_
  ·simp [AS.mrg, map_splice, hmr gl (by omega), htvm, Function.comp_def]
  ·obtain ⟨u1, u2, u3, _⟩ := hLg q
   have := K4.nf
   have := hne q
   exact ⟨by omega, by simpa [AS.mrg] using u2, by simpa [AS.mrg, mrgF, this] using u3⟩
end
end Go.Proofs.YthejpoplbllcbaaDoor
set_option linter.unusedSimpArgs false
set_option linter.unusedVariables false
namespace Go.Proofs.YthejpoplbllcbaaDoor
open Go Go.Abs
def HV (v : AV) (f : F) : Prop := ∃ pv, v = .agg [.str [], pv, .nilsl, .int .i64 f.type, .nilsl] ∧ Al.IntsE pv f.params ∧ f.name = [] ∧ f.locals = [] ∧ f.lists = []
theorem typesP_len {st : Bool} {s s' : Rs} {l : List Int} (h : typesP st s = some (l, s')) : s'.b.length + l.length ≤ s.b.length := by
 unfold typesP at h
 simp only [Option.bind_eq_some_iff] at h
 obtain ⟨⟨n, s1⟩, h1, h2⟩ := h
 obtain ⟨⟨xx, _, hx⟩, _⟩ := numP_some h1
 have hl := sub_len hx
 have key : ∀ {n : Nat} {s s' : Rs} {l : List Int}, repP (typeP st) n s = some (l, s') → s'.b.length + l.length ≤ s.b.length := by
  intro n
  induction n with
  | zero => intro s s' l h; cases h; simp
  | succ n ih =>
   intro s s' l h
   rw [repP] at h
   simp only [Option.bind_eq_some_iff, Option.map_eq_some_iff] at h
   obtain ⟨⟨t, s1⟩, h1, ⟨l', s2⟩, h2, h3⟩ := h
   cases h3
   have := ih h2
   unfold typeP at h1
   simp only [Option.bind_eq_some_iff] at h1
   obtain ⟨⟨c, s3⟩, h4, h5⟩ := h1
   obtain ⟨b1, _, _⟩ := byteP_some h4
   have b2 : s.b.length = s3.b.length + 1 := by rw [b1]; rfl
   split at h5
   ·cases h5
   ·cases h5
    simp only [List.length_cons] at *
    omega
 have := key h2
 simp only at *
 omega
theorem headP_len {st : Bool} {s s' : Rs} {f : F} (h : headP st s = some (f, s')) : s'.b.length + 1 + f.params.length ≤ s.b.length := by
 unfold headP at h
 simp only [Option.bind_eq_some_iff, Option.map_eq_some_iff] at h
 obtain ⟨⟨c, s1⟩, h1, ⟨l, s2⟩, h2, ⟨r, s3⟩, h3, h4⟩ := h
 cases h4
 obtain ⟨a0, a1, a2⟩ := byteP_some h1
 have b2 : s.b.length = s1.b.length + 1 := by rw [a0]; rfl
 have := typesP_len h2
 have := typesP_len h3
 simp only at *
 omega
section
variable {G : Env} {σ : AS} {R : Out → AS → Prop}
def HdI (base : Nat) (β : Option Nat) (x : Nat) (N : Int) (s1 : Rs) (σ : AS) (a : Nat → AV) (τ : AS) : Prop := ∃ (i : Nat) (done : List F) (rows : List AV) (s : Rs), (i : Int) ≤ max N 0 ∧ repP (headP false) N.toNat s1 = (repP (headP false) (N.toNat - i) s).map (fun q => (done ++ q.1, q.2)) ∧ s.b.length + done.length ≤ s1.b.length ∧ a 0 = .ptr x 0 ∧ a 8 = .int .i64 N ∧ a 9 = .int .i64 (i : Int) ∧ All2 HV rows done ∧ GrowR σ x 5 τ (a 2) rows ∧ Rdr base β x s τ ∧ KeepS x σ τ
theorem heads_loop {base β x} {N : Int} {s1 : Rs} (hN : N < 2 ^ 63) (hb1 : s1.b.length ≤ 2 ^ 37) (hbase : base ≤ σ.nf) (hnone : repP (headP false) N.toNat s1 = none → NoneR R x σ) (fin : ∀ l s', repP (headP false) N.toNat s1 = some (l, s') → ∀ a τ rows, All2 HV rows l → GrowR σ x 5 τ (a 2) rows → Rdr base β x s' τ → KeepS x σ τ → s'.b.length + l.length ≤ s1.b.length → avc Tryd.prog G 36 pc32_r1 (afin Tryd.prog [.tmp 2] R) a τ)
  {a : Nat → AV} {τ : AS} (hI : HdI base β x N s1 σ a τ) : avc Tryd.prog G 36 pc32_l1 (athen (fun a' σ' => HdI base β x N s1 σ a' σ' ∧ MU 9 (N.toNat + 1) a' σ' < MU 9 (N.toNat + 1) a τ) (ablock 0 (athen (avc Tryd.prog G 36 pc32_r1 (afin Tryd.prog [.tmp 2] R)) (afin Tryd.prog [.tmp 2] R)))) a τ := by
 obtain ⟨i, done, rows, s, hi, he, hlen, a0, a8, a9, hrows, hG, hR, hK⟩ := hI
 have g1 := hG.one
 have hx := hR.hx
 by_cases hlt : (i : Int) < N
 ·have w1 : IntKind.wrap .i64 ((i : Int) + 1) = ((i + 1 : Nat) : Int) := by rw [wrap_i64] <;> omega
  have hnn : headP false s = none → NoneR R x σ := fun q => hnone (by rw [he, repP_none (by omega) q]; rfl)
  simp [pc32_l1, a0, a8, a9, hlt]
  refine take1_callsS hR (fun q => NoneR.mono (hnn (by unfold headP; rw [q]; rfl)) hK.r) (fun c s2 q v τ2 hv hr2 hk2 => ?_)
  obtain ⟨z1, z2, z3⟩ := byteP_some q
  have hsl : s.b.length = s2.b.length + 1 := by rw [z1]; rfl
  have K2 := hK.trans hk2
  simp [a0]
  refine typesRd_callsS hr2 (by omega) (fun q3 => NoneR.mono (hnn (by unfold headP; rw [q]; simp only [Option.bind_some]; rw [q3]; rfl)) K2.r) (fun ps s3 q3 pv τ3 hpv hr3 hk3 => ?_)
  have hl3 := typesP_len q3
  have K3 := K2.trans hk3
  have p1 := hpv.one
  have hx3 := hr3.hx
  obtain ⟨bv3, lsv3, ho3, _⟩ := hr3.cells
  have A4 : Adds τ3 ((τ3.newO [.str [], .nilsl, .nilsl, .int .i64 0, .nilsl]).setO τ3.no [.str [], pv, .nilsl, .int .i64 0, .nilsl]) := .mk1
  have K4 := K3.trans (A4.keepS hx3 ho3)
  have hr4 := hr3.adds A4
  simp [a0, p1, splice]
  refine typesRd_callsS hr4 (by omega) (fun q5 => NoneR.mono (hnn (by unfold headP; rw [q]; simp only [Option.bind_some]; rw [q3]; simp only [Option.bind_some]; rw [q5]; rfl)) K4.r) (fun gs s5 q5 gv τ5 hgv hr5 hk5 => ?_)
  have hl5 := typesP_len q5
  have K5 := K4.trans hk5
  have gv1 := hgv.one
  have gvo := Al.ints_e (σ := τ5) ⟨by have := hr5.hb; omega, hr5.h0⟩ hgv
  have gvl := gvo.len
  have hxo : ¬ x = τ3.no := by omega
  have hxo' : ¬ τ3.no = x := by omega
  have o5 := (hk5.obj τ3.no (by simp) hxo').trans (show _ = some [.str [], pv, .nilsl, .int .i64 0, .nilsl] by simp)
  have n5 := hk5.no
  simp at n5
  have hh : headP false s = some ({ name := [], params := ps, locals := [], type := gs.headD 0, lists := [] }, s5) := by
   unfold headP
   rw [q]
   simp only [Option.bind_some]
   rw [q3]
   simp only [Option.bind_some]
   rw [q5]
   rfl
  have hG5 : GrowR σ x 5 τ5 (a 2) rows := ((hG.keep hk2.r).keep hk3.r).keep ((A4.keepR hx3).trans hk5.r)
  have next : ∀ (a' : Nat → AV) (τ' : AS) rows', a' 0 = .ptr x 0 → a' 8 = .int .i64 N → a' 9 = .int .i64 ((i + 1 : Nat) : Int) → All2 HV rows' (done ++ [{ name := [], params := ps, locals := [], type := gs.headD 0, lists := [] }]) → GrowR σ x 5 τ' (a' 2) rows' → Rdr base β x s5 τ' → KeepS x σ τ' → HdI base β x N s1 σ a' τ' ∧ MU 9 (N.toNat + 1) a' τ' < MU 9 (N.toNat + 1) a τ := by
   intro a' τ' rows' e0 e8 e9 eR eG eD eK
   refine ⟨⟨i + 1, _, rows', s5, by omega, ?_, by simp; omega, e0, e8, e9, eR, eG, eD, eK⟩, ?_⟩
   ·rw [he, repP_step (s' := s5) (a := _) (by omega) hh]
    have : N.toNat - i - 1 = N.toNat - (i + 1) := by omega
    rw [this]
    cases repP (headP false) (N.toNat - (i + 1)) s5 with
    | none => rfl
    | some p => simp
   ·simp only [MU, e9, a9]; omega
  have hrl := hrows.length
  cases gs with
  | nil =>
   simp at gvl
   simp [gvl, o5, p1]
   refine grow_R (row := .agg [.str [], pv, .nilsl, .int .i64 0, .nilsl]) hG5 hr5 K5.r hbase (by simp) (by rw [hrl]; omega) fun v' τ6 e1 e2 e3 e4 e5 e6 => ?_
   simp [a9, w1]
   exact next _ _ _ (by simp [a0]) (by simp [a8]) (by simp) (hrows.append (.cons ⟨pv, rfl, hpv, rfl, rfl, rfl⟩ .nil)) (by simpa using e1) e2 (e6 K5)
  | cons t gs =>
   obtain ⟨φ, hrd, hix⟩ := gvo.at (i := 0) (by simp)
   have hrd := hrd.read
   simp at gvl hix
   have hpos : (0 : Int) < (gs.length : Int) + 1 := by omega
   simp [gvl, hpos, hix, hrd, o5, p1, splice]
   have hr6 := hr5.setO (o := τ3.no) (cs := [.str [], pv, .nilsl, .int .i64 t, .nilsl]) hxo'
   have K6 : KeepS x σ (τ5.setO τ3.no [.str [], pv, .nilsl, .int .i64 t, .nilsl]) := by
    refine ⟨K5.no, K5.nf, fun o h1 h2 => ?_, K5.fam, fun cs' h1 => ?_, K5.some⟩
    ·have := K3.no
     have : ¬ o = τ3.no := by omega
     simp [this]
     exact K5.obj o h1 h2
    ·obtain ⟨c1, h2, h3⟩ := K5.lst cs' h1
     exact ⟨c1, by simp [hxo, h2], h3⟩
   refine grow_R (row := .agg [.str [], pv, .nilsl, .int .i64 t, .nilsl]) (hG5.setO hxo') hr6 K6.r hbase (by simp) (by rw [hrl]; omega) fun v' τ6 e1 e2 e3 e4 e5 e6 => ?_
   simp [a9, w1]
   exact next _ _ _ (by simp [a0]) (by simp [a8]) (by simp) (hrows.append (.cons ⟨pv, rfl, hpv, rfl, rfl, rfl⟩ .nil)) (by simpa using e1) e2 (e6 K6)
 ·simp [pc32_l1, a8, a9, hlt]
  have hz : N.toNat - i = 0 := by omega
  rw [hz] at he
  simp only [repP, Option.map_some, List.append_nil] at he
  exact fin _ _ he _ _ rows hrows (by simpa using hG) hR hK hlen
theorem all2_drop {α β : Type} {Q : α → β → Prop} : ∀ {xs : List α} {ys : List β} (n : Nat), All2 Q xs ys → All2 Q (xs.drop n) (ys.drop n)
 | _, _, 0, h => by simpa using h
 | _, _, n + 1, .nil => by simpa using All2.nil
 | _, _, n + 1, .cons h r => by simpa using all2_drop n r
theorem headsRd_calls {base β x s} (h : Rdr base β x s σ) (hb1 : s.b.length ≤ 2 ^ 37) (hn : headsP s = none → NoneR R x σ) (hs : ∀ l s', headsP s = some (l, s') → ∀ σ' rows g, All2 HV rows l → σ.nf ≤ g → g < σ'.nf → σ'.F g = .alive → ¬ UsesR σ' x g → Rdr base β x s' σ' → KeepS x σ σ' → s'.b.length + l.length ≤ s.b.length → R (.ret (.sl (.fam g false) 5 rows)) σ') : ACalls Tryd.prog G 32 [.ptr x 0] σ R := by
 refine calls32 rfl ?_
 simp [pc32]
 refine secRd_callsS (n := 1) h (fun q => hn (by unfold headsP; rw [q]; rfl)) (fun s1 q1 σ1 hr1 hk1 => ?_)
 have hsl1 : s1.b.length ≤ s.b.length := by
  unfold sectionP at q1
  simp only [Option.bind_eq_some_iff] at q1
  obtain ⟨⟨c, s2⟩, h1, h2⟩ := q1
  obtain ⟨b1, _⟩ := byteP_some h1
  split at h2
  ·rw [Option.map_eq_some_iff] at h2
   obtain ⟨⟨m, s3⟩, h3, rfl⟩ := h2
   obtain ⟨⟨xx, _, hxx⟩, _⟩ := numP_some h3
   have := sub_len hxx
   have : s.b.length = s2.b.length + 1 := by rw [b1]; rfl
   simp only at *
   omega
  ·cases h2
 simp
 refine number_callsS hr1 (fun q => NoneR.mono (hn (by unfold headsP; rw [q1]; simp only [Option.bind_some]; rw [q]; rfl)) hk1.r) (fun N s2 q2 σ2 hr2 hk2 => ?_)
 obtain ⟨⟨xx, _, hxx⟩, _, _, n1, n2, _⟩ := numP_some q2
 have hsl2 := sub_len hxx
 have K2 := hk1.trans hk2
 have hh : headsP s = (repP (headP false) N.toNat s2).bind fun q => if 3 ≤ q.1.length then some (q.1.drop 3, q.2) else none := by
  unfold headsP
  rw [q1]
  simp only [Option.bind_some]
  rw [q2]
  rfl
 obtain ⟨_, _, ho2, _⟩ := hr2.cells
 simp
 refine aloop (HdI base β x N s2 σ2) (MU 9 (N.toNat + 1)) ⟨0, [], [], s2, by omega, by cases hq : repP (headP false) N.toNat s2 <;> simp [hq], by simp, by simp, by simp, by simp, .nil, .inl ⟨rfl, by simp⟩, hr2, .refl ho2⟩ fun a τ hI => ?_
 refine heads_loop n2 (by omega) hr2.hb.2 (fun q => NoneR.mono (hn (by rw [hh, q]; rfl)) K2.r) (fun l s' q a τ rows hrows hG hR hK hlen => ?_) hI
 rw [q] at hh
 simp only [Option.bind_some] at hh
 have hrl := hrows.length
 have K3 := K2.trans hK
 by_cases h3 : 3 ≤ l.length
 ·rw [if_pos h3] at hh
  rcases hG with ⟨e1, _⟩ | ⟨g, e1, e2, e3, e4, e5⟩
  ·rw [e1] at hrl
   simp at hrl
   omega
  ·have h3' : (3 : Int) ≤ (l.length : Int) := by omega
   simp [pc32_r1, e1, hrl, h3']
   refine must_calls (fun _ => ?_) (fun q => by cases q)
   have hcut : cut (.fam g false) false = .fam g false := rfl
   have htk : List.take l.length rows = rows := List.take_of_length_le (by omega)
   simp [e1, hrl, htk]
   refine ⟨by omega, ?_⟩
   have := K2.nf
   exact hs _ _ hh _ _ g (all2_drop 3 hrows) (by omega) e3 e4 e5 hR K3 (by simp; omega)
 ·have h3' : ¬ (3 : Int) ≤ (l.length : Int) := by omega
  rw [if_neg h3] at hh
  have hln : ∀ K : AV → Prop, alen Tryd.prog 28 (a 2) K = K (.int .i64 (l.length : Int)) := fun K => by
   rcases hG with ⟨e1, e2⟩ | ⟨g, e1, _⟩
   ·rw [e2, ← hrl, e1]; simp
   ·rw [e1, ← hrl]; simp
  simp [pc32_r1, hln, h3']
  refine must_calls (fun q => by cases q) (fun _ => ?_)
  simp
  exact hn hh _ _ (.inl rfl) K3.r
end
end Go.Proofs.YthejpoplbllcbaaDoor
set_option linter.unusedSimpArgs false
set_option linter.unusedVariables false
namespace Go.Proofs.YthejpoplbllcbaaDoor
open Go Go.Abs
structure Md (σ0 : AS) (base : Nat) (β : Option Nat) (x mo : Nat) (mc : List AV) (s : Rs) (τ : AS) : Prop where
 rd : Rdr base β x s τ
 ad : Adds σ0 τ
 ob : τ.objs mo = some mc
 lt : mo < τ.no
 mx : mo ≠ x
 x0 : σ0.no ≤ x
 m0 : σ0.no ≤ mo
 b0 : σ0.nf ≤ base
 len : s.b.length ≤ 2 ^ 37
theorem KeepS.adds0 {x σ0 σ σ'} (K : KeepS x σ σ') (A : Adds σ0 σ) (hx : σ0.no ≤ x) : Adds σ0 σ' := ⟨Nat.le_trans A.no K.no, Nat.le_trans A.nf K.nf, fun o ho => by
 have := A.no
 rw [K.obj o (by omega) (by omega), A.obj o ho], fun f hf => by
 have := A.nf
 rw [K.fam f (by omega), A.fam f hf]⟩
theorem Md.keepS {σ0 base β x mo mc s s' τ τ'} (M : Md σ0 base β x mo mc s τ) (K : KeepS x τ τ') (h : Rdr base β x s' τ') (hl : s'.b.length ≤ s.b.length) : Md σ0 base β x mo mc s' τ' :=
 ⟨h, K.adds0 M.ad M.x0, (K.obj mo M.lt M.mx).trans M.ob, Nat.lt_of_lt_of_le M.lt K.no, M.mx, M.x0, M.m0, M.b0, by have := M.len; omega⟩
theorem Md.none {σ0 base β x mo mc s τ} (M : Md σ0 base β x mo mc s τ) {R : Out → AS → Prop} (h : NoneA R σ0) : NoneR R x τ := noneR_of h M.ad M.x0 M.b0 M.rd
theorem Md.setM {σ0 base β x mo mc mc' s τ} (M : Md σ0 base β x mo mc s τ) : Md σ0 base β x mo mc' s (τ.setO mo mc') :=
 ⟨M.rd.setO M.mx, M.ad.setO M.m0, by simp, M.lt, M.mx, M.x0, M.m0, M.b0, M.len⟩
theorem skip_none {n : Int} {s : Rs} (h : takeP n s = none) : skipP n s = none := by unfold skipP; rw [h]; rfl
theorem skip_some {n : Int} {s s' : Rs} {p : List UInt8} (h : takeP n s = some (p, s')) : skipP n s = some s' := by unfold skipP; rw [h]; rfl
theorem take_len {n : Int} {s s' : Rs} {p : List UInt8} (h : takeP n s = some (p, s')) : s'.b.length ≤ s.b.length := sub_len (takeP_some h).1
theorem num_len {st sg : Bool} {n : Int} {s s' : Rs} (h : numP st sg s = some (n, s')) : s'.b.length ≤ s.b.length := by
 obtain ⟨⟨xx, _, hx⟩, _⟩ := numP_some h
 exact sub_len hx
theorem sec_lenP {n : UInt8} {s s' : Rs} (h : sectionP n s = some s') : s'.b.length ≤ s.b.length := by
 unfold sectionP at h
 simp only [Option.bind_eq_some_iff] at h
 obtain ⟨⟨c, s2⟩, h1, h2⟩ := h
 obtain ⟨b1, _⟩ := byteP_some h1
 have : s.b.length = s2.b.length + 1 := by rw [b1]; rfl
 split at h2
 ·rw [Option.map_eq_some_iff] at h2
  obtain ⟨⟨m, s3⟩, h3, rfl⟩ := h2
  have := num_len h3
  simp only at *
  omega
 ·cases h2
structure Fn (x mo fo : Nat) (C : List AV) (τ : AS) : Prop where
 ob : τ.objs fo = some C
 lt : fo < τ.no
 fx : fo ≠ x
 fm : fo ≠ mo
theorem Fn.keepS {x mo fo C τ τ'} (h : Fn x mo fo C τ) (K : KeepS x τ τ') : Fn x mo fo C τ' := ⟨(K.obj fo h.lt h.fx).trans h.ob, Nat.lt_of_lt_of_le h.lt K.no, h.fx, h.fm⟩
theorem Fn.setM {x mo fo C τ cs} (h : Fn x mo fo C τ) : Fn x mo fo C (τ.setO mo cs) := ⟨by have : ¬ fo = mo := h.fm; simp [this, h.ob], h.lt, h.fx, h.fm⟩
def frontC (h : List F) (s : Rs) : Option ((List F × Int × Int) × Rs) := (sectionP 5 s).bind fun s => (skipP 3 s).bind fun s => (sectionP 6 s).bind fun s => (skipP 4 s).bind fun s =>
 (numP false true s).bind fun mem => (skipP 1 mem.2).bind fun s => (sectionP 7 s).bind fun s => (skipP 7 s).bind fun s => (numP false false s).map fun mn => ((h, mem.1, mn.1), mn.2)
def frontB (h : List F) (s : Rs) : Option ((List F × Int × Int) × Rs) := (sectionP 3 s).bind fun s => (numP false false s).bind fun p => (repP (numP false false) p.1.toNat p.2).bind fun r => frontC h r.2
theorem frontP_eq (s : Rs) : frontP s = (skipP 8 s).bind fun s => (headsP s).bind fun h => (sectionP 2 h.2).bind fun s => (skipP 1 s).bind fun s => (skipP 9 s).bind fun s => (skipP 10 s).bind fun s => (skipP 11 s).bind fun s => frontB h.1 s := rfl
def endM (p : (List F × Int × Int) × Rs) : Option (M × Rs) := (backP p.1.1 p.2).map fun q => ({ funcs := q.1, memory := p.1.2.1, main := IntKind.wrap .i64 (p.1.2.2 - 3) }, q.2)
theorem moduleP_eq (s : Rs) : moduleP s = (frontP s).bind endM := rfl
def namesK (h : List F) (fs : List F) (s : Rs) : Option (List F × Rs) := (sectionP 0 s).bind fun s => (skipP 6 s).bind fun s => (numP false false s).bind fun x => (numP false false x.2).bind fun y =>
  if y.1 = h.length then namesP false fs y.2 else none
def backK (h : List F) (s : Rs) : Option (List F × Rs) := (functionsP false h s).bind fun fs => namesK h fs.1 fs.2
theorem backP_eq (h : List F) (s : Rs) : backP h s = (sectionP 10 s).bind fun s => (numP false false s).bind fun c => if c.1 = h.length then backK h c.2 else none := rfl
section
variable {G : Env} {σ : AS} {R : Out → AS → Prop}
def imK (h : List F) (i : Nat) (s : Rs) : Option ((List F × Int × Int) × Rs) := match i with
 | 0 => (skipP 9 s).bind fun s => (skipP 10 s).bind fun s => (skipP 11 s).bind fun s => frontB h s
 | 1 => (skipP 10 s).bind fun s => (skipP 11 s).bind fun s => frontB h s
 | 2 => (skipP 11 s).bind fun s => frontB h s
 | _ => frontB h s
def Im1 (σ0 : AS) (base : Nat) (β : Option Nat) (x mo fo : Nat) (mc C : List AV) (h : List F) (res : Option (M × Rs)) (n0 : Nat) (a : Nat → AV) (τ : AS) : Prop := ∃ (i : Nat) (s : Rs), i ≤ 3 ∧ a 0 = .ptr x 0 ∧ a 2 = .ptr mo 0 ∧ a 16 = .sl (.stat true) 1 (wordsI.map AV.str) ∧ a 17 = .int .i64 3 ∧ a 18 = .int .i64 (i : Int) ∧ Md σ0 base β x mo mc s τ ∧ Fn x mo fo C τ ∧ s.n = n0 ∧ res = (imK h i s).bind endM
theorem import1_body {σ0 base β x mo fo mc C} {h : List F} {res : Option (M × Rs)} {n0 : Nat} (hn : res = none → NoneA R σ0) (fin : ∀ s a τ, a 0 = .ptr x 0 → a 2 = .ptr mo 0 → Md σ0 base β x mo mc s τ → Fn x mo fo C τ → s.n = n0 → res = (frontB h s).bind endM → avc Tryd.prog G 114 pc21_r4 (afin Tryd.prog [.cell 2 30] R) a τ)
  {a : Nat → AV} {τ : AS} (hI : Im1 σ0 base β x mo fo mc C h res n0 a τ) : avc Tryd.prog G 114 pc21_l1 (athen (fun a' σ' => Im1 σ0 base β x mo fo mc C h res n0 a' σ' ∧ MU 18 4 a' σ' < MU 18 4 a τ) (ablock 0 (athen (avc Tryd.prog G 114 pc21_r4 (afin Tryd.prog [.cell 2 30] R)) (afin Tryd.prog [.cell 2 30] R)))) a τ := by
 obtain ⟨i, s, hi, a0, a2, a16, a17, a18, hM, hF, hs, he⟩ := hI
 by_cases hlt : i < 3
 ·have hlt' : (i : Int) < 3 := by omega
  have w1 : IntKind.wrap .i64 ((i : Int) + 1) = ((i + 1 : Nat) : Int) := by rw [wrap_i64] <;> omega
  obtain ⟨w, k, hw, hk1, hk2, hk3⟩ : ∃ (w : List UInt8) (k : Nat), wordsI[i]? = some w ∧ IntKind.wrap .i64 (IntKind.wrap .i64 (5 + (w.length : Int)) + 2) = (k : Int) ∧ (skipP (k : Int) s = none → imK h i s = none) ∧ (∀ s', skipP (k : Int) s = some s' → imK h i s = imK h (i + 1) s') := by
   rcases i with _ | _ | _ | i
   ·exact ⟨[105, 110], 9, rfl, rfl, fun q => by unfold imK; rw [show ((9 : Nat) : Int) = 9 from rfl] at q; rw [q]; rfl, fun s' q => by rw [show ((9 : Nat) : Int) = 9 from rfl] at q; simp only [imK]; rw [q]; rfl⟩
   ·exact ⟨[111, 117, 116], 10, rfl, rfl, fun q => by unfold imK; rw [show ((10 : Nat) : Int) = 10 from rfl] at q; rw [q]; rfl, fun s' q => by rw [show ((10 : Nat) : Int) = 10 from rfl] at q; simp only [imK]; rw [q]; rfl⟩
   ·exact ⟨[116, 114, 97, 112], 11, rfl, rfl, fun q => by unfold imK; rw [show ((11 : Nat) : Int) = 11 from rfl] at q; rw [q]; rfl, fun s' q => by rw [show ((11 : Nat) : Int) = 11 from rfl] at q; simp only [imK]; rw [q]; rfl⟩
   ·omega
  have hw2 : (wordsI.map AV.str)[i]? = some (.str w) := by simp [hw]
  simp [pc21_l1, a0, a16, a17, a18, hlt', hw2, hk1]
  refine take_callsS hM.rd (fun q => hM.none (hn (by rw [he, hk2 (skip_none q)]; rfl))) (fun p s1 q v τ1 _ hr hk => ?_)
  have hM1 := hM.keepS hk hr (take_len q)
  simp [a18, w1]
  refine ⟨⟨i + 1, s1, by omega, by simp [a0], by simp [a2], by simp [a16], by simp [a17], by simp, hM1, hF.keepS hk, by rw [(takeP_some q).2.2, hs], by rw [he, hk3 s1 (skip_some q)]⟩, ?_⟩
  simp only [MU, a18]; simp; omega
 ·have : i = 3 := by omega
  subst this
  simp [pc21_l1, a17, a18]
  exact fin s _ _ (by simpa using a0) (by simpa using a2) hM hF hs he
def Nm2 (σ0 : AS) (base : Nat) (β : Option Nat) (x mo fo : Nat) (mc C : List AV) (h : List F) (res : Option (M × Rs)) (n0 : Nat) (N : Int) (a : Nat → AV) (τ : AS) : Prop := ∃ (i : Nat) (s : Rs), (i : Int) ≤ max N 0 ∧ a 0 = .ptr x 0 ∧ a 2 = .ptr mo 0 ∧ a 32 = .int .i64 N ∧ a 33 = .int .i64 (i : Int) ∧ Md σ0 base β x mo mc s τ ∧ Fn x mo fo C τ ∧ s.n = n0 ∧ res = ((repP (numP false false) (N.toNat - i) s).bind fun r => frontC h r.2).bind endM
theorem number2_body {σ0 base β x mo fo mc C} {h : List F} {res : Option (M × Rs)} {n0 : Nat} {N : Int} (hN : N < 2 ^ 63) (hn : res = none → NoneA R σ0) (fin : ∀ s a τ, a 0 = .ptr x 0 → a 2 = .ptr mo 0 → Md σ0 base β x mo mc s τ → Fn x mo fo C τ → s.n = n0 → res = (frontC h s).bind endM → avc Tryd.prog G 114 pc21_r3 (afin Tryd.prog [.cell 2 30] R) a τ)
  {a : Nat → AV} {τ : AS} (hI : Nm2 σ0 base β x mo fo mc C h res n0 N a τ) : avc Tryd.prog G 114 pc21_l2 (athen (fun a' σ' => Nm2 σ0 base β x mo fo mc C h res n0 N a' σ' ∧ MU 33 (N.toNat + 1) a' σ' < MU 33 (N.toNat + 1) a τ) (ablock 2 (athen (avc Tryd.prog G 114 pc21_r3 (afin Tryd.prog [.cell 2 30] R)) (afin Tryd.prog [.cell 2 30] R)))) a τ := by
 obtain ⟨i, s, hi, a0, a2, a32, a33, hM, hF, hs, he⟩ := hI
 by_cases hlt : (i : Int) < N
 ·have w1 : IntKind.wrap .i64 ((i : Int) + 1) = ((i + 1 : Nat) : Int) := by rw [wrap_i64] <;> omega
  simp [pc21_l2, a0, a32, a33, hlt]
  refine number_callsS hM.rd (fun q => hM.none (hn (by rw [he, repP_none (by omega) q]; rfl))) (fun n s1 q τ1 hr hk => ?_)
  have hM1 := hM.keepS hk hr (num_len q)
  simp [a33, w1]
  refine ⟨⟨i + 1, s1, by omega, by simp [a0], by simp [a2], by simp [a32], by simp, hM1, hF.keepS hk, by rw [(numP_some q).2.2.1, hs], ?_⟩, ?_⟩
  ·rw [he, repP_step (s' := s1) (a := n) (by omega) q]
   have : N.toNat - i - 1 = N.toNat - (i + 1) := by omega
   rw [this]
   cases repP (numP false false) (N.toNat - (i + 1)) s1 with
   | none => rfl
   | some p => rfl
  ·simp only [MU, a33]; simp; omega
 ·simp [pc21_l2, a32, a33, hlt]
  have hz : N.toNat - i = 0 := by omega
  rw [hz] at he
  exact fin s _ _ (by simpa using a0) (by simpa using a2) hM hF hs he
end
end Go.Proofs.YthejpoplbllcbaaDoor
set_option linter.unusedSimpArgs false
set_option linter.unusedVariables false
namespace Go.Proofs.YthejpoplbllcbaaDoor
open Go Go.Abs
theorem flat_cons5 (c0 c1 c2 c3 c4 : AV) (r : List AV) : flat (.agg [c0, c1, c2, c3, c4] :: r) = c0 :: c1 :: c2 :: c3 :: c4 :: flat r := by simp [flat]
theorem fve_cells {v p} (h : Al.FVE v p) : v.cells.length = 5 := by
 obtain ⟨pv, lv, tv, rfl, _⟩ := h
 rfl
theorem all2_len5 {α : Type} {Q : AV → α → Prop} (hq : ∀ v a, Q v a → v.cells.length = 5) : ∀ {rows : List AV} {l : List α}, All2 Q rows l → ∀ x ∈ rows, x.cells.length = 5
 | _, _, .nil, x, h => by cases h
 | _, _, .cons h r, x, hx => by
  rcases List.mem_cons.1 hx with rfl | hx
  ·exact hq _ _ h
  ·exact all2_len5 hq r x hx
theorem flat_len5 {rows : List AV} (h : ∀ x ∈ rows, x.cells.length = 5) : (flat rows).length = rows.length * 5 := flat_length 5 rows h
theorem set_mid {X : List AV} {c0 c1 c2 c3 c4 v w : AV} {Y : List AV} {off : Nat} (ho : off = X.length) : splice (splice (X ++ c0 :: c1 :: c2 :: c3 :: c4 :: Y) (off + 2) [v]) (off + 4) [w] = X ++ c0 :: c1 :: v :: c3 :: w :: Y := by
 subst ho
 rw [splice_set (by rw [splice_len (by simp)]; simp), splice_set (by simp)]
 rw [List.set_append_right _ _ (by omega), List.set_append_right _ _ (by simp)]
 simp
theorem intsE_mrg {v : AV} {l : List Int} (h : Al.IntsE v l) (g : Nat) : Go.Abs.mrg g v = v := by
 rcases h with ⟨_, rfl | ⟨b, rfl⟩⟩ | ⟨b, rfl⟩
 ·simp
 ·simp
 ·rw [mrg_sl_fam]
  have : (l.map (AV.int .i64)).map (Go.Abs.mrg g) = l.map (AV.int .i64) := by simp [Function.comp_def]
  rw [this]
  split <;> rfl
theorem lstE_mrg {v : AV} {k g : Nat} {l : To} (h : Al.LstE k v l) (hg : k ≠ g) : Go.Abs.mrg g v = v := by
 rcases h with ⟨_, rfl⟩ | ⟨tos, rfl, ht⟩
 ·simp
 ·rw [mrg_sl_fam, Al.mrg_rows ht]
  rw [if_neg hg]
theorem fve_mrg {v p} (h : Al.FVE v p) {g : Nat} (hg : p.2 ≠ g) : v.cells.map (Go.Abs.mrg g) = v.cells := by
 obtain ⟨pv, lv, tv, rfl, h1, h2, h3⟩ := h
 simp [intsE_mrg h1, intsE_mrg h2, lstE_mrg h3 hg]
theorem hv_mrg {v f} (h : HV v f) (g : Nat) : v.cells.map (Go.Abs.mrg g) = v.cells := by
 obtain ⟨pv, rfl, h1, _⟩ := h
 simp [intsE_mrg h1]
theorem flat_mrg5 {α : Type} {Q : AV → α → Prop} {g : Nat} : ∀ {rows : List AV} {l : List α}, All2 Q rows l → (∀ v a, a ∈ l → Q v a → v.cells.map (Go.Abs.mrg g) = v.cells) → (flat rows).map (Go.Abs.mrg g) = flat rows
 | _, _, .nil, _ => rfl
 | _, _, .cons (x := x) (xs := xs) h r, hq => by
  have ih := flat_mrg5 r fun v a ha => hq v a (by simp [ha])
  simp only [flat, List.flatMap_cons, List.map_append] at *
  rw [ih, hq x _ (by simp) h]
theorem groups_len {st : Bool} : ∀ {n : Nat} {s s' : Rs} {l : List (List Int)}, repP (groupP st) n s = some (l, s') → s'.b.length ≤ s.b.length
 | 0, s, s', l, h => by cases h; exact Nat.le_refl _
 | n + 1, s, s', l, h => by
  rw [repP] at h
  simp only [Option.bind_eq_some_iff, Option.map_eq_some_iff] at h
  obtain ⟨⟨g, s1⟩, h1, ⟨l', s2⟩, h2, h3⟩ := h
  cases h3
  have := groups_len h2
  unfold groupP at h1
  simp only [Option.bind_eq_some_iff] at h1
  obtain ⟨⟨m, s3⟩, h4, h5⟩ := h1
  have h6 := num_len h4
  split at h5
  ·rw [Option.map_eq_some_iff] at h5
   obtain ⟨⟨t, s4⟩, h6', h7⟩ := h5
   simp only [Prod.mk.injEq] at h7
   obtain ⟨_, rfl⟩ := h7
   unfold typeP at h6'
   simp only [Option.bind_eq_some_iff] at h6'
   obtain ⟨⟨c, s5⟩, h8, h9⟩ := h6'
   obtain ⟨b1, _, _⟩ := byteP_some h8
   simp only at b1
   have : s3.b.length = s5.b.length + 1 := by rw [b1]; rfl
   split at h9
   ·cases h9
   ·cases h9
    simp only at *
    omega
  ·cases h5
theorem functionP_len {st : Bool} {f f' : F} {s s' : Rs} (h : functionP st f s = some (f', s')) : s'.b.length ≤ s.b.length := by
 unfold functionP at h
 simp only [Option.bind_eq_some_iff, Option.map_eq_some_iff] at h
 obtain ⟨⟨n1, s1⟩, h1, ⟨n2, s2⟩, h2, ⟨gs, s3⟩, h3, ⟨⟨n, e⟩, s4⟩, h4, h5⟩ := h
 simp only [Prod.mk.injEq] at h5
 obtain ⟨_, rfl⟩ := h5
 have := num_len h1
 have := num_len h2
 have := groups_len h3
 obtain ⟨_, _, _, _, _, ⟨xx, _, z⟩, _⟩ := listP_ls _ _ _ _ _ _ _ _ h4
 have := sub_len z
 simp only at *
 omega
section
variable {G : Env} {σ : AS} {R : Out → AS → Prop}
structure FnL (σ0 : AS) (x mo fo : Nat) (h0 : List F) (dps : List (F × Nat)) (drows hrows : List AV) (τ : AS) : Prop where
 fn : Fn x mo fo (flat (drows ++ hrows)) τ
 f0 : σ0.no ≤ fo
 dl : dps.length ≤ h0.length
 dr : All2 Al.FVE drows dps
 hr : All2 HV hrows (h0.drop dps.length)
 nd : (dps.map Prod.snd).Nodup
 each : ∀ p ∈ dps, σ0.nf ≤ p.2 ∧ p.2 < τ.nf ∧ τ.F p.2 = .alive
 nm : ∀ p ∈ dps, p.1.name = []
def mcells (fo n : Nat) (mem mn : Int) : List AV := [.slm fo 0 5 n, .int .i64 mem, .int .i64 mn]
def FL3 (σ0 : AS) (base : Nat) (β : Option Nat) (x mo fo : Nat) (mem mn : Int) (h0 : List F) (res : Option (M × Rs)) (a : Nat → AV) (τ : AS) : Prop := ∃ (dps : List (F × Nat)) (drows hrows : List AV) (s : Rs), a 0 = .ptr x 0 ∧ a 2 = .ptr mo 0 ∧ a 70 = .int .i64 (h0.length : Int) ∧ a 71 = .int .i64 (dps.length : Int) ∧ Md σ0 base β x mo (mcells fo h0.length mem mn) s τ ∧ FnL σ0 x mo fo h0 dps drows hrows τ ∧ s.n ≤ 65536 ∧
 res = (((functionsP false (h0.drop dps.length) s).bind fun fs => namesK h0 (dps.map Prod.fst ++ fs.1) fs.2).map fun q => ({ funcs := q.1, memory := mem, main := mn }, q.2))
theorem func3_body (V : VarsB G) {σ0 base β x mo fo mem mn} {h0 : List F} {res : Option (M × Rs)} (hn : res = none → NoneA R σ0) (hh : ∀ f ∈ h0, f.locals = [] ∧ f.name = [])
  (fin : ∀ dps drows s a τ, a 0 = .ptr x 0 → a 2 = .ptr mo 0 → Md σ0 base β x mo (mcells fo h0.length mem mn) s τ → FnL σ0 x mo fo h0 dps drows [] τ → dps.length = h0.length → res = ((namesK h0 (dps.map Prod.fst) s).map fun q => ({ funcs := q.1, memory := mem, main := mn }, q.2)) → avc Tryd.prog G 114 pc21_r2 (afin Tryd.prog [.cell 2 30] R) a τ)
  (hlen : h0.length ≤ 2 ^ 37) {a : Nat → AV} {τ : AS} (hI : FL3 σ0 base β x mo fo mem mn h0 res a τ) : avc Tryd.prog G 114 pc21_l3 (athen (fun a' σ' => FL3 σ0 base β x mo fo mem mn h0 res a' σ' ∧ MU 71 (h0.length + 1) a' σ' < MU 71 (h0.length + 1) a τ) (ablock 4 (athen (avc Tryd.prog G 114 pc21_r2 (afin Tryd.prog [.cell 2 30] R)) (afin Tryd.prog [.cell 2 30] R)))) a τ := by
 obtain ⟨dps, drows, hrows, s, a0, a2, a70, a71, hM, hF, hs65, he⟩ := hI
 have hdrl := hF.dr.length
 have hmo := hM.ob
 simp only [mcells] at hmo
 by_cases hlt : dps.length < h0.length
 ·have hlt' : (dps.length : Int) < (h0.length : Int) := by omega
  have w1 : IntKind.wrap .i64 ((dps.length : Int) + 1) = ((dps.length + 1 : Nat) : Int) := by rw [wrap_i64] <;> omega
  have hdr := List.drop_eq_getElem_cons hlt
  have hhr := hF.hr
  have hfh := hh _ (List.getElem_mem hlt)
  rw [hdr] at hhr he
  generalize h0[dps.length] = f at *
  cases hhr with
  | cons hv hrest =>
  rename_i row hrows
  have hv' := hv
  obtain ⟨pv, rfl, hpv, e1, e2, e3⟩ := hv
  have hd5 := all2_len5 (fun v a h => fve_cells h) hF.dr
  have hfl : (flat drows).length = dps.length * 5 := by rw [flat_len5 hd5, hdrl]
  have hC : flat (drows ++ .agg [.str [], pv, .nilsl, .int .i64 f.type, .nilsl] :: hrows) = flat drows ++ .str [] :: pv :: .nilsl :: .int .i64 f.type :: .nilsl :: flat hrows := by
   rw [flat_append, flat_cons5]
  have hfn := hF.fn
  simp [pc21_l3, a0, a2, a70, a71, hlt', hmo]
  refine function_calls V (cs := flat (drows ++ .agg [.str [], pv, .nilsl, .int .i64 f.type, .nilsl] :: hrows)) (f := f) (σ0 := σ0) hM.rd hfn.fx hfn.lt hfn.ob ?_ ?_ hfh.1 hM.len hs65 ?_ hM.ad hM.x0 hF.f0 hM.b0 ?_ ?_
  ·rw [hC, List.getElem?_append_right (by omega)]
   have : dps.length * 5 + 2 - (flat drows).length = 2 := by omega
   rw [this]
   rfl
  ·rw [hC]
   simp
   omega
  ·intro g hg
   rw [flat_append, List.map_append, flat_mrg5 hF.dr (fun v p hp h => fve_mrg h (by have := (hF.each p hp).2.1; omega)), flat_mrg5 (.cons hv' hrest) (fun v p _ h => hv_mrg h g)]
  ·intro q
   exact hn (by rw [he, functionsP, q]; rfl)
  ·intro f' s' q τ1 lv tv g hlv htv hg hr hk ho
   obtain ⟨p1, p2, p3, p4⟩ := functionP_some q hfh.1
   have hne : f'.lists ≠ [] := by
    obtain ⟨st, k, s0, e, s1, k1, k2, k3⟩ := p1.2.2.1
    intro e0
    obtain ⟨_, y1, y2, _⟩ := listP_ls _ _ _ _ _ _ _ _ k1
    simp only [e0, List.length_nil] at y2
    omega
   obtain ⟨g1, g2, g3⟩ := hg hne
   have hnf := hM.ad.nf
   rw [hC, set_mid (by omega)] at ho
   simp [a71, w1]
   refine ⟨⟨dps ++ [(f', g)], drows ++ [.agg [.str [], pv, lv, .int .i64 f.type, tv]], hrows, s', by simp [a0], by simp [a2], by simp [a70], by simp, ?_, ?_, p3 hs65, ?_⟩, ?_⟩
   ·have hmfo : mo ≠ fo := fun e => hfn.fm e.symm
    have hno := hk.no
    have := hM.lt
    exact ⟨hr, hk.adds0 hM.ad hM.x0 hF.f0, (hk.obj mo hM.lt hM.mx hmfo).trans hM.ob, by omega, hM.mx, hM.x0, hM.m0, hM.b0, by have := functionP_len q; have := hM.len; omega⟩
   ·have hno := hk.no
    have := hfn.lt
    refine ⟨⟨?_, by omega, hfn.fx, hfn.fm⟩, hF.f0, by simp; omega, hF.dr.append (.cons ⟨pv, lv, tv, ?_, ?_, hlv, htv⟩ .nil), by simpa using hrest, ?_, fun p hp => ?_, fun p hp => ?_⟩
    ·rw [ho, List.append_assoc, List.singleton_append, flat_append, flat_cons5]
    ·rw [p4, hfh.2, p1.2.1]
    ·rw [p1.1]
     exact hpv
    ·rw [List.map_append, List.nodup_append]
     refine ⟨hF.nd, by simp, fun y hy z hz e => ?_⟩
     obtain ⟨p, hp, rfl⟩ := List.mem_map.1 hy
     have := (hF.each p hp).2.1
     simp at hz
     omega
    ·rcases List.mem_append.1 hp with hp | hp
     ·obtain ⟨u1, u2, u3⟩ := hF.each p hp
      have := hk.nf
      exact ⟨u1, by omega, (hk.fam _ u2).trans u3⟩
     ·simp only [List.mem_singleton] at hp
      subst hp
      exact ⟨by simp only; omega, g2, g3⟩
    ·rcases List.mem_append.1 hp with hp | hp
     ·exact hF.nm p hp
     ·simp only [List.mem_singleton] at hp
      subst hp
      exact p4.trans hfh.2
   ·rw [he, functionsP, q]
    simp only [Option.bind_some, List.length_append, List.length_cons, List.length_nil, Nat.zero_add]
    cases functionsP false (h0.drop (dps.length + 1)) s' with
    | none => rfl
    | some r => simp
   ·simp only [MU, a71]; simp; omega
 ·have hdl := hF.dl
  have hde : dps.length = h0.length := by omega
  have hhr := hF.hr
  rw [hde, List.drop_length] at hhr he
  cases hhr
  simp [pc21_l3, a70, a71, hde]
  exact fin dps drows s _ _ (by simpa using a0) (by simpa using a2) hM hF hde (by rw [he]; simp [functionsP])
end
end Go.Proofs.YthejpoplbllcbaaDoor
set_option linter.unusedSimpArgs false
set_option linter.unusedVariables false
namespace Go.Proofs.YthejpoplbllcbaaDoor
open Go Go.Abs
theorem set_first {X : List AV} {c v : AV} {Y : List AV} {off : Nat} (ho : off = X.length) : splice (X ++ c :: Y) off [v] = X ++ v :: Y := by
 subst ho
 rw [splice_set (by simp), List.set_append_right _ _ (by omega)]
 simp
structure FnN (σ0 : AS) (x mo fo : Nat) (dps rps : List (F × Nat)) (drows rrows : List AV) (τ : AS) : Prop where
 fn : Fn x mo fo (flat (drows ++ rrows)) τ
 f0 : σ0.no ≤ fo
 dr : All2 Al.FVE drows dps
 rr : All2 Al.FVE rrows rps
 nd : ((dps ++ rps).map Prod.snd).Nodup
 each : ∀ p ∈ dps ++ rps, σ0.nf ≤ p.2 ∧ p.2 < τ.nf ∧ τ.F p.2 = .alive
theorem FnN.keepS {σ0 x mo fo dps rps drows rrows τ τ'} (h : FnN σ0 x mo fo dps rps drows rrows τ) (K : KeepS x τ τ') : FnN σ0 x mo fo dps rps drows rrows τ' :=
 ⟨h.fn.keepS K, h.f0, h.dr, h.rr, h.nd, fun p hp => by
  obtain ⟨a, b, c⟩ := h.each p hp
  exact ⟨a, Nat.lt_of_lt_of_le b K.nf, (K.fam _ b).trans c⟩⟩
section
variable {G : Env} {σ : AS} {R : Out → AS → Prop}
def NL4 (σ0 : AS) (base : Nat) (β : Option Nat) (x mo fo n : Nat) (mem mn : Int) (res : Option (M × Rs)) (a : Nat → AV) (τ : AS) : Prop := ∃ (dps rps : List (F × Nat)) (drows rrows : List AV) (s : Rs), a 0 = .ptr x 0 ∧ a 2 = .ptr mo 0 ∧ a 96 = .int .i64 (n : Int) ∧ a 97 = .int .i64 (dps.length : Int) ∧ dps.length + rps.length = n ∧ Md σ0 base β x mo (mcells fo n mem mn) s τ ∧ FnN σ0 x mo fo dps rps drows rrows τ ∧
 res = ((namesP false (rps.map Prod.fst) s).map fun q => ({ funcs := dps.map Prod.fst ++ q.1, memory := mem, main := mn }, q.2))
theorem name4_body {σ0 base β x mo fo n mem mn} {res : Option (M × Rs)} (hn : res = none → NoneA R σ0) (hnn : n ≤ 2 ^ 37)
  (fin : ∀ dps drows s a τ, a 0 = .ptr x 0 → a 2 = .ptr mo 0 → Md σ0 base β x mo (mcells fo n mem mn) s τ → FnN σ0 x mo fo dps [] drows [] τ → dps.length = n → res = some ({ funcs := dps.map Prod.fst, memory := mem, main := mn }, s) → avc Tryd.prog G 114 pc21_r1 (afin Tryd.prog [.cell 2 30] R) a τ)
  {a : Nat → AV} {τ : AS} (hI : NL4 σ0 base β x mo fo n mem mn res a τ) : avc Tryd.prog G 114 pc21_l4 (athen (fun a' σ' => NL4 σ0 base β x mo fo n mem mn res a' σ' ∧ MU 97 (n + 1) a' σ' < MU 97 (n + 1) a τ) (ablock 6 (athen (avc Tryd.prog G 114 pc21_r1 (afin Tryd.prog [.cell 2 30] R)) (afin Tryd.prog [.cell 2 30] R)))) a τ := by
 obtain ⟨dps, rps, drows, rrows, s, a0, a2, a96, a97, hnl, hM, hF, he⟩ := hI
 have hdrl := hF.dr.length
 have hmo := hM.ob
 simp only [mcells] at hmo
 cases rps with
 | cons p rps =>
  simp only [List.length_cons] at hnl
  have hlt' : (dps.length : Int) < (n : Int) := by omega
  have w1 : IntKind.wrap .i64 ((dps.length : Int) + 1) = ((dps.length + 1 : Nat) : Int) := by rw [wrap_i64] <;> omega
  have hrr := hF.rr
  cases hrr with
  | cons hv hrest =>
  rename_i row rrows
  obtain ⟨pv, lv, tv, rfl, hpv, hlv, htv⟩ := hv
  have hd5 := all2_len5 (fun v a h => fve_cells h) hF.dr
  have hfl : (flat drows).length = dps.length * 5 := by rw [flat_len5 hd5, hdrl]
  have hC : flat (drows ++ .agg [.str p.1.name, pv, lv, .int .i64 p.1.type, tv] :: rrows) = flat drows ++ .str p.1.name :: pv :: lv :: .int .i64 p.1.type :: tv :: flat rrows := by
   rw [flat_append, flat_cons5]
  simp only [List.map_cons] at he
  rw [namesP] at he
  simp [pc21_l4, a0, a2, a96, a97, hlt', hmo]
  refine number_callsS hM.rd (fun q => hM.none (hn (by rw [he, q]; rfl))) (fun k1 s1 q1 τ1 hr1 hk1 => ?_)
  rw [q1] at he
  simp only [Option.bind_some] at he
  have hM1 := hM.keepS hk1 hr1 (num_len q1)
  have hF1 := hF.keepS hk1
  have hmo1 := hM1.ob
  simp only [mcells] at hmo1
  simp [a0, a2, hmo1]
  refine number_callsS hr1 (fun q => hM1.none (hn (by rw [he, q]; rfl))) (fun k2 s2 q2 τ2 hr2 hk2 => ?_)
  rw [q2] at he
  simp only [Option.bind_some] at he
  have hM2 := hM1.keepS hk2 hr2 (num_len q2)
  have hF2 := hF1.keepS hk2
  have hmo2 := hM2.ob
  simp only [mcells] at hmo2
  simp [a0, a2, hmo2]
  refine take_callsS hr2 (fun q => hM2.none (hn (by rw [he, q]; rfl))) (fun bs s3 q3 v τ3 hv hr3 hk3 => ?_)
  rw [q3] at he
  simp only [Option.bind_some] at he
  have hM3 := hM2.keepS hk3 hr3 (take_len q3)
  have hF3 := hF2.keepS hk3
  have hmo3 := hM3.ob
  simp only [mcells] at hmo3
  have hfn := hF3.fn
  have hfo := hfn.ob
  rw [hC] at hfo
  have hbound : dps.length * 5 + 1 ≤ (flat drows ++ .str p.1.name :: pv :: lv :: .int .i64 p.1.type :: tv :: flat rrows).length := by simp; omega
  have hset := set_first (X := flat drows) (c := .str p.1.name) (v := .str bs) (Y := pv :: lv :: .int .i64 p.1.type :: tv :: flat rrows) (off := dps.length * 5) (by omega)
  generalize flat drows ++ .str p.1.name :: pv :: lv :: .int .i64 p.1.type :: tv :: flat rrows = C at *
  have next : ∀ (a' : Nat → AV), a' 0 = .ptr x 0 → a' 2 = .ptr mo 0 → a' 96 = .int .i64 (n : Int) → a' 97 = .int .i64 ((dps.length + 1 : Nat) : Int) → NL4 σ0 base β x mo fo n mem mn res a' (τ3.setO fo (splice C (dps.length * 5) [.str bs])) ∧ MU 97 (n + 1) a' (τ3.setO fo (splice C (dps.length * 5) [.str bs])) < MU 97 (n + 1) a τ := by
   intro a' e0 e2 e96 e97
   have hfm : ¬ mo = fo := fun e => hfn.fm e.symm
   refine ⟨⟨dps ++ [({ p.1 with name := bs }, p.2)], rps, drows ++ [.agg [.str bs, pv, lv, .int .i64 p.1.type, tv]], rrows, s3, e0, e2, e96, by rw [e97]; simp, by simp; omega, ⟨hr3.setO hfn.fx, hM3.ad.setO hF.f0, by simp [hfm, hM3.ob], hM3.lt, hM3.mx, hM3.x0, hM3.m0, hM3.b0, hM3.len⟩, ⟨⟨?_, hfn.lt, hfn.fx, hfn.fm⟩, hF.f0, hF3.dr.append (.cons ⟨pv, lv, tv, rfl, hpv, hlv, htv⟩ .nil), hrest, by simpa using hF3.nd, fun y hy => ?_⟩, ?_⟩, ?_⟩
   ·simp only [setO_objs, upd_at, if_true]
    rw [hset, List.append_assoc, List.singleton_append, flat_append, flat_cons5]
   ·simp only [List.mem_append, List.mem_singleton] at hy
    rcases hy with (hy | rfl) | hy
    ·exact hF3.each y (by simp [hy])
    ·exact hF3.each p (by simp)
    ·exact hF3.each y (by simp [hy])
   ·rw [he]
    cases namesP false (rps.map Prod.fst) s3 with
    | none => rfl
    | some u => simp
   ·simp only [MU, e97, a97]; omega
  rcases hv with ⟨hb0, rfl⟩ | ⟨φ, hφ, rfl⟩
  ·subst hb0
   simp [a2, hmo3, hfo, a97, w1, hlt']
   exact ⟨hbound, next _ (by simp [a0]) (by simp [a2]) (by simp [a96]) (by simp)⟩
  ·have hrd := rd_of hr3 hφ
   simp [a2, hmo3, hfo, a97, w1, hlt', hrd]
   exact ⟨hbound, next _ (by simp [a0]) (by simp [a2]) (by simp [a96]) (by simp)⟩
 | nil =>
  have hlt : ¬ (dps.length : Int) < (n : Int) := by simp at hnl; omega
  have hrr := hF.rr
  cases hrr
  simp [pc21_l4, a96, a97, hlt]
  exact fin dps drows s _ _ (by simpa using a0) (by simpa using a2) hM hF (by simpa using hnl) (by rw [he]; simp [namesP])
theorem Rdr.famO {base β x s τ} (h : Rdr base β x s τ) {fo : Nat} (hf : fo ≠ x) : Rdr base β x s (τ.famO fo) := by
 obtain ⟨bv, lv, ho, hv, hl⟩ := h.cells
 have hb := h.hb
 refine ⟨h.hx, ⟨hb.1, by simp; omega⟩, ?_, fun f q => ?_, bv, lv, ?_, hv, ?_⟩
 ·have : ¬ 0 = τ.nf := by omega
  simp [this, h.h0]
 ·obtain ⟨h1, h2⟩ := h.hβ f q
  have : ¬ f = τ.nf := by omega
  exact ⟨h1, by simp [this, h2]⟩
 ·have : ¬ x = fo := fun e => hf e.symm
  simp [this, ho]
 ·rcases hl with h1 | ⟨g, tos, h1, h2, h3, h4, h5⟩
  ·exact .inl h1
  ·have : ¬ g = τ.nf := by omega
   exact .inr ⟨g, tos, h1, h2, by simp; omega, by simp [this, h4], h5⟩
theorem Adds.famO {σ0 τ : AS} (A : Adds σ0 τ) {fo : Nat} (hf : σ0.no ≤ fo) : Adds σ0 (τ.famO fo) := ⟨A.no, by have := A.nf; simp; omega, fun o ho => by
 have : ¬ o = fo := by omega
 simp [this]
 exact A.obj o ho, fun f hf' => by
 have := A.nf
 have : ¬ f = τ.nf := by omega
 simp [this]
 exact A.fam f hf'⟩
def OwnR (R : Out → AS → Prop) (o : Out) (σ' : AS) : Prop := R o σ' ∨ ∃ ob sz rows rest, o = .ret (.agg (.slm ob 0 sz rows.length :: rest)) ∧ σ'.objs ob = some (flat rows) ∧ (∀ x ∈ rows, x.cells.length = sz) ∧ R (.ret (.agg (.sl (.fam σ'.nf false) sz rows :: rest))) (σ'.famO ob)
theorem module_end {σ0 base β x mo fo n mem mn dps drows s} (hs : ∀ σ' mv, Al.ME σ' σ0.nf mv ⟨dps.map Prod.fst, mem, mn⟩ → Adds σ0 σ' → Rdr base β x s σ' → R (.ret mv) σ') {a : Nat → AV} {τ : AS} (a2 : a 2 = .ptr mo 0) (hM : Md σ0 base β x mo (mcells fo n mem mn) s τ) (hF : FnN σ0 x mo fo dps [] drows [] τ) (hl : dps.length = n) : avc Tryd.prog G 114 pc21_r1 (afin Tryd.prog [.cell 2 30] (OwnR R)) a τ := by
 have hmo := hM.ob
 simp only [mcells] at hmo
 have hdrl := hF.dr.length
 have hfn := hF.fn
 have hmf : ¬ fo = mo := hfn.fm
 have hM' : Md σ0 base β x mo (mcells fo n mem mn) s (τ.setO mo (mcells fo n mem mn)) := hM.setM
 simp only [mcells] at hM'
 simp [pc21_r1, a2, hmo, splice]
 refine .inr ⟨fo, 5, drows, [.int .i64 mem, .int .i64 mn], by simp [hdrl, hl], ?_, all2_len5 (fun v a h => fve_cells h) hF.dr, ?_⟩
 ·simp [hmf]
  simpa using hfn.ob
 ·have hA := hM'.ad
  refine hs _ _ ⟨_, rfl, .inr ⟨τ.nf, drows, dps, by simp, hM.ad.nf, by simp, by simp, rfl, hF.dr, by simpa using hF.nd, fun y hy => ?_⟩⟩ (hA.famO hF.f0) (hM'.rd.famO hfn.fx)
  obtain ⟨p, hp, rfl⟩ := List.mem_map.1 hy
  obtain ⟨u1, u2, u3⟩ := hF.each p (by simpa using hp)
  have : ¬ p.2 = τ.nf := by omega
  exact ⟨u1, by simp; omega, by simp [this, u3], by omega⟩
theorem module_r2 {σ0 base β x mo fo mem mn} {h0 : List F} {res : Option (M × Rs)} (hlen : h0.length ≤ 2 ^ 37) (hn : res = none → NoneA R σ0) (hs : ∀ m s', res = some (m, s') → ∀ σ' mv, Al.ME σ' σ0.nf mv m → Adds σ0 σ' → Rdr base β x s' σ' → R (.ret mv) σ')
  {dps : List (F × Nat)} {drows : List AV} {s : Rs} {a : Nat → AV} {τ : AS} (a0 : a 0 = .ptr x 0) (a2 : a 2 = .ptr mo 0) (hM : Md σ0 base β x mo (mcells fo h0.length mem mn) s τ) (hF : FnL σ0 x mo fo h0 dps drows [] τ) (hl : dps.length = h0.length) (he : res = ((namesK h0 (dps.map Prod.fst) s).map fun q => ({ funcs := q.1, memory := mem, main := mn }, q.2))) :
  avc Tryd.prog G 114 pc21_r2 (afin Tryd.prog [.cell 2 30] (OwnR R)) a τ := by
 have hnO : res = none → NoneA (OwnR R) σ0 := fun q e σ' a b => .inl (hn q e σ' a b)
 have hF0 : FnN σ0 x mo fo [] dps [] drows τ := ⟨by simpa using hF.fn, hF.f0, .nil, hF.dr, by simpa using hF.nd, by simpa using hF.each⟩
 unfold namesK at he
 simp [pc21_r2, a0]
 refine secRd_callsS (n := 0) hM.rd (fun q => hM.none (hnO (by rw [he, q]; rfl))) (fun s1 q τ1 hr hk => ?_)
 rw [q] at he
 simp only [Option.bind_some] at he
 have hM1 := hM.keepS hk hr (sec_lenP q)
 have hF1 := hF0.keepS hk
 simp [a0]
 refine take_callsS hM1.rd (fun q => hM1.none (hnO (by rw [he, skip_none q]; rfl))) (fun p s2 q v τ2 _ hr hk => ?_)
 rw [skip_some q] at he
 simp only [Option.bind_some] at he
 have hM2 := hM1.keepS hk hr (take_len q)
 have hF2 := hF1.keepS hk
 simp [a0]
 refine number_callsS hM2.rd (fun q => hM2.none (hnO (by rw [he, q]; rfl))) (fun k3 s3 q τ3 hr hk => ?_)
 rw [q] at he
 simp only [Option.bind_some] at he
 have hM3 := hM2.keepS hk hr (num_len q)
 have hF3 := hF2.keepS hk
 have hmo3 := hM3.ob
 simp only [mcells] at hmo3
 simp [a0, a2, hmo3]
 refine number_callsS hM3.rd (fun q => hM3.none (hnO (by rw [he, q]; rfl))) (fun k4 s4 q τ4 hr hk => ?_)
 rw [q] at he
 simp only [Option.bind_some] at he
 have hM4 := hM3.keepS hk hr (num_len q)
 have hF4 := hF3.keepS hk
 have hmo4 := hM4.ob
 simp only [mcells] at hmo4
 by_cases hk4 : k4 = (h0.length : Int)
 ·rw [if_pos hk4] at he
  simp [a2, hmo4, hk4]
  refine must_calls (fun _ => ?_) (fun q => by cases q)
  simp [a2, hmo4]
  refine aloop (NL4 σ0 base β x mo fo h0.length mem mn res) (MU 97 (h0.length + 1)) ⟨[], dps, [], drows, s4, by simp [a0], by simp [a2], by simp, by simp, by simp [hl], hM4, hF4, by rw [he]; rfl⟩ fun a τ hI => ?_
  refine name4_body hnO hlen (fun dps drows s a τ b0 b2 hM hF hl he => ?_) hI
  exact module_end (fun σ' mv h1 h2 h3 => hs _ _ he σ' mv h1 h2 h3) b2 hM hF hl
 ·rw [if_neg hk4] at he
  simp [a2, hmo4, hk4]
  refine must_calls (fun q => by cases q) (fun _ => ?_)
  simp
  exact hM4.none (hnO (by rw [he]; rfl)) _ _ (.inl rfl) (.refl ..)
end
end Go.Proofs.YthejpoplbllcbaaDoor
set_option linter.unusedSimpArgs false
set_option linter.unusedVariables false
namespace Go.Proofs.YthejpoplbllcbaaDoor
open Go Go.Abs
section
variable {G : Env} {σ : AS} {R : Out → AS → Prop}
theorem module_r3 (V : VarsB G) {σ0 base β x mo fo mem0 mn0} {h0 : List F} {res : Option (M × Rs)} {hrows : List AV} (hlen : h0.length ≤ 2 ^ 37) (hh : ∀ f ∈ h0, f.locals = [] ∧ f.name = []) (hhr : All2 HV hrows h0) (hf0 : σ0.no ≤ fo) (hn : res = none → NoneA R σ0) (hs : ∀ m s', res = some (m, s') → ∀ σ' mv, Al.ME σ' σ0.nf mv m → Adds σ0 σ' → Rdr base β x s' σ' → R (.ret mv) σ')
  {s : Rs} {a : Nat → AV} {τ : AS} (a0 : a 0 = .ptr x 0) (a2 : a 2 = .ptr mo 0) (hM : Md σ0 base β x mo (mcells fo h0.length mem0 mn0) s τ) (hF : Fn x mo fo (flat hrows) τ) (hs65 : s.n ≤ 65536) (he : res = (frontC h0 s).bind endM) :
  avc Tryd.prog G 114 pc21_r3 (afin Tryd.prog [.cell 2 30] (OwnR R)) a τ := by
 have hnO : res = none → NoneA (OwnR R) σ0 := fun q e σ' a b => .inl (hn q e σ' a b)
 unfold frontC at he
 simp [pc21_r3, a0]
 refine secRd_callsS (n := 5) hM.rd (fun q => hM.none (hnO (by rw [he, q]; rfl))) (fun s1 q τ1 hr hk => ?_)
 rw [q] at he
 simp only [Option.bind_some] at he
 have n1 := secP_n q
 have hM1 := hM.keepS hk hr (sec_lenP q)
 have hF1 := hF.keepS hk
 simp [a0]
 refine take_callsS hM1.rd (fun q => hM1.none (hnO (by rw [he, skip_none q]; rfl))) (fun p s2 q v τ2 _ hr hk => ?_)
 rw [skip_some q] at he
 simp only [Option.bind_some] at he
 have n2 := (takeP_some q).2.2
 have hM2 := hM1.keepS hk hr (take_len q)
 have hF2 := hF1.keepS hk
 simp [a0]
 refine secRd_callsS (n := 6) hM2.rd (fun q => hM2.none (hnO (by rw [he, q]; rfl))) (fun s3 q τ3 hr hk => ?_)
 rw [q] at he
 simp only [Option.bind_some] at he
 have n3 := secP_n q
 have hM3 := hM2.keepS hk hr (sec_lenP q)
 have hF3 := hF2.keepS hk
 simp [a0]
 refine take_callsS hM3.rd (fun q => hM3.none (hnO (by rw [he, skip_none q]; rfl))) (fun p s4 q v τ4 _ hr hk => ?_)
 rw [skip_some q] at he
 simp only [Option.bind_some] at he
 have n4 := (takeP_some q).2.2
 have hM4 := hM3.keepS hk hr (take_len q)
 have hF4 := hF3.keepS hk
 simp [a0]
 refine number_callsS hM4.rd (fun q => hM4.none (hnO (by rw [he, q]; rfl))) (fun mem s5 q τ5 hr hk => ?_)
 rw [q] at he
 simp only [Option.bind_some] at he
 have n5 := (numP_some q).2.2.1
 have hM5 := hM4.keepS hk hr (num_len q)
 have hF5 := hF4.keepS hk
 have hmo5 := hM5.ob
 simp only [mcells] at hmo5
 have hM5' : Md σ0 base β x mo (mcells fo h0.length mem mn0) s5 (τ5.setO mo (mcells fo h0.length mem mn0)) := hM5.setM
 have hF5' : Fn x mo fo (flat hrows) (τ5.setO mo (mcells fo h0.length mem mn0)) := hF5.setM
 have hmo5' := hM5'.ob
 simp only [mcells] at hM5' hF5' hmo5'
 simp [a0, a2, hmo5, splice]
 refine take_callsS hM5'.rd (fun q => hM5'.none (hnO (by rw [he, skip_none q]; rfl))) (fun p s6 q v τ6 _ hr hk => ?_)
 rw [skip_some q] at he
 simp only [Option.bind_some] at he
 have n6 := (takeP_some q).2.2
 have hM6 := hM5'.keepS hk hr (take_len q)
 have hF6 := hF5'.keepS hk
 simp [a0]
 refine secRd_callsS (n := 7) hM6.rd (fun q => hM6.none (hnO (by rw [he, q]; rfl))) (fun s7 q τ7 hr hk => ?_)
 rw [q] at he
 simp only [Option.bind_some] at he
 have n7 := secP_n q
 have hM7 := hM6.keepS hk hr (sec_lenP q)
 have hF7 := hF6.keepS hk
 simp [a0]
 refine take_callsS hM7.rd (fun q => hM7.none (hnO (by rw [he, skip_none q]; rfl))) (fun p s8 q v τ8 _ hr hk => ?_)
 rw [skip_some q] at he
 simp only [Option.bind_some] at he
 have n8 := (takeP_some q).2.2
 have hM8 := hM7.keepS hk hr (take_len q)
 have hF8 := hF7.keepS hk
 simp [a0]
 refine number_callsS hM8.rd (fun q => hM8.none (hnO (by rw [he, q]; rfl))) (fun mn s9 q τ9 hr hk => ?_)
 rw [q] at he
 simp only [Option.map_some, Option.bind_some] at he
 have n9 := (numP_some q).2.2.1
 have hM9 := hM8.keepS hk hr (num_len q)
 have hF9 := hF8.keepS hk
 have hmo9 := hM9.ob
 have hM9' : Md σ0 base β x mo (mcells fo h0.length mem (IntKind.wrap .i64 (mn - 3))) s9 (τ9.setO mo (mcells fo h0.length mem (IntKind.wrap .i64 (mn - 3)))) := hM9.setM
 have hF9' : Fn x mo fo (flat hrows) (τ9.setO mo (mcells fo h0.length mem (IntKind.wrap .i64 (mn - 3)))) := hF9.setM
 have he9 : res = (backP h0 s9).map fun q => ({ funcs := q.1, memory := mem, main := IntKind.wrap .i64 (mn - 3) }, q.2) := he
 rw [backP_eq] at he9
 simp only [mcells] at hM9' hF9'
 simp [a0, a2, hmo9, splice]
 refine secRd_callsS (n := 10) hM9'.rd (fun q => hM9'.none (hnO (by rw [he9, q]; rfl))) (fun s10 q τ10 hr hk => ?_)
 rw [q] at he9
 simp only [Option.bind_some] at he9
 have n10 := secP_n q
 have hM10 := hM9'.keepS hk hr (sec_lenP q)
 have hF10 := hF9'.keepS hk
 have hmo10 := hM10.ob
 simp [a0, a2, hmo10]
 refine number_callsS hM10.rd (fun q => hM10.none (hnO (by rw [he9, q]; rfl))) (fun k s11 q τ11 hr hk => ?_)
 rw [q] at he9
 simp only [Option.bind_some] at he9
 have n11 := (numP_some q).2.2.1
 have hM11 := hM10.keepS hk hr (num_len q)
 have hF11 := hF10.keepS hk
 have hmo11 := hM11.ob
 by_cases hk' : k = (h0.length : Int)
 ·rw [if_pos hk'] at he9
  simp [a2, hmo11, hk']
  refine must_calls (fun _ => ?_) (fun q => by cases q)
  simp [a2, hmo11]
  refine aloop (FL3 σ0 base β x mo fo mem (IntKind.wrap .i64 (mn - 3)) h0 res) (MU 71 (h0.length + 1)) ⟨[], [], hrows, s11, by simp [a0], by simp [a2], by simp, by simp, hM11, ⟨by simpa using hF11, hf0, by simp, .nil, by simpa using hhr, by simp, by simp, by simp⟩, by omega, by rw [he9]; rfl⟩ fun a τ hI => ?_
  refine func3_body V hnO hh (fun dps drows s a τ b0 b2 hM hF hl he => ?_) hlen hI
  exact module_r2 hlen hn hs b0 b2 hM hF hl he
 ·rw [if_neg hk'] at he9
  simp [a2, hmo11, hk']
  refine must_calls (fun q => by cases q) (fun _ => ?_)
  simp
  exact hM11.none (hnO (by rw [he9]; rfl)) _ _ (.inl rfl) (.refl ..)
theorem module_r4 (V : VarsB G) {σ0 base β x mo fo mem0 mn0} {h0 : List F} {res : Option (M × Rs)} {hrows : List AV} (hlen : h0.length ≤ 2 ^ 37) (hh : ∀ f ∈ h0, f.locals = [] ∧ f.name = []) (hhr : All2 HV hrows h0) (hf0 : σ0.no ≤ fo) (hn : res = none → NoneA R σ0) (hs : ∀ m s', res = some (m, s') → ∀ σ' mv, Al.ME σ' σ0.nf mv m → Adds σ0 σ' → Rdr base β x s' σ' → R (.ret mv) σ')
  {s : Rs} {a : Nat → AV} {τ : AS} (a0 : a 0 = .ptr x 0) (a2 : a 2 = .ptr mo 0) (hM : Md σ0 base β x mo (mcells fo h0.length mem0 mn0) s τ) (hF : Fn x mo fo (flat hrows) τ) (hs65 : s.n ≤ 65536) (he : res = (frontB h0 s).bind endM) :
  avc Tryd.prog G 114 pc21_r4 (afin Tryd.prog [.cell 2 30] (OwnR R)) a τ := by
 have hnO : res = none → NoneA (OwnR R) σ0 := fun q e σ' a b => .inl (hn q e σ' a b)
 unfold frontB at he
 simp [pc21_r4, a0]
 refine secRd_callsS (n := 3) hM.rd (fun q => hM.none (hnO (by rw [he, q]; rfl))) (fun s1 q τ1 hr hk => ?_)
 rw [q] at he
 simp only [Option.bind_some] at he
 have n1 := secP_n q
 have hM1 := hM.keepS hk hr (sec_lenP q)
 have hF1 := hF.keepS hk
 simp [a0]
 refine number_callsS hM1.rd (fun q => hM1.none (hnO (by rw [he, q]; rfl))) (fun N s2 q τ2 hr hk => ?_)
 rw [q] at he
 simp only [Option.bind_some] at he
 have n2 := (numP_some q).2.2.1
 have hM2 := hM1.keepS hk hr (num_len q)
 have hF2 := hF1.keepS hk
 have hNr := (numP_some q).2.2.2.2.1
 simp
 refine aloop (Nm2 σ0 base β x mo fo (mcells fo h0.length mem0 mn0) (flat hrows) h0 res s2.n N) (MU 33 (N.toNat + 1)) ⟨0, s2, by omega, by simp [a0], by simp [a2], by simp, by simp, hM2, hF2, rfl, he⟩ fun a τ hI => ?_
 refine number2_body hNr hnO (fun s a τ b0 b2 hM hF hsn he => ?_) hI
 exact module_r3 V hlen hh hhr hf0 hn hs b0 b2 hM hF (by omega) he
theorem module_calls (V : VarsB G) {σ0 base β x s} (h : Rdr base β x s σ) (hA : Adds σ0 σ) (hx0 : σ0.no ≤ x) (hb0 : σ0.nf ≤ base) (hl : s.b.length ≤ 2 ^ 37) (hs65 : s.n ≤ 65536) (hn : moduleP s = none → NoneA R σ0) (hs : ∀ m s', moduleP s = some (m, s') → ∀ σ' mv, Al.ME σ' σ0.nf mv m → Adds σ0 σ' → Rdr base β x s' σ' → R (.ret mv) σ') : ACalls Tryd.prog G 21 [.ptr x 0] σ R := by
 refine famOr (calls21 rfl ?_)
 show avc Tryd.prog G 114 pc21 (afin Tryd.prog [.cell 2 30] (OwnR R)) _ σ
 generalize hres : moduleP s = res at *
 have he := hres.symm
 rw [moduleP_eq, frontP_eq] at he
 have hnO : res = none → NoneA (OwnR R) σ0 := fun q e σ' a b => .inl (hn q e σ' a b)
 have hx := h.hx
 have hmx : ¬ σ.no = x := by omega
 have hno := hA.no
 have hM : Md σ0 base β x σ.no [.nilsl, .int .i64 0, .int .i64 0] s (σ.newO [.nilsl, .int .i64 0, .int .i64 0]) := ⟨h.adds (Adds.refl σ).newO, hA.newO, by simp, by simp, hmx, hx0, hno, hb0, hl⟩
 simp [pc21]
 refine take_callsS hM.rd (fun q => hM.none (hnO (by rw [he, skip_none q]; rfl))) (fun p s1 q v τ1 _ hr hk => ?_)
 rw [skip_some q] at he
 simp only [Option.bind_some] at he
 have n1 := (takeP_some q).2.2
 have hM1 := hM.keepS hk hr (take_len q)
 simp
 refine headsRd_calls hM1.rd hM1.len (fun q => hM1.none (hnO (by rw [he, q]; rfl))) (fun h0 s2 q τ2 hrows g hhr hg1 hg2 hg3 hg4 hr hk hlen2 => ?_)
 rw [q] at he
 simp only [Option.bind_some] at he
 have n2 := heads_n q
 have hh := headsP_some q
 have hM2 := hM1.keepS hk hr (by omega)
 have hmo2 := hM2.ob
 have hrl := hhr.length
 have hl1 := hM1.len
 simp [hmo2, splice]
 have hM2' : Md σ0 base β x σ.no [.sl (.fam g false) 5 hrows, .int .i64 0, .int .i64 0] s2 (τ2.setO σ.no [.sl (.fam g false) 5 hrows, .int .i64 0, .int .i64 0]) := hM2.setM
 refine ownAt (secRd_callsS (n := 2) hM2'.rd (fun q e σ' b1 b2 => .inl (hM2'.none (hnO (by rw [he, q]; rfl)) e σ' b1 b2)) (fun s3 q τ3 hr3 hk3 => .inr ⟨g, σ.no, 0, 5, false, [.sl (.fam g false) 5 hrows, .int .i64 0, .int .i64 0], hrows, ?_, ?_, rfl, ?_⟩))
 ·rw [hk3.fam g (by simpa using hg2)]
  simpa using hg3
 ·exact (hk3.obj σ.no (by simpa using hM2.lt) hmx).trans (by simp)
 ·rw [q] at he
  simp only [Option.bind_some] at he
  have n3 := secP_n q
  have hM3 := hM2'.keepS hk3 hr3 (sec_lenP q)
  have hno3 := hM3.lt
  have hnf3 := hk3.nf
  have hnu3 : ¬ UsesR τ3 x g := fun u => hg4 (by
   have := hk3.r.use g (by simpa using hg2) u
   obtain ⟨cs', v, u1, u2, u3⟩ := this
   have hxm : ¬ x = σ.no := fun e => hmx e.symm
   simp [hxm] at u1
   exact ⟨cs', v, u1, u2, u3⟩)
  have hgb : base ≤ g := by have := hM1.rd.hb.2; omega
  simp at hnf3
  have hM4 : Md σ0 base β x σ.no (mcells τ3.no h0.length 0 0) s3 (τ3.own g σ.no ([.sl (.fam g false) 5 hrows, .int .i64 0, .int .i64 0].set 0 (.slm τ3.no 0 5 hrows.length)) (flat hrows)) := by
   have r1 := hM3.rd.endF hgb hnu3
   obtain ⟨bv, lv, ho, hv, hl⟩ := r1.cells
   have hxm : ¬ x = σ.no := fun e => hmx e.symm
   have hxn := hM3.rd.hx
   have hx3 : ¬ x = τ3.no := by omega
   have hm3 : ¬ σ.no = τ3.no := by omega
   refine ⟨⟨by simp; omega, r1.hb, by simpa using r1.h0, fun f hf => by simpa using r1.hβ f hf, bv, lv, by simpa [hxm, hx3] using ho, hv, ?_⟩, ⟨by have := hM3.ad.no; simp; omega, hM3.ad.nf, fun o ho => ?_, fun f hf => ?_⟩, by simp [hm3, mcells, hrl], by simp; omega, hmx, hx0, hno, hb0, hM3.len⟩
   ·rcases hl with h1 | ⟨f, tos, h1, h2, h3, h4, h5⟩
    ·exact .inl h1
    ·exact .inr ⟨f, tos, h1, h2, h3, by simpa using h4, h5⟩
   ·have h1 : ¬ o = τ3.no := by omega
    have h2 : ¬ o = σ.no := by omega
    simp [h1, h2]
    exact hM3.ad.obj o ho
   ·have : ¬ f = g := by omega
    simp [this]
    exact hM3.ad.fam f hf
  have hF4 : Fn x σ.no τ3.no (flat hrows) (τ3.own g σ.no ([.sl (.fam g false) 5 hrows, .int .i64 0, .int .i64 0].set 0 (.slm τ3.no 0 5 hrows.length)) (flat hrows)) := ⟨by simp, by simp, by have := hM3.rd.hx; omega, by omega⟩
  generalize τ3.own g σ.no ([.sl (.fam g false) 5 hrows, .int .i64 0, .int .i64 0].set 0 (.slm τ3.no 0 5 hrows.length)) (flat hrows) = τ4 at *
  have hh' : ∀ f ∈ h0, f.locals = [] ∧ f.name = [] := fun f hf => ⟨(hh f hf).1, by
   have key : ∀ {rows : List AV} {l : List F}, All2 HV rows l → ∀ f ∈ l, f.name = [] := fun {rows l} hr => by
    induction hr with
    | nil => intro f hf; cases hf
    | cons h r ih =>
     intro f hf
     rcases List.mem_cons.1 hf with rfl | hf
     ·obtain ⟨_, _, _, e, _⟩ := h
      exact e
     ·exact ih f hf
   exact key hhr f hf⟩
  have hf0 : σ0.no ≤ τ3.no := by omega
  simp
  refine take_callsS hM4.rd (fun q => hM4.none (hnO (by rw [he, skip_none q]; rfl))) (fun p s5 q v τ5 _ hr hk => ?_)
  rw [skip_some q] at he
  simp only [Option.bind_some] at he
  have n5 := (takeP_some q).2.2
  have hM5 := hM4.keepS hk hr (take_len q)
  have hF5 := hF4.keepS hk
  simp
  refine aloop (Im1 σ0 base β x σ.no τ3.no (mcells τ3.no h0.length 0 0) (flat hrows) h0 res s5.n) (MU 18 4) ⟨0, s5, by omega, by simp, by simp, by simp [wordsI], by simp, by simp, hM5, hF5, rfl, he⟩ fun a τ hI => ?_
  refine import1_body hnO (fun s a τ b0 b2 hM hF hsn he => ?_) hI
  exact module_r4 V (by omega) hh' hhr hf0 hn hs b0 b2 hM hF (by omega) he
end
end Go.Proofs.YthejpoplbllcbaaDoor
set_option linter.unusedSimpArgs false
set_option linter.unusedVariables false
namespace Go.Proofs.YthejpoplbllcbaaDoor
open Go Go.Abs
def ixI (o : Option Nat) : Int := match o with
 | some i => (i : Int)
 | none => -1
theorem ixI_ge (o : Option Nat) : decide (0 ≤ ixI o) = o.isSome := by
 cases o with
 | none => rfl
 | some i => simp [ixI]
theorem any_find {α : Type} (P : α → Bool) (l : List α) : (l.findIdx? P).isSome = l.any P := by
 rw [List.findIdx?_isSome]
theorem find_at {α : Type} {P : α → Bool} {l : List α} {i : Nat} (hi : i < l.length) (hp : P l[i] = true) (hn : ∀ j (h : j < l.length), j < i → P l[j] = false) : l.findIdx? P = some i := by
 rw [List.findIdx?_eq_some_iff_getElem]
 exact ⟨hi, hp, fun j hj => by simp [hn j (by omega) hj]⟩
theorem find_no {α : Type} {P : α → Bool} {l : List α} (hn : ∀ j (h : j < l.length), P l[j] = false) : l.findIdx? P = none := by
 rw [List.findIdx?_eq_none_iff]
 intro x hx
 obtain ⟨j, hj, rfl⟩ := List.getElem_of_mem hx
 exact hn j hj
section
variable {G : Env} {σ : AS} {R : Out → AS → Prop}
def IxA {α : Type} (P : α → Bool) (v fv : AV) (l : List α) (σ : AS) (a : Nat → AV) (τ : AS) : Prop := ∃ i : Nat, i ≤ l.length ∧ a 0 = v ∧ a 1 = fv ∧ a 7 = .int .i64 (l.length : Int) ∧ a 8 = .int .i64 (i : Int) ∧ Adds σ τ ∧ ∀ j (h : j < l.length), j < i → P l[j] = false
theorem ix98 {n : Nat} {caps : List AV} {P : Int → Bool} {l : List Int} {v : AV} (hv : Al.IntsO σ v l) (hl : l.length ≤ 2 ^ 40) (hc : callable Tryd.prog n = true)
  (hcall : ∀ x ∈ l, ∀ rv τ (R' : Out → AS → Prop), Adds σ τ → rv = .int .i64 x → (∀ τ', Adds τ τ' → R' (.ret (.bool (P x))) τ') → ACalls Tryd.prog G n (rv :: caps) τ R') (h : ∀ σ', Adds σ σ' → R (.ret (.int .i64 (ixI (l.findIdx? P)))) σ') : ACalls Tryd.prog G 52 [v, .fn (.func n) [] caps] σ R := by
 refine calls52 rfl ?_
 have v1 := hv.one
 have v2 := hv.len
 simp [pc52, v1, v2]
 refine aloop (IxA P v (.fn (.func n) [] caps) l σ) (MU 8 (l.length + 1)) ⟨0, by omega, by simp, by simp, by simp, by simp, .refl _, fun j _ h => by omega⟩ fun a τ hI => ?_
 obtain ⟨i, hi, a0, a1, a7, a8, hA, hno⟩ := hI
 by_cases hlt : i < l.length
 ·have hlt' : (i : Int) < (l.length : Int) := by omega
  obtain ⟨φ, hrd, hix⟩ := (hv.keep hA).at hlt
  have hrd := hrd.read
  have hmem := List.getElem_mem hlt
  have w1 : IntKind.wrap .i64 ((i : Int) + 1) = ((i + 1 : Nat) : Int) := by rw [wrap_i64] <;> omega
  skip
  simp [pc52_l1, a0, a1, a7, a8, hlt', hix, hrd, hc ]
  refine hcall _ hmem _ τ _ hA rfl fun τ' A' => ?_
  cases hp : P l[i] with
  | true =>
   have e := find_at hlt hp hno
   have := h _ (hA.trans A')
   rw [e] at this
   simp
   exact this
  | false =>
   simp [a8, w1]
   refine ⟨⟨i + 1, by omega, by simp [a0], by simp [a1], by simp [a7], by simp, hA.trans A', fun j hj hji => ?_⟩, ?_⟩
   ·rcases Nat.lt_or_ge j i with h1 | h1
    ·exact hno j hj h1
    ·have : j = i := by omega
     subst this
     exact hp
   ·simp only [MU, a8]; simp; omega
 ·have he := find_no (P := P) (l := l) fun j hj => hno j hj (by omega)
  have := h _ hA
  rw [he] at this
  simp [pc52_l1, pc52_r1, a7, a8, hlt]
  exact this
theorem has65 {n : Nat} {caps : List AV} {P : Int → Bool} {l : List Int} {v : AV} (hv : Al.IntsO σ v l) (hl : l.length ≤ 2 ^ 40) (hc : callable Tryd.prog n = true)
  (hcall : ∀ x ∈ l, ∀ rv τ (R' : Out → AS → Prop), Adds σ τ → rv = .int .i64 x → (∀ τ', Adds τ τ' → R' (.ret (.bool (P x))) τ') → ACalls Tryd.prog G n (rv :: caps) τ R') (h : ∀ σ', Adds σ σ' → R (.ret (.bool (l.any P))) σ') : ACalls Tryd.prog G 39 [v, .fn (.func n) [] caps] σ R := by
 refine calls39 rfl ?_
 have v1 := hv.one
 simp [pc39, v1]
 refine ix98 hv hl hc hcall fun σ' A => ?_
 have e : decide (0 ≤ ixI (l.findIdx? P)) = l.any P := by rw [ixI_ge, any_find]
 simp [e]
 exact h _ A
theorem ix100 {n : Nat} {caps : List AV} {P : W → Bool} {l : List W} {v : AV} (hv : Al.RepO σ v l) (hl : l.length ≤ 2 ^ 40) (hc : callable Tryd.prog n = true)
  (hcall : ∀ x ∈ l, ∀ rv τ (R' : Out → AS → Prop), Adds σ τ → rv = x.av → (∀ τ', Adds τ τ' → R' (.ret (.bool (P x))) τ') → ACalls Tryd.prog G n (rv :: caps) τ R') (h : ∀ σ', Adds σ σ' → R (.ret (.int .i64 (ixI (l.findIdx? P)))) σ') : ACalls Tryd.prog G 54 [v, .fn (.func n) [] caps] σ R := by
 refine calls54 rfl ?_
 have v1 := hv.one
 have v2 := RepO.len hv
 simp [pc54, v1, v2]
 refine aloop (IxA P v (.fn (.func n) [] caps) l σ) (MU 8 (l.length + 1)) ⟨0, by omega, by simp, by simp, by simp, by simp, .refl _, fun j _ h => by omega⟩ fun a τ hI => ?_
 obtain ⟨i, hi, a0, a1, a7, a8, hA, hno⟩ := hI
 by_cases hlt : i < l.length
 ·have hlt' : (i : Int) < (l.length : Int) := by omega
  obtain ⟨φ, hrd, hix⟩ := RepO.at (hv.keep hA) hlt
  have hrd := hrd.read
  have hmem := List.getElem_mem hlt
  have w1 : IntKind.wrap .i64 ((i : Int) + 1) = ((i + 1 : Nat) : Int) := by rw [wrap_i64] <;> omega
  skip
  simp [pc54_l1, a0, a1, a7, a8, hlt', hix, hrd, hc , W.av, W.cs]
  refine hcall _ hmem _ τ _ hA rfl fun τ' A' => ?_
  cases hp : P l[i] with
  | true =>
   have e := find_at hlt hp hno
   have := h _ (hA.trans A')
   rw [e] at this
   simp
   exact this
  | false =>
   simp [a8, w1]
   refine ⟨⟨i + 1, by omega, by simp [a0], by simp [a1], by simp [a7], by simp, hA.trans A', fun j hj hji => ?_⟩, ?_⟩
   ·rcases Nat.lt_or_ge j i with h1 | h1
    ·exact hno j hj h1
    ·have : j = i := by omega
     subst this
     exact hp
   ·simp only [MU, a8]; simp; omega
 ·have he := find_no (P := P) (l := l) fun j hj => hno j hj (by omega)
  have := h _ hA
  rw [he] at this
  simp [pc54_l1, pc54_r1, a7, a8, hlt]
  exact this
theorem has70 {n : Nat} {caps : List AV} {P : W → Bool} {l : List W} {v : AV} (hv : Al.RepO σ v l) (hl : l.length ≤ 2 ^ 40) (hc : callable Tryd.prog n = true)
  (hcall : ∀ x ∈ l, ∀ rv τ (R' : Out → AS → Prop), Adds σ τ → rv = x.av → (∀ τ', Adds τ τ' → R' (.ret (.bool (P x))) τ') → ACalls Tryd.prog G n (rv :: caps) τ R') (h : ∀ σ', Adds σ σ' → R (.ret (.bool (l.any P))) σ') : ACalls Tryd.prog G 44 [v, .fn (.func n) [] caps] σ R := by
 refine calls44 rfl ?_
 have v1 := hv.one
 simp [pc44, v1]
 refine ix100 hv hl hc hcall fun σ' A => ?_
 have e : decide (0 ≤ ixI (l.findIdx? P)) = l.any P := by rw [ixI_ge, any_find]
 simp [e]
 exact h _ A
theorem ix99 {n : Nat} {caps : List AV} {P : (List W) → Bool} {l : List (List W)} {v : AV} (hv : Al.LstO σ v l) (hl : l.length ≤ 2 ^ 40) (hc : callable Tryd.prog n = true)
  (hcall : ∀ x ∈ l, ∀ rv τ (R' : Out → AS → Prop), Adds σ τ → Al.RepO τ rv x → (∀ τ', Adds τ τ' → R' (.ret (.bool (P x))) τ') → ACalls Tryd.prog G n (rv :: caps) τ R') (h : ∀ σ', Adds σ σ' → R (.ret (.int .i64 (ixI (l.findIdx? P)))) σ') : ACalls Tryd.prog G 53 [v, .fn (.func n) [] caps] σ R := by
 refine calls53 rfl ?_
 have v1 := hv.one
 have v2 := hv.len
 simp [pc53, v1, v2]
 refine aloop (IxA P v (.fn (.func n) [] caps) l σ) (MU 8 (l.length + 1)) ⟨0, by omega, by simp, by simp, by simp, by simp, .refl _, fun j _ h => by omega⟩ fun a τ hI => ?_
 obtain ⟨i, hi, a0, a1, a7, a8, hA, hno⟩ := hI
 by_cases hlt : i < l.length
 ·have hlt' : (i : Int) < (l.length : Int) := by omega
  obtain ⟨φ, rv, hrd, hel, hix⟩ := (hv.keep hA).at hlt
  have hrd := hrd.read
  have hmem := List.getElem_mem hlt
  have w1 : IntKind.wrap .i64 ((i : Int) + 1) = ((i + 1 : Nat) : Int) := by rw [wrap_i64] <;> omega
  have o1 := hel.one
  simp [pc53_l1, a0, a1, a7, a8, hlt', hix, hrd, hc , o1]
  refine hcall _ hmem _ τ _ hA hel fun τ' A' => ?_
  cases hp : P l[i] with
  | true =>
   have e := find_at hlt hp hno
   have := h _ (hA.trans A')
   rw [e] at this
   simp
   exact this
  | false =>
   simp [a8, w1]
   refine ⟨⟨i + 1, by omega, by simp [a0], by simp [a1], by simp [a7], by simp, hA.trans A', fun j hj hji => ?_⟩, ?_⟩
   ·rcases Nat.lt_or_ge j i with h1 | h1
    ·exact hno j hj h1
    ·have : j = i := by omega
     subst this
     exact hp
   ·simp only [MU, a8]; simp; omega
 ·have he := find_no (P := P) (l := l) fun j hj => hno j hj (by omega)
  have := h _ hA
  rw [he] at this
  simp [pc53_l1, pc53_r1, a7, a8, hlt]
  exact this
theorem has68 {n : Nat} {caps : List AV} {P : (List W) → Bool} {l : List (List W)} {v : AV} (hv : Al.LstO σ v l) (hl : l.length ≤ 2 ^ 40) (hc : callable Tryd.prog n = true)
  (hcall : ∀ x ∈ l, ∀ rv τ (R' : Out → AS → Prop), Adds σ τ → Al.RepO τ rv x → (∀ τ', Adds τ τ' → R' (.ret (.bool (P x))) τ') → ACalls Tryd.prog G n (rv :: caps) τ R') (h : ∀ σ', Adds σ σ' → R (.ret (.bool (l.any P))) σ') : ACalls Tryd.prog G 42 [v, .fn (.func n) [] caps] σ R := by
 refine calls42 rfl ?_
 have v1 := hv.one
 simp [pc42, v1]
 refine ix99 hv hl hc hcall fun σ' A => ?_
 have e : decide (0 ≤ ixI (l.findIdx? P)) = l.any P := by rw [ixI_ge, any_find]
 simp [e]
 exact h _ A
theorem ix97 {n : Nat} {caps : List AV} {P : F → Bool} {l : List F} {v : AV} (hv : Al.FsO σ v l) (hl : l.length ≤ 2 ^ 40) (hc : callable Tryd.prog n = true)
  (hcall : ∀ x ∈ l, ∀ rv τ (R' : Out → AS → Prop), Adds σ τ → Al.FVO τ rv x → (∀ τ', Adds τ τ' → R' (.ret (.bool (P x))) τ') → ACalls Tryd.prog G n (rv :: caps) τ R') (h : ∀ σ', Adds σ σ' → R (.ret (.int .i64 (ixI (l.findIdx? P)))) σ') : ACalls Tryd.prog G 51 [v, .fn (.func n) [] caps] σ R := by
 refine calls51 rfl ?_
 have v1 := hv.one
 have v2 := hv.len
 simp [pc51, v1, v2]
 refine aloop (IxA P v (.fn (.func n) [] caps) l σ) (MU 8 (l.length + 1)) ⟨0, by omega, by simp, by simp, by simp, by simp, .refl _, fun j _ h => by omega⟩ fun a τ hI => ?_
 obtain ⟨i, hi, a0, a1, a7, a8, hA, hno⟩ := hI
 by_cases hlt : i < l.length
 ·have hlt' : (i : Int) < (l.length : Int) := by omega
  obtain ⟨φ, rv, hrd, hel, hix⟩ := (hv.keep hA).at hlt
  have hrd := hrd.read
  have hmem := List.getElem_mem hlt
  have w1 : IntKind.wrap .i64 ((i : Int) + 1) = ((i + 1 : Nat) : Int) := by rw [wrap_i64] <;> omega
  obtain ⟨pv, lv, tv, hrv, hpv, hlv, htv⟩ := id hel
  have o1 := hpv.one
  have o2 := hlv.one
  have o3 := htv.one
  subst hrv
  simp [pc51_l1, a0, a1, a7, a8, hlt', hix, hrd, hc , o1, o2, o3]
  refine hcall _ hmem _ τ _ hA hel fun τ' A' => ?_
  cases hp : P l[i] with
  | true =>
   have e := find_at hlt hp hno
   have := h _ (hA.trans A')
   rw [e] at this
   simp
   exact this
  | false =>
   simp [a8, w1]
   refine ⟨⟨i + 1, by omega, by simp [a0], by simp [a1], by simp [a7], by simp, hA.trans A', fun j hj hji => ?_⟩, ?_⟩
   ·rcases Nat.lt_or_ge j i with h1 | h1
    ·exact hno j hj h1
    ·have : j = i := by omega
     subst this
     exact hp
   ·simp only [MU, a8]; simp; omega
 ·have he := find_no (P := P) (l := l) fun j hj => hno j hj (by omega)
  have := h _ hA
  rw [he] at this
  simp [pc51_l1, pc51_r1, a7, a8, hlt]
  exact this
theorem has63 {n : Nat} {caps : List AV} {P : F → Bool} {l : List F} {v : AV} (hv : Al.FsO σ v l) (hl : l.length ≤ 2 ^ 40) (hc : callable Tryd.prog n = true)
  (hcall : ∀ x ∈ l, ∀ rv τ (R' : Out → AS → Prop), Adds σ τ → Al.FVO τ rv x → (∀ τ', Adds τ τ' → R' (.ret (.bool (P x))) τ') → ACalls Tryd.prog G n (rv :: caps) τ R') (h : ∀ σ', Adds σ σ' → R (.ret (.bool (l.any P))) σ') : ACalls Tryd.prog G 37 [v, .fn (.func n) [] caps] σ R := by
 refine calls37 rfl ?_
 have v1 := hv.one
 simp [pc37, v1]
 refine ix97 hv hl hc hcall fun σ' A => ?_
 have e : decide (0 ≤ ixI (l.findIdx? P)) = l.any P := by rw [ixI_ge, any_find]
 simp [e]
 exact h _ A
end
end Go.Proofs.YthejpoplbllcbaaDoor
set_option linter.unusedSimpArgs false
set_option linter.unusedVariables false
namespace Go.Proofs.YthejpoplbllcbaaDoor
open Go Go.Abs
section
variable {G : Env} {σ : AS} {R : Out → AS → Prop}
theorem odd_calls {t : Int} (h : R (.ret (.bool (oddT t))) σ) : ACalls Tryd.prog G 36 [.int .i64 t] σ R := by
 refine calls36 rfl ?_
 by_cases h1 : t = 1
 ·subst h1
  simp [pc36]
  simpa [oddT] using h
 ·by_cases h2 : t = 2
  ·subst h2
   simp [pc36]
   simpa [oddT] using h
  ·simp [pc36, h1, h2]
   simpa [oddT, h1, h2] using h
theorem call62 : callable Tryd.prog 36 = true := by kernel_rfl
theorem call64 : callable Tryd.prog 38 = true := by kernel_rfl
theorem call66 : callable Tryd.prog 40 = true := by kernel_rfl
theorem call67 : callable Tryd.prog 41 = true := by kernel_rfl
theorem call69 : callable Tryd.prog 43 = true := by kernel_rfl
theorem hasOdd {l : List Int} {v : AV} (hv : Al.IntsO σ v l) (hl : l.length ≤ 2 ^ 40) (h : ∀ σ', Adds σ σ' → R (.ret (.bool (l.any oddT))) σ') : ACalls Tryd.prog G 39 [v, .fn (.func 36) [] []] σ R := by
 refine has65 (P := oddT) hv hl call62 (fun x _ rv τ R' A e h => ?_) h
 subst e
 exact odd_calls (h _ (.refl _))
theorem typedF_calls {f : F} {fv : AV} {o : Nat} (hf : Al.FVO σ fv f) (hs : SzB f) (ho : σ.objs o = some [.fn (.func 36) [] []]) (hol : o < σ.no) (h : ∀ σ', Adds σ σ' → R (.ret (.bool (!typedF f))) σ') : ACalls Tryd.prog G 38 [fv, .ptr o 0] σ R := by
 refine calls38 rfl ?_
 obtain ⟨pv, lv, tv, rfl, hp, hl, ht⟩ := hf
 have p1 := hp.one
 have l1 := hl.one
 have t1 := ht.one
 have A0 : Adds σ (σ.newO [.str f.name, pv, lv, .int .i64 f.type, tv]) := (Adds.refl σ).newO
 have hne : ¬ o = σ.no := by omega
 have hs1 := hs.params
 have hs2 := hs.locals
 have eF : (!typedF f) = (f.params.any oddT || (f.locals.any oddT || (decide (f.type ≠ 0) && oddT f.type))) := by simp [typedF]
 rw [eF] at h
 simp [pc38, p1, l1, t1, hne, ho]
 refine hasOdd (hp.keep A0) (by omega) fun σ1 A1 => ?_
 have o1 := (A1.obj σ.no (by simp)).trans (show _ = some [.str f.name, pv, lv, .int .i64 f.type, tv] by simp)
 have o2 := (A1.obj o (by simp; omega)).trans (show _ = some [.fn (.func 36) [] []] by simp [hne, ho])
 have n1 := A1.no
 simp at n1
 cases hq : f.params.any oddT with
 | true =>
  rw [hq] at h
  simp
  exact h _ (A0.trans A1)
 | false =>
  rw [hq] at h
  simp [o1, o2, l1]
  refine hasOdd (hl.keep (A0.trans A1)) (by omega) fun σ2 A2 => ?_
  have o3 := (A2.obj σ.no (by omega)).trans o1
  have o4 := (A2.obj o (by omega)).trans o2
  cases hq2 : f.locals.any oddT with
  | true =>
   rw [hq2] at h
   simp
   exact h _ ((A0.trans A1).trans A2)
  | false =>
   rw [hq2] at h
   by_cases h0 : f.type = 0
   ·simp [o3, o4, h0]
    have := h _ ((A0.trans A1).trans A2)
    simpa [h0] using this
   ·simp [o3, o4, h0, call62]
    refine odd_calls ?_
    have := h _ ((A0.trans A1).trans A2)
    simpa [h0] using this
theorem typed_calls {m : M} {mv : AV} (hm : Al.MO σ mv m) (hl : m.funcs.length ≤ 2 ^ 40) (hs : ∀ f ∈ m.funcs, SzB f) (h : ∀ σ', Adds σ σ' → R (.ret (.bool (m.funcs.all typedF))) σ') : ACalls Tryd.prog G 23 [mv] σ R := by
 refine calls23 rfl ?_
 obtain ⟨fv, rfl, hf⟩ := hm
 have f1 := hf.one
 have A0 : Adds σ (((σ.newO [fv, .int .i64 m.memory, .int .i64 m.main]).newO [.nilfn]).setO (σ.no + 1) [.fn (.func 36) [] []]) := ((Adds.refl σ).newO.newO).setO (by omega)
 have e : (m.funcs.any fun f => !typedF f) = !(m.funcs.all typedF) := by simp [List.any_eq_not_all_not]
 simp [pc23, f1, splice]
 refine has63 (P := fun f => !typedF f) (hf.keep A0) hl call64 (fun x hx rv τ R' A e h' => ?_) fun σ' A' => ?_
 ·refine typedF_calls e (hs x hx) (o := σ.no + 1) ((A.obj _ (by simp)).trans (by simp)) (by have := A.no; simp at this; omega) h'
 ·rw [e]
  simp
  exact h _ (A0.trans A')
theorem below_calls {w : W} (h : ∀ σ', Adds σ σ' → R (.ret (.bool (belowW w))) σ') : ACalls Tryd.prog G 40 [w.av] σ R := by
 refine calls40 rfl ?_
 have A0 : Adds σ (σ.newO w.cs) := (Adds.refl σ).newO
 simp only [W.cs] at A0
 by_cases h0 : w.n < 0
 ·simp [pc40, W.av, W.cs, h0]
  have := h _ A0
  simpa [belowW, h0] using this
 ·simp [pc40, W.av, W.cs, h0]
  have := h _ A0
  simpa [belowW, h0] using this
theorem belowL_calls {l : List W} {v : AV} {o : Nat} (hv : Al.RepO σ v l) (hl : l.length ≤ 2 ^ 40) (ho : σ.objs o = some [.fn (.func 40) [] []]) (h : ∀ σ', Adds σ σ' → R (.ret (.bool (l.any belowW))) σ') : ACalls Tryd.prog G 43 [v, .ptr o 0] σ R := by
 refine calls43 rfl ?_
 have v1 := hv.one
 simp [pc43, ho, v1]
 refine has70 (P := belowW) hv hl call66 (fun x _ rv τ R' A e h' => ?_) fun σ' A' => ?_
 ·subst e
  exact below_calls h'
 ·simp
  exact h _ A'
theorem belowF_calls {f : F} {fv : AV} {o : Nat} (hf : Al.FVO σ fv f) (hs : SzB f) (ho : σ.objs o = some [.fn (.func 40) [] []]) (hol : o < σ.no) (h : ∀ σ', Adds σ σ' → R (.ret (.bool (f.lists.any fun l => l.any belowW))) σ') : ACalls Tryd.prog G 41 [fv, .ptr o 0] σ R := by
 refine calls41 rfl ?_
 obtain ⟨pv, lv, tv, rfl, hp, hl, ht⟩ := hf
 have p1 := hp.one
 have l1 := hl.one
 have t1 := ht.one
 have A0 : Adds σ (σ.newO [.str f.name, pv, lv, .int .i64 f.type, tv]) := (Adds.refl σ).newO
 have hne : ¬ o = σ.no := by omega
 simp [pc41, p1, l1, t1]
 refine has68 (P := fun l => l.any belowW) (ht.keep A0) hs.many call69 (fun x hx rv τ R' A e h' => ?_) fun σ' A' => ?_
 ·exact belowL_calls e (hs.rows x hx) ((A.obj o (by simp; omega)).trans (by simp [hne, ho])) h'
 ·simp
  exact h _ (A0.trans A')
theorem ranged_calls {m : M} {mv : AV} (hm : Al.MO σ mv m) (hl : m.funcs.length ≤ 2 ^ 40) (hs : ∀ f ∈ m.funcs, SzB f) (h : ∀ σ', Adds σ σ' → R (.ret (.bool (rangedM m))) σ') : ACalls Tryd.prog G 24 [mv] σ R := by
 refine calls24 rfl ?_
 obtain ⟨fv, rfl, hf⟩ := hm
 have f1 := hf.one
 have A0 : Adds σ (((σ.newO [fv, .int .i64 m.memory, .int .i64 m.main]).newO [.nilfn]).setO (σ.no + 1) [.fn (.func 40) [] []]) := ((Adds.refl σ).newO.newO).setO (by omega)
 have hne : ¬ σ.no = σ.no + 1 := by omega
 unfold rangedM at h
 by_cases h3 : -3 ≤ m.main
 ·simp [pc24, f1, splice, h3]
  refine has63 (P := fun f => f.lists.any fun l => l.any belowW) (hf.keep A0) hl call67 (fun x hx rv τ R' A e h' => ?_) fun σ' A' => ?_
  ·refine belowF_calls e (hs x hx) (o := σ.no + 1) ((A.obj _ (by simp)).trans (by simp)) (by have := A.no; simp at this; omega) h'
  ·have := h _ (A0.trans A')
   simp
   simpa [h3] using this
 ·simp [pc24, f1, splice, h3]
  have := h _ A0
  simpa [h3] using this
end
end Go.Proofs.YthejpoplbllcbaaDoor
set_option linter.unusedSimpArgs false
set_option linter.unusedVariables false
namespace Go.Proofs.YthejpoplbllcbaaDoor
open Go Go.Abs
theorem leafP_rg {st : Bool} {c : UInt8} {s s' : Rs} {w : W} (h : leafP st c s = some (w, s')) : RgW w := by
 unfold leafP at h
 cases hf : findT numT c with
 | some w0 =>
  rw [hf] at h
  simp only [Option.map_eq_some_iff] at h
  obtain ⟨⟨n, s1⟩, hn, he⟩ := h
  cases he
  obtain ⟨_, _, _, n1, n2, _⟩ := numP_some hn
  exact ⟨n1, n2⟩
 | none =>
  rw [hf] at h
  simp only at h
  cases hp : findT plainT c with
  | some w0 =>
   rw [hp] at h
   simp only at h
   have hz : ∀ p ∈ plainT, RgW p.2 := by
    have : ∀ p ∈ plainT, 0 ≤ p.2.n ∧ p.2.n ≤ 8 := by decide
    intro p hp
    have := this p hp
    exact ⟨by omega, by omega⟩
   have hm := hz _ (findT_mem hp)
   split at h
   ·rw [Option.map_eq_some_iff] at h
    obtain ⟨_, _, he⟩ := h
    cases he
    exact hm
   ·cases h
    exact hm
  | none =>
   rw [hp] at h
   simp only [Option.map_eq_some_iff] at h
   obtain ⟨w0, hn, he⟩ := h
   cases he
   have hm : (c, w) ∈ signT := by
    have := signP_mem ⟨c.toNat, c.toNat_lt⟩ w (by simpa using hn)
    simpa using this
   have hz : ∀ p ∈ signT, p.2.n = 0 := by decide
   have := hz _ hm
   simp only at this
   exact ⟨by omega, by omega⟩
theorem listP_rg : ∀ (st : Bool) (k d : Nat) (l : List W) (s : Rs) (n : Int) (e : UInt8) (s' : Rs), listP st k d l s = some ((n, e), s') → RgL s.ls → (∀ w ∈ l, RgW w) → RgL s'.ls
 | st, 0, _, _, _, _, _, _, h, _, _ => by simp [listP] at h
 | st, k + 1, d, l, s, n, e, s', h, hs, hl => by
  have hz : ∀ op b o : Int, RgW (nestP op b o) := fun _ _ _ => ⟨by simp [nestP], by simp [nestP]⟩
  rw [listP] at h
  simp only [Option.bind_eq_some_iff] at h
  obtain ⟨⟨c, s1⟩, hb, h⟩ := h
  obtain ⟨b1, b2, b3⟩ := byteP_some hb
  rw [← b2] at hs
  split at h
  ·cases h
   intro ws hw
   rcases List.mem_append.1 hw with h1 | h1
   ·exact hs ws h1
   ·simp only [List.mem_singleton] at h1
    subst h1
    exact hl
  ·simp only [Option.bind_eq_some_iff] at h
   obtain ⟨⟨w, s2⟩, hi, h⟩ := h
   have hq : RgL s2.ls ∧ RgW w := by
    unfold instrP at hi
    split at hi
    ·split at hi
     ·unfold withinP at hi
      simp only [Option.bind_eq_some_iff] at hi
      obtain ⟨⟨c1, s3⟩, hb1, ⟨⟨n1, e1⟩, s4⟩, hl1, hi⟩ := hi
      obtain ⟨f1, f2, f3⟩ := byteP_some hb1
      rw [← f2] at hs
      have hs4 := listP_rg st k (d + 1) [] s3 n1 e1 s4 hl1 hs (by simp)
      split at hi
      ·split at hi
       ·rw [Option.map_eq_some_iff] at hi
        obtain ⟨⟨⟨n2, e2⟩, s5⟩, hl2, he2⟩ := hi
        simp only [Prod.mk.injEq] at he2
        obtain ⟨rfl, rfl⟩ := he2
        exact ⟨listP_rg st k (d + 1) [] s4 n2 e2 _ hl2 hs4 (by simp), hz _ _ _⟩
       ·cases hi
        exact ⟨hs4, hz _ _ _⟩
      ·cases hi
       exact ⟨hs4, hz _ _ _⟩
     ·cases hi
    ·obtain ⟨_, a2, _⟩ := leafP_some hi
     rw [a2]
     exact ⟨hs, leafP_rg hi⟩
   refine listP_rg st k d _ s2 n e s' h hq.1 fun w' hw' => ?_
   rcases List.mem_append.1 hw' with h1 | h1
   ·exact hl w' h1
   ·simp only [List.mem_singleton] at h1
    subst h1
    exact hq.2
theorem functionP_size {st : Bool} {f f' : F} {s s' : Rs} (h : functionP st f s = some (f', s')) (hl : f.locals = []) : (∃ c, codeF f' = some c ∧ c.length + 11 * s'.b.length ≤ 11 * s.b.length + 11 * f'.locals.length + 40) ∧ f'.lists.length ≤ s.b.length ∧ (∀ ws ∈ f'.lists, ws.length ≤ s.b.length) ∧ RgL f'.lists := by
 obtain ⟨⟨_, _, ⟨st0, k0, s00, e0, s0', k1, k2, k3⟩, _⟩, hn, _, _⟩ := functionP_some h hl
 unfold functionP at h
 simp only [Option.bind_eq_some_iff, Option.map_eq_some_iff] at h
 obtain ⟨⟨n1, s1⟩, h1, ⟨n2, s2⟩, h2, ⟨gs, s3⟩, h3, ⟨⟨n, e⟩, s4⟩, h4, h5⟩ := h
 simp only [Prod.mk.injEq] at h5
 obtain ⟨hf', hs'⟩ := h5
 subst hf'
 subst hs'
 have l1 := num_len h1
 have l2 := num_len h2
 have l3 := groups_len h3
 simp only at l1 l2 l3 h4
 obtain ⟨_, d2, d3, ⟨ws0, d4⟩, _, _, _⟩ := listP_ls _ _ _ _ _ _ _ _ h4
 obtain ⟨z1, z2⟩ := listP_size _ _ _ _ _ _ _ _ h4
 have hr := listP_rg _ _ _ _ _ _ _ _ h4 (by simp [RgL]) (by simp)
 have hc := listP_can _ _ _ _ _ _ _ _ h4 (by intro i ws hi; simp at hi) (by simp)
 simp at z1 d3
 have hpos : 0 < s4.ls.length := by omega
 have hnn : n = (s4.ls.length : Int) - 1 := by omega
 obtain ⟨x, hx⟩ := encL_some hc (s4.ls.length - 1) s4.ls.length (by omega) (by omega)
 have hx' : encL s4.ls s4.ls.length ((s4.ls.length : Int) - 1) = some x := by
  rwa [show (((s4.ls.length - 1 : Nat)) : Int) = (s4.ls.length : Int) - 1 from by omega] at hx
 refine ⟨⟨sizedL (localsL (f.locals ++ gs.flatten) ++ x ++ [11]), by unfold codeF; rw [hx']; rfl, ?_⟩, by simp only; omega, fun ws hw => ?_, hr⟩
 ·obtain ⟨j, hj⟩ : ∃ j, s4.ls.length = j + 1 := ⟨s4.ls.length - 1, by omega⟩
  have hx2 := hx'
  rw [hj, encL, if_neg (by omega)] at hx2
  rw [hnn] at d4
  have e1 : (((j + 1 : Nat) : Int) - 1) = (s4.ls.length : Int) - 1 := by omega
  rw [e1, d4] at hx2
  have := listP_len (fin := s4.ls) _ _ _ _ _ _ _ h4 (List.prefix_refl _) j ws0 x (by rw [hnn, d4]) (by simpa using hx2)
  have hlo := localsRows_len (f.locals ++ gs.flatten).length (f.locals ++ gs.flatten)
  have hsb := sumB_flat (localsRows (f.locals ++ gs.flatten).length (f.locals ++ gs.flatten))
  have hu1 := uI_len ((localsRows (f.locals ++ gs.flatten).length (f.locals ++ gs.flatten)).length : Int)
  have hu2 := uI_len (((localsL (f.locals ++ gs.flatten) ++ x ++ [11]).length : Nat) : Int)
  simp only at this
  simp only [sizedL, List.length_append, localsL, rowL, List.length_cons, List.length_nil] at hu1 hu2 ⊢
  simp only [List.length_append] at hlo hsb
  omega
 ·have := z2 s3.b.length (by simp) (by simp) ws hw
  omega
theorem functionsP_size {st : Bool} : ∀ {hs fs : List F} {s s' : Rs}, functionsP st hs s = some (fs, s') → (∀ f ∈ hs, f.locals = []) → (∃ cs, codesF fs = some cs ∧ cs.flatten.length + 11 * s'.b.length ≤ 11 * s.b.length + 11 * manyL fs + 40 * fs.length) ∧ ∀ f ∈ fs, f.lists.length ≤ s.b.length ∧ (∀ ws ∈ f.lists, ws.length ≤ s.b.length) ∧ RgL f.lists
 | [], fs, s, s', h, _ => by
  cases h
  exact ⟨⟨[], rfl, by simp [manyL]⟩, by simp⟩
 | f :: hs, fs, s, s', h, hl => by
  have hl0 := functionsP_some h hl
  rw [functionsP] at h
  simp only [Option.bind_eq_some_iff, Option.map_eq_some_iff] at h
  obtain ⟨⟨f', s1⟩, h1, ⟨fs', s2⟩, h2, h3⟩ := h
  cases h3
  obtain ⟨⟨c, a1, a2⟩, a3, a4, a5⟩ := functionP_size h1 (hl f (by simp))
  obtain ⟨⟨cs, b1, b2⟩, b3⟩ := functionsP_size h2 fun g hg => hl g (by simp [hg])
  have := functionP_len h1
  have hm : manyL (f' :: fs') = f'.locals.length + manyL fs' := rfl
  simp only at *
  refine ⟨⟨c :: cs, by rw [codesF, a1]; simp only [Option.bind_some]; rw [b1]; rfl, ?_⟩, fun g hg => ?_⟩
  ·rw [List.flatten_cons, List.length_append, hm, List.length_cons]
   omega
  ·rcases List.mem_cons.1 hg with rfl | hg
   ·exact ⟨a3, a4, a5⟩
   ·obtain ⟨q1, q2, q3⟩ := b3 g hg
    exact ⟨by omega, fun ws hw => by have := q2 ws hw; omega, q3⟩
theorem codesF_noname : ∀ {fs fs' : List F}, fs'.map noname = fs.map noname → codesF fs' = codesF fs
 | [], [], _ => rfl
 | [], _ :: _, h => by simp at h
 | _ :: _, [], h => by simp at h
 | f :: fs, f' :: fs', h => by
  simp only [List.map_cons, List.cons.injEq] at h
  obtain ⟨h1, h2⟩ := h
  have e1 : f'.lists = f.lists := by have := congrArg F.lists h1; exact this
  have e2 : f'.locals = f.locals := by have := congrArg F.locals h1; exact this
  have e : codeF f' = codeF f := by unfold codeF; rw [e1, e2]
  rw [codesF, codesF, e, codesF_noname h2]
theorem namesP_size {st : Bool} : ∀ {fs fs' : List F} {s s' : Rs}, namesP st fs s = some (fs', s') → (∀ i, (namesF i fs').flatten.length + s'.b.length ≤ s.b.length + 20 * fs'.length) ∧ (∀ f ∈ fs', f.name.length ≤ s.b.length) ∧ fs'.length = fs.length
 | [], fs', s, s', h => by
  cases h
  exact ⟨fun i => by simp [namesF], by simp, rfl⟩
 | f :: fs, fs', s, s', h => by
  rw [namesP] at h
  simp only [Option.bind_eq_some_iff, Option.map_eq_some_iff] at h
  obtain ⟨⟨n1, s1⟩, h1, ⟨n2, s2⟩, h2, ⟨p, s3⟩, h3, ⟨fs2, s4⟩, h4, h5⟩ := h
  cases h5
  obtain ⟨a1, a2, a3⟩ := namesP_size h4
  have l1 := num_len h1
  have l2 := num_len h2
  have l3 := (takeP_some h3).1
  have l4 : s2.b.length = p.length + s3.b.length := by rw [l3]; simp
  simp only at *
  refine ⟨fun i => ?_, fun g hg => ?_, by simp [a3]⟩
  ·have u1 := uI_len i
   have u2 := sized_len p
   have := a1 (i + 1)
   simp only [namesF, List.flatten_cons, List.length_append, List.length_cons]
   omega
  ·rcases List.mem_cons.1 hg with rfl | hg
   ·simp only; omega
   ·have := a2 g hg; omega
theorem heads_size {st : Bool} : ∀ {n : Nat} {s s' : Rs} {l : List F}, repP (headP st) n s = some (l, s') → s'.b.length + l.length + (l.map fun f => f.params.length).sum ≤ s.b.length
 | 0, s, s', l, h => by cases h; simp
 | n + 1, s, s', l, h => by
  rw [repP] at h
  simp only [Option.bind_eq_some_iff, Option.map_eq_some_iff] at h
  obtain ⟨⟨t, s1⟩, h1, ⟨l', s2⟩, h2, h3⟩ := h
  cases h3
  have a := headP_len h1
  have b := heads_size h2
  simp only [List.length_cons, List.map_cons, List.sum_cons] at *
  omega
theorem skipP_len {n : Int} {s s' : Rs} (h : skipP n s = some s') : s'.b.length ≤ s.b.length := by
 unfold skipP at h
 rw [Option.map_eq_some_iff] at h
 obtain ⟨⟨p, s1⟩, h1, rfl⟩ := h
 exact take_len h1
theorem nums_len {st : Bool} : ∀ {n : Nat} {s s' : Rs} {l : List Int}, repP (numP st false) n s = some (l, s') → s'.b.length ≤ s.b.length
 | 0, _, _, _, h => by cases h; exact Nat.le_refl _
 | n + 1, s, s', l, h => by
  rw [repP] at h
  simp only [Option.bind_eq_some_iff, Option.map_eq_some_iff] at h
  obtain ⟨⟨t, s1⟩, h1, ⟨l', s2⟩, h2, h3⟩ := h
  cases h3
  exact Nat.le_trans (nums_len h2) (num_len h1)
def paramsL (l : List F) : Nat := (l.map fun f => f.params.length).sum
theorem paramsL_drop (l : List F) (n : Nat) : paramsL (l.drop n) ≤ paramsL l := by
 have : paramsL (l.take n) + paramsL (l.drop n) = paramsL l := by
  simp only [paramsL]
  rw [← List.sum_append, ← List.map_append, List.take_append_drop]
 omega
theorem paramsL_mem {l : List F} {f : F} (h : f ∈ l) : f.params.length ≤ paramsL l := by
 induction l with
 | nil => cases h
 | cons a l ih =>
  simp only [paramsL, List.map_cons, List.sum_cons] at *
  rcases List.mem_cons.1 h with rfl | h
  ·omega
  ·have := ih h; omega
theorem headsP_size {s s' : Rs} {l : List F} (h : headsP s = some (l, s')) : s'.b.length + l.length + paramsL l ≤ s.b.length := by
 unfold headsP at h
 simp only [Option.bind_eq_some_iff] at h
 obtain ⟨s1, h1, ⟨n, s2⟩, h2, ⟨hs, s3⟩, h3, h4⟩ := h
 split at h4
 ·cases h4
  have a := heads_size h3
  have b := paramsL_drop hs 3
  have c := num_len h2
  have d := sec_lenP h1
  have e : (hs.drop 3).length ≤ hs.length := by simp
  simp only [paramsL] at *
  omega
 ·cases h4
theorem frontP_size {s s' : Rs} {hs : List F} {mem mn : Int} (h : frontP s = some ((hs, mem, mn), s')) : s'.b.length + hs.length + paramsL hs ≤ s.b.length := by
 unfold frontP at h
 simp only [Option.bind_eq_some_iff, Option.map_eq_some_iff] at h
 obtain ⟨s1, h1, ⟨hs', s2⟩, h2, s3, h3, s4, h4, s5, h5, s6, h6, s7, h7, s8, h8, ⟨n9, s9⟩, h9, ⟨l10, s10⟩, h10, s11, h11, s12, h12, s13, h13, s14, h14, ⟨mem', s15⟩, h15, s16, h16, s17, h17, s18, h18, ⟨mn', s19⟩, h19, h20⟩ := h
 cases h20
 have a1 := skipP_len h1
 have a2 := headsP_size h2
 have a3 := sec_lenP h3
 have a4 := skipP_len h4
 have a5 := skipP_len h5
 have a6 := skipP_len h6
 have a7 := skipP_len h7
 have a8 := sec_lenP h8
 have a9 := num_len h9
 have a10 := nums_len h10
 have a11 := sec_lenP h11
 have a12 := skipP_len h12
 have a13 := sec_lenP h13
 have a14 := skipP_len h14
 have a15 := num_len h15
 have a16 := skipP_len h16
 have a17 := sec_lenP h17
 have a18 := skipP_len h18
 have a19 := num_len h19
 simp only at *
 omega
theorem heads_bytes : ∀ (fs : List F), ((fs.map fun f => headL f.params f.type).flatten).length ≤ 32 * fs.length + paramsL fs
 | [] => by simp
 | f :: fs => by
  have ih := heads_bytes fs
  have h1 := typesL_len f.params
  have h2 := resultsL_len f.type
  simp only [List.map_cons, List.flatten_cons, List.length_append, List.length_cons, paramsL, List.sum_cons, headL] at *
  omega
theorem nums_bytes : ∀ (fs : List F) (i : Int), (numsF i fs).flatten.length ≤ 10 * fs.length
 | [], _ => by simp [numsF]
 | f :: fs, i => by
  have := nums_bytes fs (i + 1)
  have := uI_len i
  simp only [numsF, List.flatten_cons, List.length_append, List.length_cons]
  omega
theorem paramsL_noname {fs fs' : List F} (h : fs'.map noname = fs.map noname) : paramsL fs' = paramsL fs := by
 have : ∀ l : List F, paramsL l = ((l.map noname).map fun f => f.params.length).sum := fun l => by simp only [paramsL, List.map_map]; rfl
 rw [this, this, h]
theorem paramsL_from : ∀ {st : Bool} {hs fs : List F} {s s' : Rs}, functionsP st hs s = some (fs, s') → paramsL fs = paramsL hs
 | st, [], fs, s, s', h => by cases h; rfl
 | st, f :: hs, fs, s, s', h => by
  rw [functionsP] at h
  simp only [Option.bind_eq_some_iff, Option.map_eq_some_iff] at h
  obtain ⟨⟨f', s1⟩, h1, ⟨fs', s2⟩, h2, h3⟩ := h
  cases h3
  have e : f'.params = f.params := by
   unfold functionP at h1
   simp only [Option.bind_eq_some_iff, Option.map_eq_some_iff] at h1
   obtain ⟨_, _, _, _, _, _, _, _, h5⟩ := h1
   cases h5
   rfl
  simp only [paramsL, List.map_cons, List.sum_cons, e]
  have := paramsL_from h2
  simp only [paramsL] at this
  omega
theorem module_size {b : List UInt8} {m : M} {s' : Rs} (h : moduleP ⟨b, [], 0⟩ = some (m, s')) (hb : b.length ≤ 2 ^ 29) : (∀ f ∈ m.funcs, SzB f) ∧ m.funcs.length ≤ 2 ^ 30 ∧ (-(2 ^ 63) ≤ m.memory ∧ m.memory < 2 ^ 63) ∧ ∃ y, encM m = some y ∧ y.length ≤ 2 ^ 36 := by
 unfold moduleP at h
 simp only [Option.bind_eq_some_iff, Option.map_eq_some_iff] at h
 obtain ⟨⟨⟨hs, mem, mn⟩, s1⟩, h3, ⟨fs, s2⟩, h4, h5⟩ := h
 simp only [Prod.mk.injEq] at h5
 obtain ⟨rfl, rfl⟩ := h5
 obtain ⟨a1, a2, a3, a4⟩ := frontP_some h3
 have a5 := frontP_size h3
 obtain ⟨b1, b2⟩ := backP_some h4 fun f hf => (a1 f hf).1
 have b2 := b2 a4
 unfold backP at h4
 simp only [Option.bind_eq_some_iff] at h4
 obtain ⟨s4, h6, ⟨c, s5⟩, h7, h8⟩ := h4
 split at h8
 ·simp only [Option.bind_eq_some_iff] at h8
  obtain ⟨⟨fs1, s6⟩, h9, s7, h10, s8, h11, ⟨xx, s9⟩, h12, ⟨y, s10⟩, h13, h14⟩ := h8
  split at h14
  ·obtain ⟨⟨cs, c1, c2⟩, c3⟩ := functionsP_size h9 fun f hf => (a1 f hf).1
   have cl := (functionsP_some h9 fun f hf => (a1 f hf).1).2.2.2
   obtain ⟨d1, d2, d3⟩ := namesP_size h14
   have hnn := namesP_some h14
   have l1 := sec_lenP h6
   have l2 := num_len h7
   have l3 := sec_lenP h10
   have l4 := skipP_len h11
   have l5 := num_len h12
   have l6 := num_len h13
   have hmn := noname_many hnn
   have hpn := paramsL_noname hnn
   have hpf := paramsL_from h9
   simp only at *
   have hs6 : s6.b.length ≤ s5.b.length := by
    have : ∀ {hs fs : List F} {s s' : Rs}, functionsP false hs s = some (fs, s') → s'.b.length ≤ s.b.length := by
     intro hs
     induction hs with
     | nil => intro fs s s' h; cases h; exact Nat.le_refl _
     | cons f hs ih =>
      intro fs s s' h
      rw [functionsP] at h
      simp only [Option.bind_eq_some_iff, Option.map_eq_some_iff] at h
      obtain ⟨⟨f', s1⟩, h1, ⟨fs', s2⟩, h2, h3⟩ := h
      cases h3
      exact Nat.le_trans (ih h2) (functionP_len h1)
    exact this h9
   refine ⟨fun f hf => ?_, by omega, a2, ?_⟩
   ·obtain ⟨g, hg, e⟩ := noname_mem hnn hf
    have e1 : g.params = f.params := by have := congrArg F.params e; exact this
    have e3 : g.lists = f.lists := by have := congrArg F.lists e; exact this
    obtain ⟨q1, q2, q3⟩ := c3 g hg
    rw [e3] at q1 q2 q3
    have hp := paramsL_mem hg
    rw [e1] at hp
    have hlo : f.locals.length ≤ manyL fs := by
     have : ∀ {l : List F}, f ∈ l → f.locals.length ≤ manyL l := by
      intro l h
      induction l with
      | nil => cases h
      | cons a l ih =>
       simp only [manyL, List.map_cons, List.sum_cons] at *
       rcases List.mem_cons.1 h with rfl | h
       ·omega
       ·have := ih h; omega
     exact this hf
    have hna := d2 f hf
    exact ⟨by omega, by omega, by omega, fun ws hw => by have := q2 ws hw; omega, by omega, q3⟩
   ·have hcc : codesF fs = some cs := by rw [codesF_noname hnn]; exact c1
    refine ⟨_, by unfold encM; simp only; rw [hcc]; rfl, ?_⟩
    have u1 := heads_bytes fs
    have u2 := nums_bytes fs 3
    have u3 := d1 3
    have u4 : (headsL fs).flatten.length ≤ 120 + (32 * fs.length + paramsL fs) := by
     have e1 : (headsL fs).flatten = headL [] 2 ++ (headL [2] 0 ++ (headL [1] 0 ++ (fs.map fun f => headL f.params f.type).flatten)) := by simp [headsL]
     have e2 : (headL [] 2).length ≤ 40 := by decide
     have e3 : (headL [2] 0).length ≤ 40 := by decide
     have e4 : (headL [1] 0).length ≤ 40 := by decide
     rw [e1]
     simp only [List.length_append]
     omega
    have u5 : (rowL importsL).length ≤ 40 := by decide
    have s1' := sec_len 1 (rowL (headsL fs))
    have s2' := sec_len 2 (rowL importsL)
    have s3' := sec_len 3 (rowL (numsF 3 fs))
    have s5' := sec_len 5 [1, 0, 1]
    have s6' := sec_len 6 ([1, 127, 0, 65] ++ sI mem ++ [11])
    have s7' := sec_len 7 ([1] ++ sizedL [109, 97, 105, 110] ++ [0] ++ uI (mainL { funcs := fs, memory := mem, main := IntKind.wrap .i64 (mn - 3) }))
    have s10' := sec_len 10 (rowL cs)
    have s0' := sec_len 0 (sizedL [110, 97, 109, 101] ++ [1] ++ sizedL (rowL (namesF 3 fs)))
    have v1 := sized_len (rowL (namesF 3 fs))
    have v2 := sI_len mem
    have v3 := uI_len (mainL { funcs := fs, memory := mem, main := IntKind.wrap .i64 (mn - 3) })
    have v4 : (sizedL [109, 97, 105, 110]).length = 5 := by decide
    have v5 : (sizedL [110, 97, 109, 101]).length = 5 := by decide
    have w1 : (rowL (headsL fs)).length ≤ 10 + (headsL fs).flatten.length := by have := uI_len (headsL fs).length; simp only [rowL, List.length_append]; omega
    have w3 : (rowL (numsF 3 fs)).length ≤ 10 + (numsF 3 fs).flatten.length := by have := uI_len (numsF 3 fs).length; simp only [rowL, List.length_append]; omega
    have w10 : (rowL cs).length ≤ 10 + cs.flatten.length := by have := uI_len cs.length; simp only [rowL, List.length_append]; omega
    have w0 : (rowL (namesF 3 fs)).length ≤ 10 + (namesF 3 fs).flatten.length := by have := uI_len (namesF 3 fs).length; simp only [rowL, List.length_append]; omega
    have hmg : magicL.length = 8 := rfl
    simp only [List.length_append, List.length_cons, List.length_nil] at *
    omega
  ·cases h14
 ·cases h8
end Go.Proofs.YthejpoplbllcbaaDoor
set_option linter.unusedSimpArgs false
set_option linter.unusedVariables false
namespace Go.Proofs.YthejpoplbllcbaaDoor
open Go Go.Abs
@[simp] theorem aeq_if20b (t : Nat) (v : AV) : aeq Tryd.prog 20 (.iface t v) .nilif = some false := by simp [aeq, aeq1, show Tryd.prog.underlying 20 = some (.interface #[]) from by kernel_rfl]
@[simp] theorem aeq_nil20b : aeq Tryd.prog 20 .nilif .nilif = some true := by simp [aeq, aeq1, show Tryd.prog.underlying 20 = some (.interface #[]) from by kernel_rfl]
@[simp] theorem abin_if20b (t : Nat) (v : AV) (K : AV → Prop) : abin Tryd.prog .neq 20 (.iface t v) .nilif K = K (.bool true) := by simp [abin]
@[simp] theorem abin_nil20b (K : AV → Prop) : abin Tryd.prog .neq 20 .nilif .nilif K = K (.bool false) := by simp [abin]
@[simp] theorem aq_normalb (H : Option AV → (Nat → AV) → AS → Prop) (a : Nat → AV) (σ : AS) : aq H .normal a σ = H none a σ := Eq.trans rfl rfl
@[simp] theorem aq_retb (H : Option AV → (Nat → AV) → AS → Prop) (a : Nat → AV) (σ : AS) : aq H .ret a σ = H none a σ := Eq.trans rfl rfl
@[simp] theorem aq_panicb (H : Option AV → (Nat → AV) → AS → Prop) (v : AV) (a : Nat → AV) (σ : AS) : aq H (.panic v) a σ = H (some v) a σ := Eq.trans rfl rfl
section
variable {G : Env} {σ : AS} {R : Out → AS → Prop}
theorem BytO.bv {σ v bs} (h : BytO σ v bs) : ∃ β, BV β v bs ∧ ∀ f, β = some f → f < σ.nf ∧ σ.F f = .alive := by
 rcases h with ⟨rfl, rfl⟩ | ⟨φ, rfl, r⟩
 ·exact ⟨none, .inl ⟨rfl, rfl⟩, by simp⟩
 ·refine ⟨famO φ, .inr ⟨φ, rfl, rfl⟩, fun f e => ?_⟩
  cases φ with
  | stat b => cases e
  | fam g b => cases e; exact ⟨r.1, r.2⟩
theorem outE_of {τ τ' : AS} {base v l} (h : Al.OutE τ base v l) (hn : τ.nf ≤ τ'.nf) (hF : ∀ f, f < τ.nf → τ'.F f = τ.F f) : Al.OutE τ' base v l := by
 rcases h with h | ⟨g, rows, ps, h1, h2, h3, h4, h5, h6, h7⟩
 ·exact .inl h
 ·exact .inr ⟨g, rows, ps, h1, h2, by omega, (hF g h3).trans h4, h5, h6, h7.nd, fun x hx => by
   obtain ⟨q1, q2, q3, q4⟩ := h7.each x hx
   exact ⟨q1, by omega, (hF x q2).trans q3, q4⟩⟩
theorem mE_of {τ τ' : AS} {base v m} (h : Al.ME τ base v m) (hn : τ.nf ≤ τ'.nf) (hF : ∀ f, f < τ.nf → τ'.F f = τ.F f) : Al.ME τ' base v m := by
 obtain ⟨fv, rfl, h⟩ := h
 exact ⟨fv, rfl, outE_of h hn hF⟩
def zeroMV : AV := .agg [.nilsl, .int .i64 0, .int .i64 0]
set_option maxRecDepth 20000 in
theorem decode_calls (V : VarsB G) (h00 : 0 < σ.nf ∧ σ.F 0 = .alive) {v : AV} {bs : List UInt8} (hv : BytO σ v bs) (hl : bs.length ≤ 2 ^ 29)
  (hn : decodeP bs = none → ∀ e σ', (e = 2 ∨ e = 3 ∨ e = 9) → Adds σ σ' → R (.ret (.tuple [zeroMV, .int .i64 e])) σ')
  (hs : ∀ m, decodeP bs = some m → ∀ mv σ', Al.ME σ' σ.nf mv m → Adds σ σ' → R (.ret (.tuple [mv, .int .i64 0])) σ') : ACalls Tryd.prog G 9 [v] σ R := by
 refine acalls_recover (px := pc9_x) (pz := pc9_z) (k := 19) (py := pc19_h) (n := 34) (nk := 9) (t := 5) (d0 := 3) (d1 := 2) (res := [.cell 2 30, .cell 3 32]) mixed Tryd.func9 rfl rfl rfl rfl (by kernel_rfl) (by kernel_rfl) (by simp) rfl rfl rfl rfl rfl rfl (by decide) Tryd.func19 rfl (by kernel_rfl) rfl rfl rfl rfl rfl rfl rfl rfl rfl (by kernel_rfl) (by decide) (by decide) (by decide) ?_
 have v1 := hv.one
 simp [pc9_x]
 have ecap : List.map (ev G (upd (upd (frame0 [v]) 2 (AV.ptr σ.no 0)) 3 (AV.ptr (σ.no + 1) 0))) #[Operand.tmp 2, Operand.tmp 3].toList = [.ptr σ.no 0, .ptr (σ.no + 1) 0] := rfl
 rw [ecap]
 generalize hfr : upd (upd (upd (frame0 [v]) 2 (AV.ptr σ.no 0)) 3 (AV.ptr (σ.no + 1) 0)) 5 (AV.fn (Fn.func 19) [] [AV.ptr σ.no 0, AV.ptr (σ.no + 1) 0]) = fr
 have fr0 : fr 0 = v := by rw [← hfr]; simp
 have fr2 : fr 2 = .ptr σ.no 0 := by rw [← hfr]; simp
 have fr3 : fr 3 = .ptr (σ.no + 1) 0 := by rw [← hfr]; simp
 have hno1 : ((σ.newO [AV.nilsl, AV.int IntKind.i64 0, AV.int IntKind.i64 0]).newO [AV.int IntKind.i64 0]).no = σ.no + 2 := by simp
 have hnf1 : ((σ.newO [AV.nilsl, AV.int IntKind.i64 0, AV.int IntKind.i64 0]).newO [AV.int IntKind.i64 0]).nf = σ.nf := by simp
 have A1 : Adds σ ((σ.newO [AV.nilsl, AV.int IntKind.i64 0, AV.int IntKind.i64 0]).newO [AV.int IntKind.i64 0]) := (Adds.refl σ).newO.newO
 have hm1 : ((σ.newO [AV.nilsl, AV.int IntKind.i64 0, AV.int IntKind.i64 0]).newO [AV.int IntKind.i64 0]).objs σ.no = some [.nilsl, .int .i64 0, .int .i64 0] := by simp
 have he1 : ((σ.newO [AV.nilsl, AV.int IntKind.i64 0, AV.int IntKind.i64 0]).newO [AV.int IntKind.i64 0]).objs (σ.no + 1) = some [.int .i64 0] := by simp
 generalize (σ.newO [AV.nilsl, AV.int IntKind.i64 0, AV.int IntKind.i64 0]).newO [AV.int IntKind.i64 0] = σ1 at *
 -- what is recovered
 have hand : ∀ (ev : AV) (a : Nat → AV) (τ : AS) (mc : List AV), ErrV ev → a 2 = .ptr σ.no 0 → a 3 = .ptr (σ.no + 1) 0 → Adds σ τ → τ.objs σ.no = some mc → mc.length = 3 → τ.objs (σ.no + 1) = some [.int .i64 0] → σ.no + 1 < τ.no → (∀ e σ', (e = 2 ∨ e = 3 ∨ e = 9) → Adds σ σ' → R (.ret (.tuple [zeroMV, .int .i64 e])) σ') →
   AHandle Tryd.prog G 9 pc19_h 3 2 [.ptr σ.no 0, .ptr (σ.no + 1) 0] [.cell 2 30, .cell 3 32] R (some ev) a τ := by
  intro ev a τ mc hev a2 a3 A hmc hml he hlt hh
  have hz : ∃ e, ev = .iface 32 (.int .i64 e) ∧ (e = 2 ∨ e = 3 ∨ e = 9) := by
   rcases hev with rfl | rfl | rfl
   ·exact ⟨2, rfl, by simp⟩
   ·exact ⟨3, rfl, by simp⟩
   ·exact ⟨9, rfl, by simp⟩
  obtain ⟨e, rfl, hz⟩ := hz
  obtain ⟨x1, x2, x3, rfl⟩ : ∃ x y z, mc = [x, y, z] := by
   match mc, hml with
   | [x, y, z], _ => exact ⟨x, y, z, rfl⟩
  simp [AHandle, pc19_h, he, hmc, splice, a2, a3]
  exact hh e _ hz ((A.setO (Nat.le_refl _)).setO (by omega))
 have nope : decodeP bs = none → ∀ e σ', (e = 2 ∨ e = 3 ∨ e = 9) → Adds σ σ' → R (.ret (.tuple [zeroMV, .int .i64 e])) σ' := hn
 simp [pc9_z, fr0, fr2, fr3, splice, v1]
 refine clone_calls (hv.keep A1) (by omega) fun v' σ2 hv2 A2 => ?_
 obtain ⟨β, hbv, hβ⟩ := hv2.bv
 have w1 := hv2.one
 have n2 := A2.no
 have f2 := A2.nf
 simp [w1, splice, fr2, fr3]
 have hR : Rdr σ2.nf β σ2.no ⟨bs, [], 0⟩ (σ2.newO [v', .nilsl, .int .i64 0]) := ⟨by simp, ⟨by omega, by simp⟩, by simpa using ((A1.trans A2).fam 0 h00.1).trans h00.2, hβ, v', .nilsl, by simp, hbv, .inl ⟨rfl, rfl⟩⟩
 refine module_calls V hR ((A2).newO) (by omega) (by omega) (by simp; omega) (by simp) (fun hq ev σ3 hev A3 => ?_) fun m s' hq σ3 mv hm A3 hR3 => ?_
 ·simp
  refine hand ev _ σ3 _ hev (by simp [hide, fr2]) (by simp [hide, fr3]) (A1.trans A3) ((A3.obj _ (by omega)).trans hm1) rfl ((A3.obj _ (by omega)).trans he1) (by have := A3.no; omega) (nope (by simp [decodeP, hq]))
 obtain ⟨z1, z2, z3, y, hy, hyl⟩ := module_size hq hl
 have hdec : decodeP bs = if s'.b = [] ∧ m.funcs.all typedF = true ∧ rangedM m = true ∧ encM m = some bs then some m else none := by simp [decodeP, hq]
 have n3 := A3.no
 have f3 := A3.nf
 have hm' := hm
 obtain ⟨fv, rfl, hof⟩ := hm'
 have fv1 : fv.known = true ∧ fv.one = true ∧ fv.cells = [fv] := by
  rcases hof with ⟨_, rfl⟩ | ⟨_, _, _, rfl, _⟩ <;> simp
 have hm3 := (A3.obj σ.no (by omega)).trans hm1
 have he3 := (A3.obj (σ.no + 1) (by omega)).trans he1
 obtain ⟨bv, lv, ho3, hbv3, hlv3⟩ := hR3.cells
 have b31 := hbv3.one
 have bl3 := (BV.byt hR3 hbv3).len
 have hx3 := hR3.hx
 have hne : ¬ σ2.no = σ.no := by omega
 simp [fr2, fr3, hm3, splice, hne, ho3, b31, bl3, fv1]
 have hmT : Al.ME (σ3.setO σ.no [fv, .int .i64 m.memory, .int .i64 m.main]) σ.nf (.agg [fv, .int .i64 m.memory, .int .i64 m.main]) m := mE_of (τ := σ3) (by rw [hnf1] at hm; exact hm) (Nat.le_refl _) fun _ _ => rfl
 have AT : Adds σ (σ3.setO σ.no [fv, .int .i64 m.memory, .int .i64 m.main]) := (A1.trans A3).setO (Nat.le_refl _)
 have hmo : (σ3.setO σ.no [fv, .int .i64 m.memory, .int .i64 m.main]).objs σ.no = some [fv, .int .i64 m.memory, .int .i64 m.main] := by simp
 have heo : (σ3.setO σ.no [fv, .int .i64 m.memory, .int .i64 m.main]).objs (σ.no + 1) = some [.int .i64 0] := by simp [he3]
 have hnoT : σ.no + 2 ≤ (σ3.setO σ.no [fv, .int .i64 m.memory, .int .i64 m.main]).no := by simp; omega
 generalize σ3.setO σ.no [fv, .int .i64 m.memory, .int .i64 m.main] = τ at *
 have hfn := AT.nf
 have hMO := Al.m_e (σ := τ) ⟨by omega, (AT.fam 0 h00.1).trans h00.2⟩ hmT
 have bad : ∀ (a : Nat → AV) (τ' : AS), decodeP bs = none → a 2 = .ptr σ.no 0 → a 3 = .ptr (σ.no + 1) 0 → Adds τ τ' → AHandle Tryd.prog G 9 pc19_h 3 2 [.ptr σ.no 0, .ptr (σ.no + 1) 0] [.cell 2 30, .cell 3 32] R (some (errV 2)) a τ' := fun a τ' hq2 a2 a3 A => hand _ a τ' _ (.inl rfl) a2 a3 (AT.trans A) ((A.obj _ (by omega)).trans hmo) rfl ((A.obj _ (by omega)).trans heo) (by have := A.no; omega) (nope hq2)
 by_cases c1 : s'.b = []
 ·simp [c1, fr2, fr3, hmo]
  refine typed_calls hMO (by omega) z1 fun τ4 A4 => ?_
  have hm4 := (A4.obj σ.no (by omega)).trans hmo
  cases c2 : m.funcs.all typedF with
  | false =>
   simp [c2]
   refine must_calls (fun q => by simp at q) (fun _ => ?_)
   simp
   exact bad _ _ (by rw [hdec, if_neg (by simp [c2])]) (by simp [hide, fr2]) (by simp [hide, fr3]) A4
  | true =>
   simp [c2, fr2, fr3, hm4]
   refine ranged_calls (Al.MO.keep hMO A4) (by omega) z1 fun τ5 A5 => ?_
   have A45 := A4.trans A5
   have hm5 := (A45.obj σ.no (by omega)).trans hmo
   cases c3 : rangedM m with
   | false =>
    simp [c3]
    refine must_calls (fun q => by simp at q) (fun _ => ?_)
    simp
    exact bad _ _ (by rw [hdec, if_neg (by simp [c3])]) (by simp [hide, fr2]) (by simp [hide, fr3]) A45
   | true =>
    simp [c3, fr2, fr3, hm5]
    refine encode_calls V (Al.MO.keep hMO A45) hy hyl z2 z1 z3 fun v6 τ6 h6 => ?_
    have A6 := A45.trans h6.2
    have hm6 := (A6.obj σ.no (by omega)).trans hmo
    have he6 := (A6.obj (σ.no + 1) (by omega)).trans heo
    simp [fr2, fr3, fr0]
    refine equal_calls h6.byt (hv.keep (AT.trans A6)) ?_
    by_cases c4 : y = bs
    ·simp [c4]
     refine must_calls (fun _ => ?_) (fun q => by simp at q)
     simp [fr2, fr3, hm6, he6, AHandle, pc19_h, splice, fv1]
     have AA : Adds σ ((τ6.setO σ.no [fv, AV.int IntKind.i64 m.memory, AV.int IntKind.i64 m.main]).setO (σ.no + 1) [AV.int IntKind.i64 0]) := ((AT.trans A6).setO (Nat.le_refl _)).setO (by omega)
     refine hs m (by rw [hdec, if_pos ⟨c1, c2, c3, by rw [hy, c4]⟩]) _ _ (mE_of (τ := τ) hmT A6.nf fun f hf => A6.fam f hf) AA
    ·simp [c4]
     refine must_calls (fun q => by simp at q) (fun _ => ?_)
     simp
     exact bad _ _ (by rw [hdec, if_neg (by rw [hy]; simp [c4])]) (by simp [hide, fr2]) (by simp [hide, fr3]) A6
 ·simp [c1]
  refine must_calls (fun q => by simp at q) (fun _ => ?_)
  simp
  exact bad _ _ (by rw [hdec, if_neg (by simp [c1])]) (by simp [hide, fr2]) (by simp [hide, fr3]) (.refl _)
end
end Go.Proofs.YthejpoplbllcbaaDoor
set_option linter.unusedSimpArgs false
set_option linter.unusedVariables false
namespace Go.Proofs.YthejpoplbllcbaaDoor
open Go Go.Abs
def sevenF : F := { name := [102], params := [], locals := [], type := 1, lists := [[{ op := 1, ty := 1, n := 7, body := 0, other := 0, name := [] }]] }
def sevenM : M := { funcs := [sevenF], memory := 16, main := 0 }
def sevenB : List UInt8 := [0, 97, 115, 109, 1, 0, 0, 0, 1, 17, 4, 0x60, 0, 1, 0x7E, 0x60, 1, 0x7E, 0, 0x60, 1, 0x7F, 0, 0x60, 0, 1, 0x7F, 2, 31, 3, 3, 101, 110, 118, 2, 105, 110, 0, 0, 3, 101, 110, 118, 3, 111, 117, 116, 0, 1, 3, 101, 110, 118, 4, 116, 114, 97, 112, 0, 2, 3, 2, 1, 3, 5, 3, 1, 0, 1, 6, 6, 1, 0x7F, 0, 0x41, 16, 0x0B, 7, 8, 1, 4, 109, 97, 105, 110, 0, 3, 10, 6, 1, 4, 0, 0x41, 7, 0x0B, 0, 11, 4, 110, 97, 109, 101, 1, 4, 1, 3, 1, 102]
theorem seven_enc : encM sevenM = some sevenB := by decide
set_option maxRecDepth 100000 in
theorem seven_dec : decodeP sevenB = some sevenM := by rfl
@[simp] theorem blitK1 : blitSl 22 [(0, Operand.const (.int .u8 229)), (1, Operand.const (.int .u8 142)), (2, Operand.const (.int .u8 38))] = false := by decide
@[simp] theorem blitK2 : blitSl 22 [(0, Operand.const (.int .u8 192)), (1, Operand.const (.int .u8 187)), (2, Operand.const (.int .u8 120))] = false := by decide
theorem uK : uI 624485 = [229, 142, 38] := by decide
theorem sK : sI (-123456) = [192, 187, 120] := by decide
section
variable {G : Env} {σ : AS} {R : Out → AS → Prop}
theorem seven_calls (h : ∀ v σ', Al.MO σ' v sevenM → Adds σ σ' → R (.ret v) σ') : ACalls Tryd.prog G 8 [] σ R := by
 refine calls8 rfl ?_
 simp [pc8, splice]
 refine h _ _ ⟨_, rfl, .inr ⟨_, _, rfl, trivial, .cons ⟨_, _, _, rfl, .inl ⟨rfl, rfl⟩, .inl ⟨rfl, rfl⟩, .inr ⟨_, _, rfl, trivial, .cons (.inr ⟨_, rfl, trivial⟩) .nil⟩⟩ .nil⟩⟩ ((Adds.refl σ).newO.setO (Nat.le_refl _))
theorem known_calls (V : VarsB G) (h00 : 0 < σ.nf ∧ σ.F 0 = .alive) (h : ∀ σ', Adds σ σ' → R (.ret (.bool true)) σ') : ACalls Tryd.prog G 5 [] σ R := by
 refine calls5 rfl ?_
 simp [pc5]
 refine seven_calls fun v σ1 hv A1 => ?_
 simp
 refine encode_calls V hv seven_enc (by decide) (by decide) (fun f hf => ?_) (by decide) fun b σ2 hb => ?_
 ·simp only [sevenM, List.mem_singleton] at hf
  subst hf
  exact ⟨by decide, by decide, by decide, by decide, by decide, fun ws hw w hx => by simp [sevenF] at hw; subst hw; simp at hx; subst hx; exact ⟨by decide, by decide⟩⟩
 have b1 := hb.byt.one
 have A2 := A1.trans hb.2
 simp [b1]
 refine decode_calls V ⟨by have := A2.nf; omega, (A2.fam 0 h00.1).trans h00.2⟩ hb.byt (by decide) (fun q => by rw [seven_dec] at q; cases q) fun m hm mv σ3 hv3 A3 => ?_
 rw [seven_dec] at hm
 cases hm
 have hv3' := hv3
 obtain ⟨fv, rfl, hof⟩ := hv3'
 have fv1 : fv.known = true ∧ fv.one = true ∧ fv.cells = [fv] := by
  rcases hof with ⟨_, rfl⟩ | ⟨_, _, _, rfl, _⟩ <;> simp
 simp [fv1, splice]
 have A4 : Adds σ3 ((σ3.newO [AV.nilsl, .int .i64 0, .int .i64 0]).setO σ3.no [fv, .int .i64 sevenM.memory, .int .i64 sevenM.main]) := (Adds.refl σ3).newO.setO (Nat.le_refl _)
 have ho4 : ((σ3.newO [AV.nilsl, .int .i64 0, .int .i64 0]).setO σ3.no [fv, .int .i64 sevenM.memory, .int .i64 sevenM.main]).objs σ3.no = some [fv, .int .i64 sevenM.memory, .int .i64 sevenM.main] := by simp
 have hl4 : σ3.no < ((σ3.newO [AV.nilsl, .int .i64 0, .int .i64 0]).setO σ3.no [fv, .int .i64 sevenM.memory, .int .i64 sevenM.main]).no := by simp
 generalize (σ3.newO [AV.nilsl, .int .i64 0, .int .i64 0]).setO σ3.no [fv, .int .i64 sevenM.memory, .int .i64 sevenM.main] = τ at *
 have A5 := A2.trans (A3.trans A4)
 refine u_calls (by decide) fun v6 σ6 h6 => ?_
 have B5 := A5.trans h6.2
 simp
 refine sameBytes_calls h6.byt (BytO.lit σ6 [229, 142, 38] rfl) (by rw [uK]; decide) ?_
 rw [uK]
 simp
 refine s_calls (by decide) fun v7 σ7 h7 => ?_
 have B6 := B5.trans h7.2
 have C6 : Adds τ σ7 := h6.2.trans h7.2
 have ho7 := (C6.obj σ3.no hl4).trans ho4
 simp
 refine sameBytes_calls h7.byt (BytO.lit σ7 [192, 187, 120] rfl) (by rw [sK]; decide) ?_
 rw [sK]
 simp [ho7, fv1]
 refine seven_calls fun v8 σ8 hv8 A8 => ?_
 have C8 := C6.trans A8
 have ho8 := (C8.obj σ3.no hl4).trans ho4
 have B8 := B6.trans A8
 have hme := mE_of hv3 (A4.trans C8).nf fun f hf => (A4.trans C8).fam f hf
 have hM := Al.m_e (σ := σ8) ⟨by have := B8.nf; omega, (B8.fam 0 h00.1).trans h00.2⟩ hme
 simp [ho8, fv1]
 refine Al.eqM_calls hM hv8 (by decide) (fun f hf => ?_) fun σ9 A9 => ?_
 ·simp only [sevenM, List.mem_singleton] at hf
  subst hf
  exact ⟨by decide, by decide, by decide, by decide⟩
 have hb9 := (hb.byt.keep (A3.trans (A4.trans (C8.trans A9))))
 have bl := hb9.len
 obtain ⟨φ, hφ, hi⟩ := hb9.at (i := 1) (by decide)
 have hr := hφ.read
 simp at hi
 simp [bl, hi, hr, sevenB]
 exact h _ (B8.trans A9)
end
end Go.Proofs.YthejpoplbllcbaaDoor
set_option linter.unusedSimpArgs false
set_option linter.unusedVariables false
namespace Go.Proofs.YthejpoplbllcbaaDoor
open Go Go.Abs
theorem ediv_pow (n : Int) (i : Nat) : n / 128 / 128 ^ i = n / 128 ^ (i + 1) := by
 rw [Int.ediv_ediv_of_nonneg (by decide), Int.pow_succ, Int.mul_comm]
theorem sF_at : ∀ (k : Nat) (n : Int), -(64 * 128 ^ k) ≤ n → n < 64 * 128 ^ k → 0 < (sF (k + 1) n).length ∧ ∀ i, i < (sF (k + 1) n).length →
  (i + 1 < (sF (k + 1) n).length → (sF (k + 1) n)[i]? = some (byteI (n / 128 ^ i) ||| 128) ∧ ¬ (-64 ≤ n / 128 ^ i ∧ n / 128 ^ i ≤ 63)) ∧
  (i + 1 = (sF (k + 1) n).length → (sF (k + 1) n)[i]? = some (byteI (n / 128 ^ i) &&& 127) ∧ -64 ≤ n / 128 ^ i ∧ n / 128 ^ i ≤ 63)
 | k, n, h1, h2 => by
  rw [sF]
  by_cases hs : -64 ≤ n ∧ n ≤ 63
  ·rw [if_pos hs]
   refine ⟨by simp, fun i hi => ?_⟩
   simp at hi
   subst hi
   simp
   exact hs
  ·rw [if_neg hs]
   have hk : 1 ≤ k := by
    rcases Nat.eq_zero_or_pos k with rfl | h
    ·simp at h1 h2; omega
    ·exact h
   obtain ⟨k, rfl⟩ : ∃ j, k = j + 1 := ⟨k - 1, by omega⟩
   have hlt : n / 128 < 64 * 128 ^ k := by
    rw [Int.pow_succ] at h2
    omega
   have hle : -(64 * 128 ^ k) ≤ n / 128 := by
    rw [Int.pow_succ] at h1
    omega
   obtain ⟨p, ih⟩ := sF_at k (n / 128) hle hlt
   refine ⟨by simp, fun i hi => ?_⟩
   cases i with
   | zero =>
    simp
    exact ⟨fun _ q => by omega, fun q => by simp [q] at p⟩
   | succ i =>
    have := ih i (by simpa using hi)
    rw [ediv_pow] at this
    simpa using this
theorem uF_at : ∀ (k : Nat) (n : Int), 0 ≤ n → n < 128 ^ (k + 1) → 0 < (uF (k + 1) n).length ∧ ∀ i, i < (uF (k + 1) n).length →
  (i + 1 < (uF (k + 1) n).length → (uF (k + 1) n)[i]? = some (byteI (n / 128 ^ i) ||| 128) ∧ 128 ≤ n / 128 ^ i) ∧
  (i + 1 = (uF (k + 1) n).length → (uF (k + 1) n)[i]? = some (byteI (n / 128 ^ i)) ∧ 0 ≤ n / 128 ^ i ∧ n / 128 ^ i ≤ 127)
 | k, n, h1, h2 => by
  rw [uF]
  by_cases hs : n ≤ 127
  ·rw [if_pos hs]
   refine ⟨by simp, fun i hi => ?_⟩
   simp at hi
   subst hi
   simp
   exact ⟨h1, hs⟩
  ·rw [if_neg hs]
   have hk : 1 ≤ k := by
    rcases Nat.eq_zero_or_pos k with rfl | h
    ·simp at h2; omega
    ·exact h
   obtain ⟨k, rfl⟩ : ∃ j, k = j + 1 := ⟨k - 1, by omega⟩
   have hlt : n / 128 < 128 ^ (k + 1) := by
    rw [Int.pow_succ] at h2
    omega
   obtain ⟨p, ih⟩ := uF_at k (n / 128) (by omega) hlt
   refine ⟨by simp, fun i hi => ?_⟩
   cases i with
   | zero =>
    simp
    exact ⟨fun _ => by omega, fun q => by simp [q] at p⟩
   | succ i =>
    have := ih i (by simpa using hi)
    rw [ediv_pow] at this
    simpa using this
theorem low_128 (n : Int) : ((byteI n ||| 128).toNat : Int) = 128 + n % 128 := by
 have h1 := or128 (byteI n)
 have h2 := byteI_nat n
 omega
theorem low_127 (n : Int) : ((byteI n &&& 127).toNat : Int) = n % 128 := by
 have h1 := and127 (byteI n)
 have h2 := byteI_nat n
 omega
theorem or_i64 {v : Int} {c : Nat} (hc : c < 128) (hv : -(2 ^ 63) ≤ v * 128 ∧ v * 128 < 2 ^ 63) : bits2 .i64 (fun x y => x ||| y) (v * 128) (c : Int) = v * 128 + c := by
 show IntKind.wrap .i64 (((BitVec.ofInt 64 (v * 128) ||| BitVec.ofInt 64 (c : Int)).toNat : Nat) : Int) = _
 have e0 : BitVec.ofInt 64 (v * 128) = BitVec.ofInt 64 v <<< 7 := by
  rw [BitVec.ofInt_mul, BitVec.shiftLeft_eq_mul_twoPow]
  rfl
 have ea : BitVec.ofInt 64 (v * 128) &&& BitVec.ofInt 64 (c : Int) = 0#64 := by
  rw [e0]
  apply BitVec.eq_of_getLsbD_eq
  intro i hi
  rw [BitVec.getLsbD_and, BitVec.getLsbD_shiftLeft]
  by_cases h7 : i < 7
  ·simp [h7]
  ·have : (BitVec.ofInt 64 (c : Int)).getLsbD i = false := by
    rw [BitVec.ofInt_natCast, BitVec.getLsbD_ofNat]
    have : c.testBit i = false := Nat.testBit_lt_two_pow (Nat.lt_of_lt_of_le hc (by
     have : 2 ^ 7 ≤ 2 ^ i := Nat.pow_le_pow_right (by decide) (by omega)
     omega))
    simp [this]
   rw [this]
   simp only [Bool.and_false, BitVec.getLsbD_zero]
 rw [← BitVec.add_eq_or_of_and_eq_zero _ _ ea, ← BitVec.ofInt_add, BitVec.toNat_ofInt]
 simp [IntKind.wrap, IntKind.signed, IntKind.bits]
 omega
end Go.Proofs.YthejpoplbllcbaaDoor
set_option linter.unusedSimpArgs false
set_option linter.unusedVariables false
namespace Go.Proofs.YthejpoplbllcbaaDoor
open Go Go.Abs
theorem ediv_pow' (n : Int) (i : Nat) : n / 128 ^ i / 128 = n / 128 ^ (i + 1) := by
 rw [Int.ediv_ediv_of_nonneg (Int.pow_nonneg (by decide)), Int.pow_succ]
theorem edivp_rg {n : Int} (hn : -(2 ^ 63) ≤ n ∧ n < 2 ^ 63) : ∀ i : Nat, -(2 ^ 63) ≤ n / 128 ^ i ∧ n / 128 ^ i < 2 ^ 63
 | 0 => by simpa using hn
 | i + 1 => by
  rw [← ediv_pow']
  have := edivp_rg hn i
  omega
set_option maxRecDepth 100000 in
theorem and64 (b : UInt8) : bits2 .u8 (· &&& ·) (b.toNat : Int) 64 = ((b.toNat / 64 % 2 * 64 : Nat) : Int) := by
 have e : bits2 .u8 (· &&& ·) (b.toNat : Int) 64 = ((b &&& 64).toNat : Int) := bits2_u8 (· &&& ·) b 64
 have : ∀ k : Fin 256, (UInt8.ofNat k.1 &&& 64).toNat = k.1 / 64 % 2 * 64 := by decide
 rw [e]
 have := this ⟨b.toNat, b.toNat_lt⟩
 simp only [UInt8.ofNat_toNat] at this
 rw [this]
@[simp] theorem abin_neq_bool4 (x y : Bool) (K : AV → Prop) : abin Tryd.prog .neq 4 (.bool x) (.bool y) K = K (.bool (x != y)) := by
 have u4 : Tryd.prog.underlying 4 = some .bool := by kernel_rfl
 simp [abin, aeq, aeq1, u4]
 exact Iff.rfl
theorem or_val {m : Int} {c : UInt8} (hm : -(2 ^ 63) ≤ m ∧ m < 2 ^ 63) (hc : (c.toNat : Int) % 128 = m % 128) : bits2 IntKind.i64 (fun x1 x2 => x1 ||| x2) (IntKind.i64.wrap (m / 128 * 2 ^ min 7 IntKind.i64.bits)) (IntKind.i64.wrap (bits2 IntKind.u8 (fun x1 x2 => x1 &&& x2) (c.toNat : Int) 127)) = m := by
 have e1 : bits2 .u8 (fun x1 x2 => x1 &&& x2) (c.toNat : Int) 127 = ((c.toNat % 128 : Nat) : Int) := by
  have := and_u8 c
  rw [and127] at this
  exact this
 have e2 : m / 128 * 2 ^ min 7 IntKind.i64.bits = m / 128 * 128 := rfl
 have e3 : IntKind.i64.wrap (m / 128 * 128) = m / 128 * 128 := by rw [wrap_i64] <;> omega
 have e4 : IntKind.i64.wrap ((c.toNat % 128 : Nat) : Int) = ((c.toNat % 128 : Nat) : Int) := by rw [wrap_i64] <;> omega
 rw [e1, e2, e3, e4, or_i64 (by omega) (by omega)]
 omega
theorem or_val0 {c : UInt8} : bits2 IntKind.i64 (fun x1 x2 => x1 ||| x2) (IntKind.i64.wrap (0 * 2 ^ min 7 IntKind.i64.bits)) (IntKind.i64.wrap (bits2 IntKind.u8 (fun x1 x2 => x1 &&& x2) (c.toNat : Int) 127)) = ((c.toNat % 128 : Nat) : Int) := by
 have := or_val (m := ((c.toNat % 128 : Nat) : Int)) (c := c) (by omega) (by omega)
 rwa [show ((c.toNat % 128 : Nat) : Int) / 128 = 0 from by omega] at this
section
variable {G : Env} {σ : AS} {R : Out → AS → Prop}
def LF1 (n : Int) (v : AV) (s : List UInt8) (τ0 : AS) (a : Nat → AV) (τ : AS) : Prop := ∃ j : Nat, j ≤ s.length ∧ τ = τ0 ∧ a 0 = .int .i64 n ∧ a 3 = v ∧ a 4 = .int .i64 (s.length : Int) ∧ a 5 = .int .i64 (if j = s.length then 0 else n / 128 ^ j) ∧ a 6 = .int .i64 ((j : Int) - 1)
def LF2 (n : Int) (v : AV) (s : List UInt8) (τ0 : AS) (a : Nat → AV) (τ : AS) : Prop := ∃ j : Nat, j ≤ s.length ∧ τ = τ0 ∧ a 0 = .int .i64 n ∧ a 7 = v ∧ a 8 = .int .i64 (if j = s.length then 0 else n / 128 ^ j) ∧ a 9 = .int .i64 ((j : Int) - 1)
def MF (k : Nat) (a : Nat → AV) (_ : AS) : Nat := match a k with | .int _ i => (i + 1).toNat | _ => 0
def pc3_rA : PC := match pc3_r2 with | .seq a _ => a | p => p
def pc3_rB : PC := match pc3_r2 with | .seq _ b => b | p => p
theorem forms_check {n : Int} (hn : -(2 ^ 63) ≤ n ∧ n < 2 ^ 63) {v : AV} {s : List UInt8} (hs : sI n = s) {a : Nat → AV} {τ : AS} (hvb : BytO τ v s) (a0 : a 0 = .int .i64 n) (a3 : a 3 = v) (a4 : a 4 = .int .i64 (s.length : Int)) (a5 : a 5 = .int .i64 n)
  (h : ∀ a' : Nat → AV, a' 0 = .int .i64 n → avc Tryd.prog G 154 pc3_rB (afin Tryd.prog [.tmp 2] R) a' τ) : avc Tryd.prog G 154 pc3_r2 (afin Tryd.prog [.tmp 2] R) a τ := by
 have e : pc3_r2 = .seq pc3_rA pc3_rB := rfl
 obtain ⟨p0, p1⟩ := sF_at 9 n (by omega) (by omega)
 have hL : (sI n).length ≤ 10 := sI_len n
 change 0 < (sI n).length at p0
 change ∀ i, i < (sI n).length → (i + 1 < (sI n).length → (sI n)[i]? = _ ∧ _) ∧ (i + 1 = (sI n).length → (sI n)[i]? = _ ∧ _) at p1
 rw [hs] at p0 p1 hL
 have c0 : ¬ (10 : Int) < (s.length : Int) := by omega
 rw [e, avc_seq]
 by_cases hl : s.length = 1
 ·have c1 : ¬ (1 : Int) < (s.length : Int) := by omega
  simp [pc3_rA, pc3_r2, a0, a4, a5, c0, c1]
  refine h _ ?_
  simp [a0, hide]
 ·have c1 : (1 : Int) < (s.length : Int) := by omega
  obtain ⟨k, hk⟩ : ∃ k, s.length = k + 2 := ⟨s.length - 2, by omega⟩
  have w1 : IntKind.wrap .i64 ((s.length : Int) - 1) = ((k + 1 : Nat) : Int) := by rw [wrap_i64] <;> omega
  have w2 : IntKind.wrap .i64 ((s.length : Int) - 2) = ((k : Nat) : Int) := by rw [wrap_i64] <;> omega
  obtain ⟨φ, hr, hi⟩ := hvb.at (i := k + 1) (by omega)
  obtain ⟨ψ, hr2, hi2⟩ := hvb.at (i := k) (by omega)
  have hr' := hr.read
  have hr2' := hr2.read
  obtain ⟨_, q1⟩ := p1 (k + 1) (by omega)
  obtain ⟨q2, _⟩ := p1 k (by omega)
  obtain ⟨q1, q3, q4⟩ := q1 (by omega)
  obtain ⟨q2, q5⟩ := q2 (by omega)
  have hm := ediv_pow' n k
  rw [List.getElem?_eq_getElem (by omega)] at q1 q2
  simp only [Option.some.injEq] at q1 q2
  have d1 := low_127 (n / 128 ^ (k + 1))
  have d2 := low_128 (n / 128 ^ k)
  rw [← q1] at d1
  rw [← q2] at d2
  have x2 := and64 s[k]
  generalize n / 128 ^ (k + 1) = m at *
  generalize n / 128 ^ k = m' at *
  simp only [Int.natCast_add, Int.natCast_one] at w1 hi
  by_cases k0 : s[k + 1].toNat = 0
  ·have y1 : ¬ ((s[k].toNat / 64 % 2 * 64 : Nat) : Int) = 0 := by omega
   rw [← x2] at y1
   have y2 : ¬ (s[k + 1].toNat : Int) = 127 := by omega
   simp [pc3_rA, pc3_r2, a0, a3, a4, a5, c0, c1, w1, w2, hi, hi2, hr', hr2', k0, y1, y2]
   refine h _ ?_
   simp [a0, hide]
  ·have k0' : ¬ (s[k + 1].toNat : Int) = 0 := by omega
   by_cases k1 : (s[k + 1].toNat : Int) = 127
   ·have y1 : ((s[k].toNat / 64 % 2 * 64 : Nat) : Int) = 0 := by omega
    rw [← x2] at y1
    simp [pc3_rA, pc3_r2, a0, a3, a4, a5, c0, c1, w1, w2, hi, hi2, hr', hr2', k0, k1, y1]
    refine h _ ?_
    simp [a0, hide]
   ·simp [pc3_rA, pc3_r2, a0, a3, a4, a5, c0, c1, w1, w2, hi, hi2, hr', hr2', k0, k1]
    refine h _ ?_
    simp [a0, hide]
end
end Go.Proofs.YthejpoplbllcbaaDoor
set_option linter.unusedSimpArgs false
set_option linter.unusedVariables false
namespace Go.Proofs.YthejpoplbllcbaaDoor
open Go Go.Abs
section
variable {G : Env} {σ : AS} {R : Out → AS → Prop}
theorem forms_tail (V : VarsB G) {τ0 τ : AS} (A : Adds τ0 τ) (h00 : 0 < τ.nf ∧ τ.F 0 = .alive) {n : Int} (hn : -(2 ^ 63) ≤ n ∧ n < 2 ^ 63) {a : Nat → AV} (a0 : a 0 = .int .i64 n) (h : ∀ σ', Adds τ0 σ' → R (.ret (.bool true)) σ') : avc Tryd.prog G 154 pc3_rB (afin Tryd.prog [.tmp 2] R) a τ := by
 by_cases h0 : n < 0
 ·simp [pc3_rB, pc3_r2, a0, h0]
  refine known_calls V h00 fun σ' A' => ?_
  simp
  exact h _ (A.trans A')
 ·simp [pc3_rB, pc3_r2, a0, h0]
  refine u_calls hn.2 fun v σ1 hv => ?_
  have v1 := hv.byt.one
  have vl := hv.byt.len
  have hvb := hv.byt
  obtain ⟨p0, p1⟩ := uF_at 9 n (by omega) (by omega)
  have hL : (uI n).length ≤ 10 := uI_len n
  change 0 < (uI n).length at p0
  change ∀ i, i < (uI n).length → (i + 1 < (uI n).length → (uI n)[i]? = _ ∧ _) ∧ (i + 1 = (uI n).length → (uI n)[i]? = _ ∧ _) at p1
  generalize hs : uI n = s at *
  have w1 : IntKind.wrap .i64 ((s.length : Int) - 1) = (s.length : Int) - 1 := by rw [wrap_i64] <;> omega
  simp [v1, vl, w1, a0]
  refine aloop (LF2 n v s σ1) (MF 9) ⟨s.length, by omega, rfl, by simp [a0], by simp, by simp, by simp⟩ fun a τ hI => ?_
  obtain ⟨j, hj, rfl, a0, a7, a8, a9⟩ := hI
  cases j with
  | zero =>
   have a9' : a 9 = .int .i64 (-1) := by rw [a9]; rfl
   have a8' : a 8 = .int .i64 n := by rw [a8, if_neg (by omega)]; simp
   have c0 : (0 : Int) < (s.length : Int) := by omega
   have A2 := A.trans hv.2
   have h02 : 0 < τ.nf ∧ τ.F 0 = .alive := ⟨by have := hv.2.nf; omega, (hv.2.fam 0 h00.1).trans h00.2⟩
   by_cases hl : s.length = 1
   ·have c1 : (s.length : Int) = 1 := by omega
    simp [pc3_l2, a9', pc3_r1, a8', a0, a7, vl, c0, p0, c1]
    refine known_calls V h02 fun σ' A' => ?_
    simp
    exact h _ (A2.trans A')
   ·have c1 : ¬ (s.length : Int) = 1 := by omega
    obtain ⟨k, hk⟩ : ∃ k, s.length = k + 2 := ⟨s.length - 2, by omega⟩
    have w1 : IntKind.wrap .i64 ((s.length : Int) - 1) = ((k + 1 : Nat) : Int) := by rw [wrap_i64] <;> omega
    obtain ⟨φ, hr, hi⟩ := hvb.at (i := k + 1) (by omega)
    have hr' := hr.read
    obtain ⟨_, q1⟩ := p1 (k + 1) (by omega)
    obtain ⟨q2, _⟩ := p1 k (by omega)
    obtain ⟨q1, q3, q4⟩ := q1 (by omega)
    obtain ⟨q2, q5⟩ := q2 (by omega)
    have hm := ediv_pow' n k
    rw [List.getElem?_eq_getElem (by omega)] at q1
    simp only [Option.some.injEq] at q1
    have d1 := byteI_nat (n / 128 ^ (k + 1))
    rw [← q1] at d1
    have k0 : ¬ s[k + 1].toNat = 0 := by omega
    simp only [Int.natCast_add, Int.natCast_one] at w1 hi
    simp [pc3_l2, a9', pc3_r1, a8', a0, a7, vl, c0, p0, c1, w1, hi, hr', k0]
    refine known_calls V h02 fun σ' A' => ?_
    simp
    exact h _ (A2.trans A')
  | succ i =>
   have a9' : a 9 = .int .i64 (i : Int) := by rw [a9]; congr 1; omega
   obtain ⟨φ, hr, hi⟩ := hvb.at (i := i) (by omega)
   have hr' := hr.read
   obtain ⟨q1, q2⟩ := p1 i (by omega)
   rw [List.getElem?_eq_getElem (by omega)] at q1 q2
   have hm := ediv_pow' n i
   have hmr := edivp_rg hn i
   have w2 : IntKind.wrap .i64 ((i : Int) - 1) = (i : Int) - 1 := by rw [wrap_i64] <;> omega
   have hi0 : ¬ (i : Int) < 0 := by omega
   generalize hmd : n / 128 ^ i = m at *
   have inv : ∀ a' : Nat → AV, a' 0 = .int .i64 n → a' 7 = v → a' 8 = .int .i64 m → a' 9 = .int .i64 ((i : Int) - 1) → LF2 n v s τ a' τ ∧ MF 9 a' τ < MF 9 a τ := fun a' b0 b7 b8 b9 => by
    refine ⟨⟨i, by omega, rfl, b0, b7, by rw [b8, if_neg (by omega), hmd], b9⟩, ?_⟩
    simp only [MF, b9, a9']
    omega
   by_cases hlast : i + 1 = s.length
   ·obtain ⟨q2, q3, q4⟩ := q2 hlast
    simp only [Option.some.injEq] at q2
    have hc := byteI_nat m
    rw [← q2] at hc
    have a8' : a 8 = .int .i64 0 := by rw [a8, if_pos hlast]
    have c1 : ¬ (128 : Int) ≤ (s[i].toNat : Int) := by omega
    have c2 : ¬ (i : Int) < (s.length : Int) - 1 := by omega
    have ov := or_val0 (c := s[i])
    have e : ((s[i].toNat % 128 : Nat) : Int) = m := by omega
    rw [e] at ov
    simp only [Int.zero_mul] at ov
    simp [pc3_l2, a9', a7, a8', vl, hi, hr', c1, c2, w1, w2, ov, hi0]
    exact inv _ (by simp [a0]) (by simp [a7]) (by simp) (by simp)
   ·obtain ⟨q1, q3⟩ := q1 (by omega)
    simp only [Option.some.injEq] at q1
    have hc := low_128 m
    rw [← q1] at hc
    have a8' : a 8 = .int .i64 (m / 128) := by rw [a8, if_neg hlast, hm]
    have c1 : (128 : Int) ≤ (s[i].toNat : Int) := by omega
    have c2 : (i : Int) < (s.length : Int) - 1 := by omega
    have ov := or_val (m := m) (c := s[i]) hmr (by omega)
    simp [pc3_l2, a9', a7, a8', vl, hi, hr', c1, c2, w1, w2, ov, hi0]
    exact inv _ (by simp [a0]) (by simp [a7]) (by simp) (by simp)
theorem forms_calls (V : VarsB G) (h00 : 0 < σ.nf ∧ σ.F 0 = .alive) {n : Int} (hn : -(2 ^ 63) ≤ n ∧ n < 2 ^ 63) (h : ∀ σ', Adds σ σ' → R (.ret (.bool true)) σ') : ACalls Tryd.prog G 3 [.int .i64 n] σ R := by
 refine calls3 rfl ?_
 simp [pc3]
 refine s_calls hn fun v σ1 hv => ?_
 have v1 := hv.byt.one
 have vl := hv.byt.len
 have hvb := hv.byt
 obtain ⟨p0, p1⟩ := sF_at 9 n (by omega) (by omega)
 have hL : (sI n).length ≤ 10 := sI_len n
 change 0 < (sI n).length at p0
 change ∀ i, i < (sI n).length → (i + 1 < (sI n).length → (sI n)[i]? = _ ∧ _) ∧ (i + 1 = (sI n).length → (sI n)[i]? = _ ∧ _) at p1
 generalize hs : sI n = s at *
 have w1 : IntKind.wrap .i64 ((s.length : Int) - 1) = (s.length : Int) - 1 := by rw [wrap_i64] <;> omega
 simp [v1, vl, w1]
 refine aloop (LF1 n v s σ1) (MF 6) ⟨s.length, by omega, rfl, by simp, by simp, by simp, by simp, by simp⟩ fun a τ hI => ?_
 obtain ⟨j, hj, rfl, a0, a3, a4, a5, a6⟩ := hI
 cases j with
 | zero =>
  have a6' : a 6 = .int .i64 (-1) := by rw [a6]; rfl
  have a5' : a 5 = .int .i64 n := by rw [a5, if_neg (by omega)]; simp
  simp [pc3_l1, a6']
  refine forms_check hn hs hvb (by simp [a0]) (by simp [a3]) (by simp [a4]) (by simp [a5']) fun a' b0 => ?_
  exact forms_tail V hv.2 ⟨by have := hv.2.nf; omega, (hv.2.fam 0 h00.1).trans h00.2⟩ hn b0 h
 | succ i =>
  have a6' : a 6 = .int .i64 (i : Int) := by rw [a6]; congr 1; omega
  obtain ⟨φ, hr, hi⟩ := hvb.at (i := i) (by omega)
  have hr' := hr.read
  obtain ⟨q1, q2⟩ := p1 i (by omega)
  rw [List.getElem?_eq_getElem (by omega)] at q1 q2
  have hm := ediv_pow' n i
  have hmr := edivp_rg hn i
  have w2 : IntKind.wrap .i64 ((i : Int) - 1) = (i : Int) - 1 := by rw [wrap_i64] <;> omega
  have hi0 : ¬ (i : Int) < 0 := by omega
  generalize hmd : n / 128 ^ i = m at *
  have inv : ∀ a' : Nat → AV, a' 0 = .int .i64 n → a' 3 = v → a' 4 = .int .i64 (s.length : Int) → a' 5 = .int .i64 m → a' 6 = .int .i64 ((i : Int) - 1) → LF1 n v s τ a' τ ∧ MF 6 a' τ < MF 6 a τ := fun a' b0 b3 b4 b5 b6 => by
   refine ⟨⟨i, by omega, rfl, b0, b3, b4, by rw [b5, if_neg (by omega), hmd], b6⟩, ?_⟩
   simp only [MF, b6, a6']
   omega
  by_cases hlast : i + 1 = s.length
  ·obtain ⟨q2, q3, q4⟩ := q2 hlast
   simp only [Option.some.injEq] at q2
   have hc := low_127 m
   rw [← q2] at hc
   have a5' : a 5 = .int .i64 0 := by rw [a5, if_pos hlast]
   have c1 : ¬ (128 : Int) ≤ (s[i].toNat : Int) := by omega
   have c2 : ¬ (i : Int) < (s.length : Int) - 1 := by omega
   have c3 : ((i : Int) = (s.length : Int) - 1) = True := eq_true (by omega)
   have ov := or_val0 (c := s[i])
   have hlt := s[i].toNat_lt
   have e : ((s[i].toNat % 128 : Nat) : Int) = (s[i].toNat : Int) := by omega
   rw [e] at ov
   simp only [Int.zero_mul] at ov
   by_cases c4 : (64 : Int) ≤ (s[i].toNat : Int)
   ·have w3 : IntKind.wrap .i64 ((s[i].toNat : Int) - 128) = m := by rw [wrap_i64] <;> omega
    simp [pc3_l1, a6', a3, a4, a5', hi, hr', c1, c2, c3, w1, w2, ov, hi0, c4, w3]
    exact inv _ (by simp [a0]) (by simp [a3]) (by simp [a4]) (by simp) (by simp)
   ·have w3 : (s[i].toNat : Int) = m := by omega
    simp [pc3_l1, a6', a3, a4, a5', hi, hr', c1, c2, c3, w1, w2, ov, hi0, c4]
    exact inv _ (by simp [a0]) (by simp [a3]) (by simp [a4]) (by simp [w3]) (by simp)
  ·obtain ⟨q1, q3⟩ := q1 (by omega)
   simp only [Option.some.injEq] at q1
   have hc := low_128 m
   rw [← q1] at hc
   have a5' : a 5 = .int .i64 (m / 128) := by rw [a5, if_neg hlast, hm]
   have c1 : (128 : Int) ≤ (s[i].toNat : Int) := by omega
   have c2 : (i : Int) < (s.length : Int) - 1 := by omega
   have c3 : ¬ (i : Int) = (s.length : Int) - 1 := by omega
   have ov := or_val (m := m) (c := s[i]) hmr (by omega)
   simp [pc3_l1, a6', a3, a4, a5', hi, hr', c1, c2, c3, w1, w2, ov, hi0]
   exact inv _ (by simp [a0]) (by simp [a3]) (by simp [a4]) (by simp) (by simp)
end
end Go.Proofs.YthejpoplbllcbaaDoor
set_option linter.unusedSimpArgs false
set_option linter.unusedVariables false
namespace Go
open Go.ChangeShapes Go.WideShapes Go.ChangeAt Go.RowKit
theorem returnsInHanded_of_change_and_shaped {H : Type} {enc : TypeId × Value → H} {a : Assume} {C : Checked} {os : Os} {f : FuncId} {fn : Func} {s : ChangeSpec} {conds : List PathCond} {apart fresh handsOn again : Bool} {X : World → Array Value → Prop}
  (hX : ∀ (w w' : World) (args : Array Value), w.heap = w'.heap → X w args → X w' args)
  (own : ownKnob C.prog.godebug = none) (started : os.Started) (noInit : C.prog.inits.idxOf? f = none) (hfn : C.prog.funcs[f]? = some fn)
  (witness : ∃ (w : World) (tape : Tape) (i : Input), w.os = os ∧ (w.forCall tape i).Shaped C.prog ∧ i.vars = [] ∧ Input.okWide C.prog (w.forCall tape i) .any w.heap.size f i ∧
   ((s.pre enc C.prog fn conds apart (w.forCall tape i).memory i.args ∧ X (w.forCall tape i).memory i.args) ∧ sizedMet enc C.prog fn (OpenSpec.ofChange s) apart (w.forCall tape i).memory i.args) ∧ a.holds C.prog (lone (Frame.enter C.prog f i.args .normal) [] (w.forCall tape i)))
  (contract : ∀ (W : World) (base : Nat) (args : Array Value) (ds gs : List (DataW H)) (before : List MemPlace),
   (∀ (j : Nat) t v, fn.params[j]? = some t → args[j]? = some v → Value.okWide C.prog W .any base t v) →
   DataW.Whole enc C.prog fn.params.toList s.vars apart W args.toList ds gs before → (DataW.weightsEach C.prog (fn.params.toList ++ s.plain.varTypes C.prog) (ds ++ gs)).all (· ≤ reachBytes) = true → W.ShapedOpen C.prog → X W args →
   Calls C.prog f args W fun e W' => ∃ v, e = .returned v ∧ s.post enc C.prog fn apart fresh handsOn again W args v W') :
  ReturnsInHanded a C os f .any (fun w args => (s.pre enc C.prog fn conds apart w args ∧ X w args) ∧ sizedMet enc C.prog fn (OpenSpec.ofChange s) apart w args) (s.post enc C.prog fn apart fresh handsOn again) := by
 refine returnsInHanded_of_calls own started noInit witness ?_
 intro w tape i _ hsh _ hok hpre hholds
 obtain ⟨_, _, _, fn', hfn', _, _, _, _, hval⟩ := hok
 have e : fn' = fn := Option.some.inj (hfn'.symm.trans hfn)
 subst e
 obtain ⟨⟨⟨ds, gs, before, hw, hc⟩, hx⟩, hz⟩ := hpre
 have hw' := DataW.Whole.of_heap (w' := w.forCall tape i) (by rfl) hw
 refine (contract (w.forCall tape i) w.heap.size i.args ds gs before hval hw' (hz.weights hw) hsh (hX _ _ _ (by rfl) hx)).mono fun e W' ⟨v, he, hp⟩ => ?_
 subst he
 exact ChangeSpec.post_blind hp
theorem cells_of_strs {H : Type} {enc : TypeId × Value → H} {P : Program} {w : World} {base : Nat} {sp : Nat → Bool} {held : Bool} {fuel : Nat} {t e : TypeId} {n : Nat} {cs : List Value} {ls : List (List UInt8)} {p : List MemPlace}
  (ht : P.underlying t = some (.array n e)) (he : P.underlying e = some .string) (hce : P.cellsOf e = 1) (hct : P.cellsOf t = n)
  (h : DataW.trod enc P w base sp held fuel t cs = some (.agg (ls.map fun l => .lit (.string l)), p)) : cs = ls.map fun l => Value.string ⟨l.toArray⟩ := by
 cases fuel with
 | zero => simp [DataW.trod] at h
 | succ fuel =>
  simp only [DataW.trod, ht, hce, hct, Nat.mul_one] at h
  split at h
  ·rename_i hl
   obtain ⟨xs, hm, hx⟩ := Option.map_eq_some_iff.1 h
   have hxs : xs.map (·.1) = ls.map fun l => (DataW.lit (.string l) : DataW H) := by
    have := congrArg Prod.fst hx
    simpa using this
   have hxl : xs.length = n := by simpa using Lib.mapM_length hm
   have hzl : ls.length = n := by
    have := congrArg List.length hxs
    simp at this
    omega
   apply List.ext_getElem?
   intro i
   by_cases hi : i < n
   ·obtain ⟨b, hb, hf⟩ := Lib.mapM_at hm i i (by simp [hi])
    obtain ⟨s, hc, rfl, _⟩ := DataW.trod_string he hf
    have h1 : cs[i]? = some (.string s) := by
     have := congrArg (·[0]?) hc
     simpa [List.getElem?_take, List.getElem?_drop] using this
    have h2 : (xs.map (·.1))[i]? = some (DataW.lit (.string s.data.toList) : DataW H) := by simp [hb]
    rw [hxs] at h2
    simp only [List.getElem?_map, Option.map_eq_some_iff, DataW.lit.injEq, Lit.string.injEq] at h2
    obtain ⟨l, hl1, hl2⟩ := h2
    simp [h1, hl1, hl2]
   ·rw [List.getElem?_eq_none (by omega), List.getElem?_eq_none (by simp; omega)]
  ·cases h
theorem perm_image {α β : Type} {f : α → β} : ∀ {l : List β} {T : List α}, l.Perm (T.map f) → ∃ l' : List α, l'.Perm T ∧ l = l'.map f
 | l, T, h => by
  generalize hm : T.map f = m at h
  induction h generalizing T with
  | nil =>
   cases T with
   | nil => exact ⟨[], .refl _, rfl⟩
   | cons a t => cases hm
  | cons x h ih =>
   cases T with
   | nil => cases hm
   | cons a t =>
    simp only [List.map_cons, List.cons.injEq] at hm
    obtain ⟨rfl, hm⟩ := hm
    obtain ⟨l', h1, rfl⟩ := ih t hm
    exact ⟨a :: l', .cons _ h1, rfl⟩
  | swap x y l =>
   match T, hm with
   | a :: b :: t, hm =>
    simp only [List.map_cons, List.cons.injEq] at hm
    obtain ⟨rfl, rfl, rfl⟩ := hm
    exact ⟨b :: a :: t, .swap .., rfl⟩
  | trans h1 h2 ih1 ih2 =>
   obtain ⟨l2, p2, rfl⟩ := ih2 T hm
   obtain ⟨l1, p1, rfl⟩ := ih1 l2 rfl
   exact ⟨l1, p1.trans p2, rfl⟩
end Go
namespace Go.Proofs.YthejpoplbllcbaaDoor
open Go Go.Abs Go.RowKit
theorem own : ownKnob Tryd.prog.godebug = none := by kernel_rfl
abbrev LAID : List (String × DataW Unit) := [("unicode.White_Space", Rows.laid_unicode_White_Space), ("strings.asciiSpace", Rows.laid_strings_asciiSpace), ("mortise/bin.bytesOf", Rows.laid_mortise_bin_bytesOf), ("mortise/bin.plain", Rows.laid_mortise_bin_plain), ("mortise/bin.numbered", Rows.laid_mortise_bin_numbered)]
def toD (p : UInt8 × W) : Lit × DataW Unit := (.int .u8 (p.1.toNat : Int), .agg [.lit (.int .i64 p.2.op), .lit (.int .i64 p.2.ty), .lit (.int .i64 p.2.n), .lit (.int .i64 p.2.body), .lit (.int .i64 p.2.other), .lit (.string p.2.name)])
def valW (w : W) : List Value := [.int .i64 w.op, .int .i64 w.ty, .int .i64 w.n, .int .i64 w.body, .int .i64 w.other, .string ⟨w.name.toArray⟩]
set_option maxRecDepth 20000 in
theorem wcells {w : World} {fuel : Nat} {cs : List Value} {o : W} {c : UInt8} {p : List MemPlace} (h : DataW.trod (fun _ => ()) Tryd.prog w 0 (fun _ => true) false fuel 51 cs = some ((toD (c, o)).2, p)) : cs = valW o := by
 obtain ⟨xs, n, rfl, hx, hlen, hxl, hf⟩ := DataW.trod_struct Tryd.underlying51 h
 have hxl' : xs.length = 6 := hxl
 have hlen' : cs.length = 6 := hlen.trans (by kernel_rfl)
 simp only [toD, Prod.mk.injEq, DataW.agg.injEq] at hx
 obtain ⟨hx, _⟩ := hx
 match cs, hlen' with
 | [a, b, c, d, e, f], _ =>
  have c9 : Tryd.prog.cellsOf 9 = 1 := by kernel_rfl
  have c3 : Tryd.prog.cellsOf 3 = 1 := by kernel_rfl
  have key : ∀ (k : Nat) (v : Value) (m : Int) (hk : k < xs.length), (xs.map (·.1))[k]? = some (DataW.lit (.int .i64 m)) → DataW.trod (fun _ => ()) Tryd.prog w 0 (fun _ => true) false n 3 [v] = xs[k]? → v = .int .i64 m := fun k v m hk h1 h2 => by
   rw [List.getElem?_eq_getElem hk] at h2
   rw [List.getElem?_map, List.getElem?_eq_getElem hk] at h1
   simp only [Option.map_some, Option.some.injEq] at h1
   obtain ⟨z, e1, e2, _⟩ := DataW.trod_int Tryd.underlying3 h2
   rw [e2] at h1
   simp only [DataW.lit.injEq, Lit.int.injEq, true_and] at h1
   simp only [List.cons.injEq, and_true] at e1
   rw [e1, h1]
  have f0 : DataW.trod (fun _ => ()) Tryd.prog w 0 (fun _ => true) false n 3 [a] = xs[0]? := by
   have h : DataW.trod (fun _ => ()) Tryd.prog w 0 (fun _ => true) false n 3 ((([a, b, c, d, e, f] : List Value).drop 0).take (Tryd.prog.cellsOf 3)) = xs[0]? := hf 0 _ rfl
   rw [c3] at h; exact h
  have f1 : DataW.trod (fun _ => ()) Tryd.prog w 0 (fun _ => true) false n 3 [b] = xs[1]? := by
   have h : DataW.trod (fun _ => ()) Tryd.prog w 0 (fun _ => true) false n 3 ((([a, b, c, d, e, f] : List Value).drop 1).take (Tryd.prog.cellsOf 3)) = xs[1]? := hf 1 _ rfl
   rw [c3] at h; exact h
  have f2 : DataW.trod (fun _ => ()) Tryd.prog w 0 (fun _ => true) false n 3 [c] = xs[2]? := by
   have h : DataW.trod (fun _ => ()) Tryd.prog w 0 (fun _ => true) false n 3 ((([a, b, c, d, e, f] : List Value).drop 2).take (Tryd.prog.cellsOf 3)) = xs[2]? := hf 2 _ rfl
   rw [c3] at h; exact h
  have f3 : DataW.trod (fun _ => ()) Tryd.prog w 0 (fun _ => true) false n 3 [d] = xs[3]? := by
   have h : DataW.trod (fun _ => ()) Tryd.prog w 0 (fun _ => true) false n 3 ((([a, b, c, d, e, f] : List Value).drop 3).take (Tryd.prog.cellsOf 3)) = xs[3]? := hf 3 _ rfl
   rw [c3] at h; exact h
  have f4 : DataW.trod (fun _ => ()) Tryd.prog w 0 (fun _ => true) false n 3 [e] = xs[4]? := by
   have h : DataW.trod (fun _ => ()) Tryd.prog w 0 (fun _ => true) false n 3 ((([a, b, c, d, e, f] : List Value).drop 4).take (Tryd.prog.cellsOf 3)) = xs[4]? := hf 4 _ rfl
   rw [c3] at h; exact h
  have f5 : DataW.trod (fun _ => ()) Tryd.prog w 0 (fun _ => true) false n 9 [f] = xs[5]? := by
   have h : DataW.trod (fun _ => ()) Tryd.prog w 0 (fun _ => true) false n 9 ((([a, b, c, d, e, f] : List Value).drop 5).take (Tryd.prog.cellsOf 9)) = xs[5]? := hf 5 _ rfl
   rw [c9] at h; exact h
  have e0 := key 0 a o.op (by omega) (by rw [← hx]; rfl) f0
  have e1 := key 1 b o.ty (by omega) (by rw [← hx]; rfl) f1
  have e2 := key 2 c o.n (by omega) (by rw [← hx]; rfl) f2
  have e3 := key 3 d o.body (by omega) (by rw [← hx]; rfl) f3
  have e4 := key 4 e o.other (by omega) (by rw [← hx]; rfl) f4
  have e5 : f = .string ⟨o.name.toArray⟩ := by
   rw [List.getElem?_eq_getElem (by omega)] at f5
   have h1 : (xs.map (·.1))[5]? = some (DataW.lit (.string o.name)) := by rw [← hx]; rfl
   rw [List.getElem?_map, List.getElem?_eq_getElem (by omega)] at h1
   simp only [Option.map_some, Option.some.injEq] at h1
   obtain ⟨z, e1, e2, _⟩ := DataW.trod_string Tryd.underlying9 f5
   rw [e2] at h1
   simp only [DataW.lit.injEq, Lit.string.injEq] at h1
   simp only [List.cons.injEq, and_true] at e1
   rw [e1, ← h1]
  rw [e0, e1, e2, e3, e4, e5]
  rfl
theorem key_of {v : Value} {n : Int} (h : keyOf Tryd.prog 5 v = some (.int .u8 n)) : v = .int .u8 n := by
 simp only [keyOf, mapKey, Tryd.underlying5] at h
 cases v <;> simp at h
 obtain ⟨⟨rfl, _⟩, rfl⟩ := h
 rfl
theorem formed_of {v : Value} (h : v.formed Tryd.prog 51 = true) : ∃ A, v = .agg A := by
 cases v <;> simp [Value.formed, Tryd.underlying51] at h
 exact ⟨_, rfl⟩
set_option maxRecDepth 20000 in
theorem map_of {w : World} {fuel : Nat} {cs : List Value} {p : List MemPlace} {T : List (UInt8 × W)} {L : List (Lit × DataW Unit)} (hT : L.Perm (T.map toD)) (h : DataW.trod (fun _ => ()) Tryd.prog w 0 (fun _ => true) false fuel 78 cs = some (.map L, p)) :
  ∃ (l : List (UInt8 × W)) (b : Nat) (es : Array MapEntry) (clock : Nat), l.Perm T ∧ cs = [.map (some b)] ∧ w.heap[b]? = some (.map es clock) ∧ MapR (keysA l) (valsA l) es clock := by
 cases fuel with
 | zero => simp [DataW.trod] at h
 | succ n =>
  have h0 := h
  rw [DataW.trod_step] at h
  unfold DataW.trodStep at h
  rw [Tryd.underlying78] at h
  split at h <;> simp_all
  rename_i b _
  rw [DataW.trod_step] at h0
  unfold DataW.trodStep at h0
  cases hb : w.heap[b]? with
  | none => simp [Tryd.underlying78, hb] at h0
  | some o =>
   cases o
   case map es clock =>
    simp only [Tryd.underlying78, hb] at h0
    split at h0
    ·rename_i hc
     simp only [Option.bind_eq_some_iff] at h0
     obtain ⟨entries, he, h3⟩ := h0
     split at h3
     ·simp only [Option.some.injEq, Prod.mk.injEq, DataW.map.injEq] at h3
      obtain ⟨h3, _⟩ := h3
      have hp : (entries.map (·.1)).Perm (T.map toD) := (WideShapes.sorted_perm _).symm.trans (by rw [h3]; exact hT)
      obtain ⟨l, hl, hle⟩ := perm_image hp
      have hlen : entries.length = es.size := by rw [Lib.mapM_length he]; simp
      have hll : l.length = es.size := by
       have := congrArg List.length hle
       simp at this
       omega
      have ent : ∀ i (hi : i < es.size), es[i].key = .int .u8 ((l[i]'(by omega)).1.toNat : Int) ∧ ∃ A, es[i].val = .agg A ∧ A.toList = valW (l[i]'(by omega)).2 := fun i hi => by
       obtain ⟨y, h1, h2⟩ := Lib.mapM_at he i es[i] (by simp [hi])
       have h3 : (entries.map (·.1))[i]? = some y.1 := by rw [List.getElem?_map, h1]; rfl
       rw [hle, List.getElem?_map, List.getElem?_eq_getElem (by omega)] at h3
       simp only [Option.map_some, Option.some.injEq] at h3
       rw [Option.bind_eq_some_iff] at h2
       obtain ⟨key, k1, k2⟩ := h2
       split at k2
       ·rename_i hfm
        rw [Option.map_eq_some_iff] at k2
        obtain ⟨z, z1, rfl⟩ := k2
        obtain ⟨A, hA⟩ := formed_of hfm
        simp only at h3
        have q1 : key = .int .u8 ((l[i]'(by omega)).1.toNat : Int) := (congrArg Prod.fst h3).symm
        have q2 : z.1 = (toD l[i]).2 := (congrArg Prod.snd h3).symm
        rw [q1] at k1
        refine ⟨key_of k1, A, hA, ?_⟩
        rw [hA] at z1
        obtain ⟨z1a, z1b⟩ := z
        simp only at q2
        subst q2
        exact wcells (c := l[i].1) z1
       ·cases k2
      refine ⟨l, hl, es, clock, rfl, ⟨by simp [keysA, hll], by simp [keysA, valsA], fun i h1 h2 => ?_, fun i h1 h2 => ?_, fun i hi => ?_, fun i j hi hj e => ?_⟩⟩
      ·obtain ⟨e1, _⟩ := ent i h2
       rw [e1]
       simp only [keysA, List.getElem_map]
       exact .int ..
      ·obtain ⟨_, A, e1, e2⟩ := ent i h2
       rw [e1]
       simp only [valsA, List.getElem_map, W.av]
       have hs : A.size = 6 := by rw [← Array.length_toList, e2]; rfl
       refine .agg _ A (by rw [hs]; rfl) fun j g1 g2 => ?_
       have g3 : A[j] = A.toList[j]'(by simpa using g2) := by simp
       rw [g3]
       simp only [e2]
       clear g3
       rcases j with _ | _ | _ | _ | _ | _ | j
       ·exact .int ..
       ·exact .int ..
       ·exact .int ..
       ·exact .int ..
       ·exact .int ..
       ·exact At.str ⟨(l[i]'(by omega)).2.name.toArray⟩
       ·exact absurd g1 (by simp [W.cs])
      ·have := Array.all_eq_true.1 hc.2.2.1 i hi
       simpa using this
      ·have hnd := ChangeMaps.nodup_of_eraseDups _ (by rw [hc.2.2.2]; simp)
       have := List.getElem_inj (h₀ := by simpa using hi) (h₁ := by simpa using hj) hnd (i := i) (j := j)
       simp at this
       exact this.1 e
     ·cases h3
    ·cases h0
   all_goals (simp [Tryd.underlying78, hb] at h0; done)
end Go.Proofs.YthejpoplbllcbaaDoor
set_option linter.unusedSimpArgs false
set_option linter.unusedVariables false
namespace Go.Proofs.YthejpoplbllcbaaDoor
open Go Go.Abs Go.RowKit
def GD (lp ln : List (UInt8 × W)) : Env where
 g := fun x => match x with | 0 => .pv (.stat true) (.agg [.str ones, .str twos]) | 1 => .pv (.stat true) (.mp (keysA lp) (valsA lp)) | 2 => .pv (.stat true) (.mp (keysA ln) (valsA ln)) | 3 => .pv (.stat true) (.agg spTab) | _ => .undef
 has := fun _ => False
 y := fun _ _ _ _ _ => False
 fix := fun _ => none
structure WOk (lp ln : List (UInt8 × W)) (w : World) : Prop where
 g : GOk Tryd.prog (GD lp ln) (Mp.all w) AS.zero.F w
 p : lp.Perm plainT
 n : ln.Perm numT
theorem WOk.vars {lp ln w} (h : WOk lp ln w) : VarsB (GD lp ln) := ⟨rfl, ⟨lp, h.p, rfl⟩, ⟨ln, h.n, rfl⟩, rfl⟩
def spZ : List Int := (List.range 256).map fun c => if isSpB (UInt8.ofNat c) then 1 else 0
def plainS : List (UInt8 × W) := [(0x00, pw 17 0 0), (0x0F, pw 16 0 0), (0x1A, pw 18 0 0), (0x28, pw 8 1 4), (0x29, pw 8 2 8), (0x2C, pw 8 1 1), (0x36, pw 9 1 4), (0x37, pw 9 2 8), (0x3A, pw 9 1 1), (0x45, pw 5 1 0), (0x50, pw 5 2 0), (0xA7, pw 6 0 0), (0xAC, pw 7 0 0)]
def numS : List (UInt8 × W) := [(0x0C, pw 14 0 0), (0x0D, pw 15 0 0), (0x10, pw 10 0 0), (0x20, pw 2 0 0), (0x21, pw 3 0 0), (0x41, pw 1 1 0), (0x42, pw 1 2 0)]
set_option maxRecDepth 20000 in
theorem plain_perm : plainS.Perm plainT := by decide
set_option maxRecDepth 20000 in
theorem num_perm : numS.Perm numT := by decide
set_option maxRecDepth 100000 in
theorem wok_of_laid {W : World} (hl : laidMetH Tryd.prog LAID W) : ∃ lp ln, WOk lp ln W := by
 have hl0 : laidMet Tryd.prog LAID W := hl
 obtain ⟨ps, ⟨_, _, _, _, _, _, _, _, _, _, ⟨g3, t3, cs3, fuel3, p3, q3, a1, a2, a3, a4, ⟨g0, t0, cs0, fuel0, p0, q0, b1, b2, b3, b4, ⟨g1, t1, cs1, fuel1, p1, q1, c1, c2, c3, c4, ⟨g2, t2, cs2, fuel2, p2, q2, d1, d2, d3, d4, _⟩, _⟩, _⟩, _⟩, _⟩, _⟩ := hl0
 obtain rfl : 3 = g3 := Option.some.inj ((show Tryd.prog.globalNamed "strings.asciiSpace" = some 3 by kernel_rfl).symm.trans a1)
 obtain rfl : 0 = g0 := Option.some.inj ((show Tryd.prog.globalNamed "mortise/bin.bytesOf" = some 0 by kernel_rfl).symm.trans b1)
 obtain rfl : 1 = g1 := Option.some.inj ((show Tryd.prog.globalNamed "mortise/bin.plain" = some 1 by kernel_rfl).symm.trans c1)
 obtain rfl : 2 = g2 := Option.some.inj ((show Tryd.prog.globalNamed "mortise/bin.numbered" = some 2 by kernel_rfl).symm.trans d1)
 obtain rfl : 91 = t3 := Option.some.inj ((show (Tryd.prog.globals[3]?).map (·.type) = some 91 by kernel_rfl).symm.trans a2)
 obtain rfl : 75 = t0 := Option.some.inj ((show (Tryd.prog.globals[0]?).map (·.type) = some 75 by kernel_rfl).symm.trans b2)
 obtain rfl : 78 = t1 := Option.some.inj ((show (Tryd.prog.globals[1]?).map (·.type) = some 78 by kernel_rfl).symm.trans c2)
 obtain rfl : 78 = t2 := Option.some.inj ((show (Tryd.prog.globals[2]?).map (·.type) = some 78 by kernel_rfl).symm.trans d2)
 have e3 : cs3.toList = spZ.map fun z => Value.int .u8 z := Lib.cells_of_tab (n := 256) (e := 5) (k := .u8) Tryd.underlying91 Tryd.underlying5 (by kernel_rfl) (by kernel_rfl) (zs := spZ) (by have := a4; exact this)
 have e0 : cs0.toList = [ones, twos].map fun l => Value.string ⟨l.toArray⟩ := cells_of_strs (n := 2) (e := 9) Tryd.underlying75 Tryd.underlying9 (by kernel_rfl) (by kernel_rfl) (ls := [ones, twos]) b4
 obtain ⟨lp, mb1, es1, k1, hp, hc1, hb1, hm1⟩ := map_of (T := plainT) (L := plainS.map toD) (plain_perm.map toD) c4
 obtain ⟨ln, mb2, es2, k2, hn, hc2, hb2, hm2⟩ := map_of (T := numT) (L := numS.map toD) (num_perm.map toD) d4
 have cell : ∀ (nm : String) (g : Nat) (cs : Array Value), Tryd.prog.globalNamed nm = some g → W.var? Tryd.prog nm = some cs → ∀ j, W.cell? ⟨g, j, none⟩ = cs.toList[j]? := fun nm g cs h1 h2 j => by
  have := World.var?_cell h1 h2 j
  rw [Array.getElem?_toList]
  simpa using this
 have v3 := cell _ 3 cs3 a1 a3
 have v0 := cell _ 0 cs0 b1 b3
 have v1 := cell _ 1 cs1 c1 c3
 have v2 := cell _ 2 cs2 d1 d3
 rw [e3] at v3
 rw [e0] at v0
 rw [hc1] at v1
 rw [hc2] at v2
 have sz : ∀ {g : Nat} {l : List Value} {v : Value}, (∀ j, W.cell? ⟨g, j, none⟩ = l[j]?) → l[0]? = some v → g < W.heap.size := fun h1 h2 => World.block_lt_of_cell? W _ ((h1 0).trans h2)
 have z3 := sz v3 (v := .int .u8 0) rfl
 have z0 := sz v0 (v := .string ⟨ones.toArray⟩) rfl
 have z1 := sz v1 (v := .map (some mb1)) rfl
 have z2 := sz v2 (v := .map (some mb2)) rfl
 have y1 : mb1 < W.heap.size := (Array.getElem?_eq_some_iff.1 hb1).1
 have y2 : mb2 < W.heap.size := (Array.getElem?_eq_some_iff.1 hb2).1
 refine ⟨lp, ln, ⟨⟨fun x => ?_, fun _ h => h.elim, fun B c h => by cases h⟩, hp, hn⟩⟩
 match x with
 | 0 =>
  refine .pv _ _ 0 0 (fun j => ([ones, twos].map fun l => Value.string ⟨l.toArray⟩).getD j undef) (by simp [Mem, Mp.all, z0]) (fun _ j hj => ?_) (fun _ j hj => ?_)
  ·have hj' : j < 2 := hj
   rw [Nat.zero_add, v0 j]
   rcases j with _ | _ | j
   ·rfl
   ·rfl
   ·omega
  ·have hj' : j < 2 := hj
   rcases j with _ | _ | j
   ·exact .str ⟨ones.toArray⟩
   ·exact .str ⟨twos.toArray⟩
   ·omega
 | 1 =>
  refine .pv _ _ 1 0 (fun j => .map (some mb1)) (by simp [Mem, Mp.all, z1]) (fun _ j hj => ?_) (fun _ j hj => ?_)
  ·have hj' : j = 0 := by simpa using hj
   subst hj'
   exact v1 0
  ·have hj' : j = 0 := by simpa using hj
   subst hj'
   exact .mp _ _ mb1 es1 k1 (by simp [Mp.all, y1]) hb1 hm1
 | 2 =>
  refine .pv _ _ 2 0 (fun j => .map (some mb2)) (by simp [Mem, Mp.all, z2]) (fun _ j hj => ?_) (fun _ j hj => ?_)
  ·have hj' : j = 0 := by simpa using hj
   subst hj'
   exact v2 0
  ·have hj' : j = 0 := by simpa using hj
   subst hj'
   exact .mp _ _ mb2 es2 k2 (by simp [Mp.all, y2]) hb2 hm2
 | 3 =>
  have hl : spTab = spZ.map (AV.int .u8) := by simp [spTab, spZ]
  refine .pv _ _ 3 0 (fun j => (spZ.map fun z => Value.int .u8 z).getD j undef) (by simp [Mem, Mp.all, z3]) (fun _ j hj => ?_) (fun _ j hj => ?_)
  ·have hj' : j < (spZ.map fun z => Value.int .u8 z).length := by
    have : j < spTab.length := hj
    rw [hl] at this
    simpa using this
   rw [Nat.zero_add, v3 j, List.getD_eq_getElem?_getD, List.getElem?_eq_getElem hj']
   rfl
  ·have hj' : j < spZ.length := by
    have : j < spTab.length := hj
    rw [hl] at this
    simpa using this
   have : ((AV.agg spTab).cells[j]'hj) = .int .u8 spZ[j] := by simp [AV.cells, hl]
   rw [this, List.getD_eq_getElem?_getD, List.getElem?_map, List.getElem?_eq_getElem hj']
   exact .int ..
 | n + 4 => exact .undef _
theorem cells1 {M F w} {x : AV} {c : Value} (h : VR M F w x c) : Cells M F w [x] #[c] := ⟨rfl, fun j v hj => by
 match j with
 | 0 => simp at hj; subst hj; exact ⟨c, rfl, h⟩
 | j + 1 => simp at hj⟩
noncomputable def laidWorld (os : Os) : World := World.doorLaid Tryd.prog 168 os
theorem laid_met (os : Os) (args : Array Value) : laidMetH Tryd.prog LAID ((laidWorld os).forCall (fun _ _ => 0) ⟨#[], args, []⟩).memory :=
 show laidMet Tryd.prog LAID _ from laidMet_of_run' 8 (by kernel_rfl) (by kernel_rfl)
end Go.Proofs.YthejpoplbllcbaaDoor
