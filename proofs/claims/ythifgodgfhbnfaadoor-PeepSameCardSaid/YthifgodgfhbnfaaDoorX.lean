/- What word's operations come to, under the conditions that each theorem names. -/
import Derived.Test.YthifgodgfhbnfaaDoorN
import Derived.Test.YthifgodgfhbnfaaDoorC
import Derived.Test.YthifgodgfhbnfaaDoorAbs29
set_option linter.unusedSimpArgs false
set_option linter.unusedVariables false
namespace Go.Proofs.YthifgodgfhbnfaaDoor
open Go Go.Abs
theorem bits2_nonneg (f : BitVec 64 → BitVec 64 → BitVec 64) (a b : Int) : 0 ≤ bits2 .u64 f a b := by
  unfold bits2
  simp [IntKind.wrap, IntKind.bits, IntKind.signed]
  omega
theorem one32_calls {G : Env} {σ : AS} {R : Out → AS → Prop} {b : Bool} (h : R (.ret (.int .i32 (oneB b))) σ) : ACalls Tryd.prog G 114 [.bool b] σ R := by
  refine calls114 rfl ?_
  unfold oneB at h
  cases b <;> simp [pc114, splice] at h ⊢ <;> exact h
theorem one64_calls {G : Env} {σ : AS} {R : Out → AS → Prop} {b : Bool} (h : R (.ret (.int .i64 (oneB b))) σ) : ACalls Tryd.prog G 115 [.bool b] σ R := by
  refine calls115 rfl ?_
  unfold oneB at h
  cases b <;> simp [pc115, splice] at h ⊢ <;> exact h
theorem divide32_calls {G : Env} {σ : AS} {R : Out → AS → Prop} {op : List UInt8} {a b : Int} (h : R (.ret (.tuple [.int .i32 (divideW .i32 op a b).1, .int .i64 (divideW .i32 op a b).2])) σ) : ACalls Tryd.prog G 109 [.str op, .int .i32 a, .int .i32 b] σ R := by
  refine calls109 rfl ?_
  unfold divideW at h
  by_cases h0 : b = 0
  · simp [h0] at h; simp [pc109, splice, h0]; exact h
  · by_cases h1 : op = [37]
    · by_cases h2 : b = -1
      · simp [h0, h1, h2] at h; simp [pc109, splice, h0, h1, h2]; exact h
      · simp [h0, h1, h2] at h; simp [pc109, splice, h0, h1, h2]; exact h
    · by_cases h2 : b = -1
      · by_cases h3 : a = 0
        · simp [h0, h1, h2, h3] at h; simp [pc109, splice, h0, h1, h2, h3]; exact h
        · by_cases h4 : IntKind.wrap .i32 (-a) = a
          · simp [h0, h1, h2, h3, h4] at h; simp [pc109, splice, h0, h1, h2, h3, h4]; exact h
          · simp [h0, h1, h2, h3, h4] at h; simp [pc109, splice, h0, h1, h2, h3, h4]; exact h
      · simp [h0, h1, h2] at h; simp [pc109, splice, h0, h1, h2]; exact h
theorem divide64_calls {G : Env} {σ : AS} {R : Out → AS → Prop} {op : List UInt8} {a b : Int} (h : R (.ret (.tuple [.int .i64 (divideW .i64 op a b).1, .int .i64 (divideW .i64 op a b).2])) σ) : ACalls Tryd.prog G 111 [.str op, .int .i64 a, .int .i64 b] σ R := by
  refine calls111 rfl ?_
  unfold divideW at h
  by_cases h0 : b = 0
  · simp [h0] at h; simp [pc111, splice, h0]; exact h
  · by_cases h1 : op = [37]
    · by_cases h2 : b = -1
      · simp [h0, h1, h2] at h; simp [pc111, splice, h0, h1, h2]; exact h
      · simp [h0, h1, h2] at h; simp [pc111, splice, h0, h1, h2]; exact h
    · by_cases h2 : b = -1
      · by_cases h3 : a = 0
        · simp [h0, h1, h2, h3] at h; simp [pc111, splice, h0, h1, h2, h3]; exact h
        · by_cases h4 : IntKind.wrap .i64 (-a) = a
          · simp [h0, h1, h2, h3, h4] at h; simp [pc111, splice, h0, h1, h2, h3, h4]; exact h
          · simp [h0, h1, h2, h3, h4] at h; simp [pc111, splice, h0, h1, h2, h3, h4]; exact h
      · simp [h0, h1, h2] at h; simp [pc111, splice, h0, h1, h2]; exact h
set_option maxRecDepth 20000 in
theorem does32_calls {G : Env} {σ : AS} {R : Out → AS → Prop} {op : List UInt8} {a b : Int} (h : R (.ret (.int .i32 (doesW .i32 op a b 32))) σ) : ACalls Tryd.prog G 110 [.str op, .int .i32 a, .int .i32 b, .int .i64 32] σ R := by
  refine calls110 rfl ?_
  unfold doesW at h
  by_cases h1 : op = [43]
  · subst h1; simp at h; simp [pc110, splice]; exact h
  by_cases h2 : op = [45]
  · subst h2; simp at h; simp [pc110, splice]; exact h
  by_cases h3 : op = [42]
  · subst h3; simp at h; simp [pc110, splice]; exact h
  by_cases h4 : op = [38]
  · subst h4; simp at h; simp [pc110, splice]; exact h
  by_cases h5 : op = [124]
  · subst h5; simp at h; simp [pc110, splice]; exact h
  by_cases h6 : op = [94]
  · subst h6; simp at h; simp [pc110, splice]; exact h
  by_cases h7 : op = [60, 60]
  · subst h7; simp at h; simp [pc110, splice, show IntKind.wrap .i64 31 = 31 by decide]; exact ⟨bits2_nonneg _ _ _, h⟩
  by_cases h8 : op = [62, 62]
  · subst h8; simp at h; simp [pc110, splice, show IntKind.wrap .i64 31 = 31 by decide]; exact ⟨bits2_nonneg _ _ _, h⟩
  by_cases h9 : op = [61, 61]
  · subst h9; simp at h; simp [pc110, splice]; refine one32_calls ?_; simp; exact h
  by_cases h10 : op = [33, 61]
  · subst h10; simp at h; simp [pc110, splice]; refine one32_calls ?_; simp; exact h
  by_cases h11 : op = [60]
  · subst h11; simp at h; simp [pc110, splice]; refine one32_calls ?_; simp; exact h
  by_cases h12 : op = [60, 61]
  · subst h12; simp at h; simp [pc110, splice]; refine one32_calls ?_; simp; exact h
  by_cases h13 : op = [62]
  · subst h13; simp at h; simp [pc110, splice]; refine one32_calls ?_; simp; exact h
  by_cases h14 : op = [62, 61]
  · subst h14; simp at h; simp [pc110, splice]; refine one32_calls ?_; simp; exact h
  · simp [h1, h2, h3, h4, h5, h6, h7, h8, h9, h10, h11, h12, h13, h14] at h
    simp [pc110, splice, h1, h2, h3, h4, h5, h6, h7, h8, h9, h10, h11, h12, h13, h14]
    exact h
set_option maxRecDepth 20000 in
theorem does64_calls {G : Env} {σ : AS} {R : Out → AS → Prop} {op : List UInt8} {a b : Int} (h : R (.ret (.int .i64 (doesW .i64 op a b 64))) σ) : ACalls Tryd.prog G 112 [.str op, .int .i64 a, .int .i64 b, .int .i64 64] σ R := by
  refine calls112 rfl ?_
  unfold doesW at h
  by_cases h1 : op = [43]
  · subst h1; simp at h; simp [pc112, splice]; exact h
  by_cases h2 : op = [45]
  · subst h2; simp at h; simp [pc112, splice]; exact h
  by_cases h3 : op = [42]
  · subst h3; simp at h; simp [pc112, splice]; exact h
  by_cases h4 : op = [38]
  · subst h4; simp at h; simp [pc112, splice]; exact h
  by_cases h5 : op = [124]
  · subst h5; simp at h; simp [pc112, splice]; exact h
  by_cases h6 : op = [94]
  · subst h6; simp at h; simp [pc112, splice]; exact h
  by_cases h7 : op = [60, 60]
  · subst h7; simp at h; simp [pc112, splice, show IntKind.wrap .i64 63 = 63 by decide]; exact ⟨bits2_nonneg _ _ _, h⟩
  by_cases h8 : op = [62, 62]
  · subst h8; simp at h; simp [pc112, splice, show IntKind.wrap .i64 63 = 63 by decide]; exact ⟨bits2_nonneg _ _ _, h⟩
  by_cases h9 : op = [61, 61]
  · subst h9; simp at h; simp [pc112, splice]; refine one64_calls ?_; simp; exact h
  by_cases h10 : op = [33, 61]
  · subst h10; simp at h; simp [pc112, splice]; refine one64_calls ?_; simp; exact h
  by_cases h11 : op = [60]
  · subst h11; simp at h; simp [pc112, splice]; refine one64_calls ?_; simp; exact h
  by_cases h12 : op = [60, 61]
  · subst h12; simp at h; simp [pc112, splice]; refine one64_calls ?_; simp; exact h
  by_cases h13 : op = [62]
  · subst h13; simp at h; simp [pc112, splice]; refine one64_calls ?_; simp; exact h
  by_cases h14 : op = [62, 61]
  · subst h14; simp at h; simp [pc112, splice]; refine one64_calls ?_; simp; exact h
  · simp [h1, h2, h3, h4, h5, h6, h7, h8, h9, h10, h11, h12, h13, h14] at h
    simp [pc112, splice, h1, h2, h3, h4, h5, h6, h7, h8, h9, h10, h11, h12, h13, h14]
    exact h
theorem bin32_calls {G : Env} {σ : AS} {R : Out → AS → Prop} {op : List UInt8} {a b : Int} (h : R (.ret (.tuple [.int .i64 (IntKind.wrap .i64 (binK .i32 op a b 32).1), .int .i64 (binK .i32 op a b 32).2])) σ) : ACalls Tryd.prog G 104 [.str op, .int .i32 a, .int .i32 b, .int .i64 32] σ R := by
  refine calls104 rfl ?_
  unfold binK at h
  by_cases h1 : op = [47]
  · subst h1; simp at h
    simp [pc104, splice]
    refine divide32_calls ?_
    simp; exact h
  by_cases h2 : op = [37]
  · subst h2; simp at h
    simp [pc104, splice]
    refine divide32_calls ?_
    simp; exact h
  · simp [h1, h2] at h
    simp [pc104, splice, h1, h2]
    refine does32_calls ?_
    simp; exact h
theorem bin64_calls {G : Env} {σ : AS} {R : Out → AS → Prop} {op : List UInt8} {a b : Int} (h : R (.ret (.tuple [.int .i64 (binK .i64 op a b 64).1, .int .i64 (binK .i64 op a b 64).2])) σ) : ACalls Tryd.prog G 105 [.str op, .int .i64 a, .int .i64 b, .int .i64 64] σ R := by
  refine calls105 rfl ?_
  unfold binK at h
  by_cases h1 : op = [47]
  · subst h1; simp at h
    simp [pc105, splice]
    refine divide64_calls ?_
    simp; exact h
  by_cases h2 : op = [37]
  · subst h2; simp at h
    simp [pc105, splice]
    refine divide64_calls ?_
    simp; exact h
  · simp [h1, h2] at h
    simp [pc105, splice, h1, h2]
    refine does64_calls ?_
    simp; exact h
theorem bin_calls {G : Env} {σ : AS} {R : Out → AS → Prop} {t : Int} {op : List UInt8} {a b : Int} (h : R (.ret (.tuple [.int .i64 (binW t op a b).1, .int .i64 (binW t op a b).2])) σ) : ACalls Tryd.prog G 93 [.int .i64 t, .str op, .int .i64 a, .int .i64 b] σ R := by
  refine calls93 rfl ?_
  unfold binW at h
  by_cases h1 : t = 1
  · subst h1; simp at h
    simp [pc93, splice]
    refine bin32_calls ?_
    simp
    exact h
  by_cases h2 : t = 2
  · subst h2; simp at h
    simp [pc93, splice]
    refine bin64_calls ?_
    simp; exact h
  · simp [h1, h2] at h
    simp [pc93, splice, h1, h2]
    exact h
end Go.Proofs.YthifgodgfhbnfaaDoor
set_option linter.unusedSimpArgs false
set_option linter.unusedVariables false
namespace Go.Proofs.YthifgodgfhbnfaaDoor
open Go Go.Abs
/-- a list of numbers of one's own -/
def OwnV (σ : AS) (v : AV) (l : List Int) : Prop := (l = [] ∧ v = .nilsl) ∨ ∃ g, v = .sl (.fam g false) 1 (l.map (.int .i64)) ∧ g < σ.nf ∧ σ.F g = .alive
def famL : AV → List Nat
  | .sl (.fam g _) _ _ => [g]
  | _ => []
theorem OwnV.one {σ v l} (h : OwnV σ v l) : v.known = true ∧ v.one = true ∧ v.cells = [v] := by
  rcases h with ⟨_, rfl⟩ | ⟨g, rfl, _⟩ <;> simp
theorem OwnV.len {σ v l} (h : OwnV σ v l) (K : AV → Prop) : alen Tryd.prog 34 v K = K (.int .i64 (l.length : Int)) := by
  rcases h with ⟨rfl, rfl⟩ | ⟨g, rfl, _⟩ <;> simp
/-- it stays where its family and the count of families do -/
theorem OwnV.keep {σ σ' v l} (h : OwnV σ v l) (hn : σ.nf ≤ σ'.nf) (hk : ∀ g ∈ famL v, σ'.F g = σ.F g) : OwnV σ' v l := by
  rcases h with h | ⟨g, rfl, h1, h2⟩
  · exact .inl h
  · exact .inr ⟨g, rfl, by omega, by rw [hk g (by simp [famL])]; exact h2⟩
theorem OwnV.lt {σ v l} (h : OwnV σ v l) : ∀ g ∈ famL v, g < σ.nf := by
  rcases h with ⟨_, rfl⟩ | ⟨g, rfl, h1, _⟩ <;> simp [famL]
  exact h1
/-- a frame's locals: none, or an object -/
def LocV (σ : AS) (L : List Nat) (v : AV) (l : List Int) : Prop := (L = [] ∧ l = [] ∧ (v = .nilsl ∨ ∃ φ, v = .sl φ 1 [])) ∨ ∃ lo, L = [lo] ∧ v = .slm lo 0 1 l.length ∧ σ.objs lo = some (l.map (.int .i64))
theorem LocV.one {σ L v l} (h : LocV σ L v l) : v.known = true ∧ v.one = true ∧ v.cells = [v] := by
  rcases h with ⟨_, _, rfl | ⟨φ, rfl⟩⟩ | ⟨lo, _, rfl, _⟩ <;> simp
theorem LocV.keep {σ σ' L v l} (h : LocV σ L v l) (hk : ∀ o ∈ L, σ'.objs o = σ.objs o) : LocV σ' L v l := by
  rcases h with h | ⟨lo, rfl, rfl, h⟩
  · exact .inl h
  · exact .inr ⟨lo, rfl, rfl, by rw [hk lo (by simp)]; exact h⟩
/-- the machine in a state that was reached from σ0; what stood then stands, but for the machine's objects, the objects D and the families T -/
structure XM (fs : List F) (mm mn : Int) (σ0 : AS) (xo mo : Nat) (D T : List Nat) (x : Mach) (ov : AV) (σ : AS) : Prop where
  no : σ0.no ≤ σ.no
  nf : σ0.nf ≤ σ.nf
  obj : ∀ o, o < σ0.no → o ≠ xo → o ≠ mo → o ∉ D → σ.objs o = σ0.objs o
  fam : ∀ g, g < σ0.nf → g ∉ T → σ.F g = σ0.F g
  xl : xo < σ0.no
  ml : mo < σ0.no
  xm : xo ≠ mo
  dl : ∀ o ∈ D, o < σ.no ∧ o ≠ xo ∧ o ≠ mo
  mach : ∃ fv iv, σ.objs xo = some [fv, .int .i64 mm, .int .i64 mn, iv, .int .i64 x.steps, .slm mo 0 1 x.memory.length, ov, .int .i64 x.calls] ∧ FsV fv fs ∧ IntsV iv x.input
  own : OwnV σ ov x.out
  ownT : ∀ g ∈ famL ov, g ∈ T ∨ σ0.nf ≤ g
  mem : σ.objs mo = some (x.memory.map fun b => .int .u8 b.toNat)
/-- the frame -/
structure XR (σ0 : AS) (fo : Nat) (L T : List Nat) (r : Fr) (sv : AV) (σ : AS) : Prop where
  fr : ∃ pv lv tv cv, σ.objs fo = some [.str r.fn.name, pv, lv, .int .i64 r.fn.type, tv, cv, sv, .int .i64 r.result] ∧ IntsV pv r.fn.params ∧ IntsV lv r.fn.locals ∧ ListsV tv r.fn.lists ∧ LocV σ L cv r.locals
  fl : fo ∉ L
  own : OwnV σ sv r.stack
  ownT : ∀ g ∈ famL sv, g ∈ T ∨ σ0.nf ≤ g
/-- both -/
def XF (fs : List F) (mm mn : Int) (σ0 : AS) (xo mo fo : Nat) (L T : List Nat) (x : Mach) (r : Fr) (σ : AS) : Prop :=
  ∃ ov sv, XM fs mm mn σ0 xo mo (fo :: L) T x ov σ ∧ XR σ0 fo L T r sv σ ∧ ∀ g ∈ famL ov, g ∉ famL sv
/-- what ends a run amid it -/
def overV (s c : Int) : AV := .iface 88 (.agg [.int .i64 s, .int .i64 c])
section
variable {G : Env} {fs : List F} {mm mn : Int} {σ0 σ : AS} {xo mo fo : Nat} {L T : List Nat} {x : Mach} {r : Fr} {R : Out → AS → Prop}
/-- the frame's stack and result are set anew -/
theorem XF.setFr (h : XF fs mm mn σ0 xo mo fo L T x r σ) {pv lv tv cv sv sv' : AV} {st' : List Int} {res' : Int} {σ1 : AS}
    (ho : σ.objs fo = some [.str r.fn.name, pv, lv, .int .i64 r.fn.type, tv, cv, sv, .int .i64 r.result]) (e1 : σ1.objs = σ.objs) (e2 : σ1.no = σ.no) (e3 : σ.nf ≤ σ1.nf) (e4 : ∀ g, g < σ.nf → g ∉ famL sv → σ1.F g = σ.F g)
    (hs : OwnV σ1 sv' st') (hsf : ∀ g ∈ famL sv', g ∈ famL sv ∨ σ.nf ≤ g) :
    XF fs mm mn σ0 xo mo fo L T x { r with stack := st', result := res' } (σ1.setO fo [.str r.fn.name, pv, lv, .int .i64 r.fn.type, tv, cv, sv', .int .i64 res']) := by
  obtain ⟨ov, sv0, hm, hr, hd⟩ := h
  obtain ⟨pv0, lv0, tv0, cv0, ho0, hpv, hlv, htv, hcv⟩ := hr.fr
  rw [ho] at ho0
  simp only [Option.some.injEq, List.cons.injEq] at ho0
  obtain ⟨_, rfl, rfl, _, rfl, rfl, rfl, _, _⟩ := ho0
  have hfd := hm.dl fo (by simp)
  have hltm := hm.xl
  have hltml := hm.ml
  have hno := hm.no
  have hlt := hm.own.lt
  have key : ∀ o, o ≠ fo → (σ1.setO fo [.str r.fn.name, pv, lv, .int .i64 r.fn.type, tv, cv, sv', .int .i64 res']).objs o = σ.objs o := fun o ho => by simp [ho, e1]
  have hof : ∀ g ∈ famL ov, σ1.F g = σ.F g := fun g hg => e4 g (hlt g hg) (hd g hg)
  refine ⟨ov, sv', ⟨by simp [e2]; omega, Nat.le_trans hm.nf e3, fun o h1 h2 h3 h4 => ?_, fun g h1 h2 => ?_, hm.xl, hm.ml, hm.xm, fun o h1 => ?_, ?_, ?_, hm.ownT, ?_⟩, ⟨⟨pv, lv, tv, cv, by simp, hpv, hlv, htv, ?_⟩, hr.fl, hs, fun g hg => ?_⟩, fun g hg => ?_⟩
  · rw [key o (fun e => h4 (by simp [e]))]; exact hm.obj o h1 h2 h3 h4
  · have h3 : g ∉ famL sv := fun hg => by rcases hr.ownT g hg with h | h; exact h2 h; omega
    have := hm.nf
    show σ1.F g = σ0.F g
    rw [e4 g (by omega) h3]; exact hm.fam g h1 h2
  · simpa [e2] using hm.dl o h1
  · obtain ⟨fv, iv, a, b, c⟩ := hm.mach
    exact ⟨fv, iv, by rw [key xo (Ne.symm hfd.2.1)]; exact a, b, c⟩
  · exact hm.own.keep (by simpa using e3) (by simpa using hof)
  · rw [key mo (Ne.symm hfd.2.2)]; exact hm.mem
  · exact hcv.keep fun o ho => key o fun e => hr.fl (e ▸ ho)
  · rcases hsf g hg with h | h
    · exact hr.ownT g h
    · right; have := hm.nf; omega
  · intro h'
    rcases hsf g h' with h | h
    · exact hd g hg h
    · have := hlt g hg; omega
theorem push_calls {v : Int} (h : XF fs mm mn σ0 xo mo fo L T x r σ) (hl : r.stack.length ≤ 2 ^ 40) (hR : ∀ σ', XF fs mm mn σ0 xo mo fo L T x (r.push v) σ' → R (.ret (.tuple [])) σ') : ACalls Tryd.prog G 92 [.ptr fo 0, .int .i64 v] σ R := by
  refine calls92 rfl ?_
  obtain ⟨ov, sv, hm, hr, hd⟩ := h
  obtain ⟨pv, lv, tv, cv, ho, hpv, hlv, htv, hcv⟩ := hr.fr
  have s1 := hr.own.one
  have p1 := hpv.one
  have l1 := hlv.one
  have t1 := htv.one
  have c1 := hcv.one
  have hx : XF fs mm mn σ0 xo mo fo L T x r σ := ⟨ov, sv, hm, hr, hd⟩
  rcases hr.own with ⟨hs, rfl⟩ | ⟨g, rfl, hg1, hg2⟩
  · simp [pc92, ho, splice]
    refine hR _ (hx.setFr ho (by simp) (by simp) (by simp) (fun g h1 _ => by simp; intro h; omega) ?_ ?_)
    · exact .inr ⟨σ.nf, by simp [hs], by simp, by simp⟩
    · simp [famL]
  · simp [pc92, ho, splice, hg2]
    refine ⟨by omega, hR _ (hx.setFr ho (by simp) (by simp) (by simp) (fun k h1 h2 => ?_) ?_ ?_)⟩
    · have : k ≠ g := by simpa [famL] using h2
      simp [this]; intro h; omega
    · exact .inr ⟨σ.nf, by simp, by simp, by simp⟩
    · simp [famL]
theorem pop_calls' {v : Int} (h : XF fs mm mn σ0 xo mo fo L T x r σ) (hl : r.stack.length ≤ 2 ^ 40) (hv : r.stack.getLast? = some v) (hR : ∀ σ', XF fs mm mn σ0 xo mo fo L T x { r with stack := r.stack.dropLast } σ' → (∀ o, o ≠ fo → σ'.objs o = σ.objs o) → R (.ret (.int .i64 v)) σ') : ACalls Tryd.prog G 68 [.ptr fo 0] σ R := by
  refine calls68 rfl ?_
  obtain ⟨ov, sv, hm, hr, hd⟩ := h
  obtain ⟨pv, lv, tv, cv, ho, hpv, hlv, htv, hcv⟩ := hr.fr
  have s1 := hr.own.one
  have p1 := hpv.one
  have l1 := hlv.one
  have t1 := htv.one
  have c1 := hcv.one
  have hx : XF fs mm mn σ0 xo mo fo L T x r σ := ⟨ov, sv, hm, hr, hd⟩
  rcases hr.own with ⟨hs, rfl⟩ | ⟨g, rfl, hg1, hg2⟩
  · rw [hs] at hv; simp at hv
  · have hne : r.stack ≠ [] := by rintro e; rw [e] at hv; simp at hv
    have hpos : 0 < r.stack.length := List.length_pos_iff.2 hne
    have w1 : IntKind.wrap .i64 ((r.stack.length : Int) - 1) = ((r.stack.length - 1 : Nat) : Int) := by rw [wrap_i64] <;> omega
    have hix : (r.stack.map (AV.int .i64))[r.stack.length - 1]? = some (.int .i64 v) := by
      rw [List.getLast?_eq_getElem?] at hv
      simp [hv]
    have e : List.take (r.stack.length - 1) (r.stack.map (AV.int .i64)) = r.stack.dropLast.map (AV.int .i64) := by rw [← List.map_take, List.dropLast_eq_take]
    simp [pc68, ho, splice, hg2, w1, hix, e]
    exact hR _ (hx.setFr (σ1 := σ) ho rfl rfl (Nat.le_refl _) (fun _ _ _ => rfl) (.inr ⟨g, by simp, hg1, hg2⟩) (fun k hk => .inl hk)) fun o h => by simp [h]
theorem pop_calls {v : Int} (h : XF fs mm mn σ0 xo mo fo L T x r σ) (hl : r.stack.length ≤ 2 ^ 40) (hv : r.stack.getLast? = some v) (hR : ∀ σ', XF fs mm mn σ0 xo mo fo L T x { r with stack := r.stack.dropLast } σ' → R (.ret (.int .i64 v)) σ') : ACalls Tryd.prog G 68 [.ptr fo 0] σ R :=
  pop_calls' h hl hv fun σ' hx _ => hR σ' hx
/-- the machine's out-list, steps, calls, input are set anew -/
theorem XF.setX (h : XF fs mm mn σ0 xo mo fo L T x r σ) {fv iv ov iv' ov' : AV} {inp out : List Int} {steps calls : Int} {σ1 : AS}
    (ho : σ.objs xo = some [fv, .int .i64 mm, .int .i64 mn, iv, .int .i64 x.steps, .slm mo 0 1 x.memory.length, ov, .int .i64 x.calls]) (e1 : σ1.objs = σ.objs) (e2 : σ1.no = σ.no) (e3 : σ.nf ≤ σ1.nf) (e4 : ∀ g, g < σ.nf → g ∉ famL ov → σ1.F g = σ.F g)
    (hi : IntsV iv' inp) (hs : OwnV σ1 ov' out) (hsf : ∀ g ∈ famL ov', g ∈ famL ov ∨ σ.nf ≤ g) :
    XF fs mm mn σ0 xo mo fo L T { x with input := inp, out := out, steps := steps, calls := calls } r (σ1.setO xo [fv, .int .i64 mm, .int .i64 mn, iv', .int .i64 steps, .slm mo 0 1 x.memory.length, ov', .int .i64 calls]) := by
  obtain ⟨ov0, sv, hm, hr, hd⟩ := h
  obtain ⟨fv0, iv0, ho0, hfv, hiv⟩ := hm.mach
  rw [ho] at ho0
  simp only [Option.some.injEq, List.cons.injEq] at ho0
  obtain ⟨rfl, _, _, rfl, _, _, rfl, _⟩ := ho0
  have hfd := hm.dl fo (by simp)
  have hltm := hm.xl
  have hltml := hm.ml
  have hno := hm.no
  have hlt := hr.own.lt
  have key : ∀ o, o ≠ xo → (σ1.setO xo [fv, .int .i64 mm, .int .i64 mn, iv', .int .i64 steps, .slm mo 0 1 x.memory.length, ov', .int .i64 calls]).objs o = σ.objs o := fun o ho => by simp [ho, e1]
  have hof : ∀ g ∈ famL sv, σ1.F g = σ.F g := fun g hg => e4 g (hlt g hg) (fun h => hd g h hg)
  refine ⟨ov', sv, ⟨by simp [e2]; omega, Nat.le_trans hm.nf e3, fun o h1 h2 h3 h4 => ?_, fun g h1 h2 => ?_, hm.xl, hm.ml, hm.xm, fun o h1 => ?_, ?_, hs, fun g hg => ?_, ?_⟩, ⟨?_, hr.fl, ?_, hr.ownT⟩, fun g hg h' => ?_⟩
  · rw [key o h2]; exact hm.obj o h1 h2 h3 h4
  · have h3 : g ∉ famL ov := fun hg => by rcases hm.ownT g hg with h | h; exact h2 h; omega
    have := hm.nf
    show σ1.F g = σ0.F g
    rw [e4 g (by omega) h3]; exact hm.fam g h1 h2
  · simpa [e2] using hm.dl o h1
  · exact ⟨fv, iv', by simp, hfv, hi⟩
  · rcases hsf g hg with h | h
    · exact hm.ownT g h
    · right; have := hm.nf; omega
  · rw [key mo (Ne.symm hm.xm)]; exact hm.mem
  · obtain ⟨pv, lv, tv, cv, a, b, c, d, e⟩ := hr.fr
    exact ⟨pv, lv, tv, cv, by rw [key fo hfd.2.1]; exact a, b, c, d, e.keep fun o ho => key o (hm.dl o (by simp [ho])).2.1⟩
  · exact hr.own.keep (by simpa using e3) (by simpa using hof)
  · rcases hsf g hg with h | h
    · exact hd g h h'
    · have := hlt g h'; omega
theorem trap_calls {t : Int} (h0 : t = 0 → R (.ret (.tuple [])) σ) (h1 : t ≠ 0 → R (.panic (overV 2 t)) σ) : ACalls Tryd.prog G 66 [.int .i64 t] σ R := by
  refine calls66 rfl ?_
  by_cases h : t = 0
  · simp [pc66, splice, h]; exact h0 h
  · simp [pc66, splice, h]; exact h1 h
theorem next_calls (h : XF fs mm mn σ0 xo mo fo L T x r σ) (hl : x.input.length ≤ 2 ^ 40) (hR : ∀ σ', (match x.input with | [] => XF fs mm mn σ0 xo mo fo L T x r σ' | _ :: l => XF fs mm mn σ0 xo mo fo L T { x with input := l } r σ') → R (.ret (.int .i64 (x.input.headD 0))) σ') : ACalls Tryd.prog G 106 [.ptr xo 0] σ R := by
  refine calls106 rfl ?_
  have hx := h
  obtain ⟨ov, sv, hm, hr, hd⟩ := h
  obtain ⟨fv, iv, ho, hfv, hiv⟩ := hm.mach
  have i1 := hiv.one
  have i2 := hiv.len
  have f1 := hfv.one
  have o1 := hm.own.one
  cases hin : x.input with
  | nil =>
    rw [hin] at hR i2
    simp [pc106, ho, splice, i2]
    exact hR _ hx
  | cons v l =>
    rw [hin] at hR i2 hiv
    rcases hiv with ⟨hh, _⟩ | ⟨b, rfl⟩
    · cases hh
    · have hne : ¬ ((l.length : Int) + 1 = 0) := by omega
      have ht : List.take l.length (l.map (AV.int .i64)) = l.map (AV.int .i64) := List.take_of_length_le (by simp)
      simp [pc106, ho, splice, hne, ht]
      exact ⟨by omega, hR _ (hx.setX (σ1 := σ) ho rfl rfl (Nat.le_refl _) (fun _ _ _ => rfl) (.inr ⟨_, rfl⟩) hm.own fun k hk => .inl hk)⟩
theorem cell_calls {at_ n : Int} (h : XF fs mm mn σ0 xo mo fo L T x r σ) (hn : 1 ≤ n ∧ n ≤ 8) (hml : x.memory.length ≤ 2 ^ 40) (hR : (at_ < 0 ∨ (x.memory.length : Int) - n < at_) → R (.panic (overV 2 3)) σ)
    (hR' : ¬ (at_ < 0 ∨ (x.memory.length : Int) - n < at_) → R (.ret (.slm mo at_.toNat 1 n.toNat)) σ) : ACalls Tryd.prog G 97 [.ptr xo 0, .int .i64 at_, .int .i64 n] σ R := by
  refine calls97 rfl ?_
  obtain ⟨ov, sv, hm, hr, hd⟩ := h
  obtain ⟨fv, iv, ho, hfv, hiv⟩ := hm.mach
  have i1 := hiv.one
  have f1 := hfv.one
  have o1 := hm.own.one
  have w1 : IntKind.wrap .i64 ((x.memory.length : Int) - n) = (x.memory.length : Int) - n := by rw [wrap_i64] <;> omega
  by_cases h1 : at_ < 0
  · simp [pc97, ho, splice, h1]
    refine trap_calls (fun h => by omega) fun _ => ?_
    simp
    exact hR (.inl h1)
  · by_cases h2 : (x.memory.length : Int) - n < at_
    · simp [pc97, ho, splice, h1, w1, h2]
      refine trap_calls (fun h => by omega) fun _ => ?_
      simp
      exact hR (.inr h2)
    · have w2 : IntKind.wrap .i64 (at_ + n) = at_ + n := by rw [wrap_i64] <;> omega
      simp [pc97, ho, splice, h1, w1, h2, w2]
      refine ⟨by omega, by omega, by omega, by omega, ?_⟩
      rw [show (at_ + n).toNat - at_.toNat = n.toNat by omega]
      exact hR' (by omega)
end
end Go.Proofs.YthifgodgfhbnfaaDoor
set_option linter.unusedSimpArgs false
set_option linter.unusedVariables false
namespace Go.Proofs.YthifgodgfhbnfaaDoor
open Go Go.Abs
theorem numOf_lt : ∀ (l : List UInt8), 0 ≤ numOf l ∧ numOf l < 256 ^ l.length
  | [] => by simp [numOf]
  | c :: l => by
    obtain ⟨h1, h2⟩ := numOf_lt l
    have hc := c.toNat_lt
    simp only [numOf, List.length_cons]
    rw [Int.pow_succ]
    omega
theorem numOf_snoc : ∀ (l : List UInt8) (c : UInt8), numOf (l ++ [c]) = numOf l + 256 ^ l.length * (c.toNat : Int)
  | [], c => by simp [numOf]
  | d :: l, c => by
    simp only [List.cons_append, numOf, numOf_snoc l c, List.length_cons]
    rw [Int.pow_succ, Int.mul_add, Int.mul_comm (256 ^ l.length) 256, Int.mul_assoc]; omega
/-- a byte's bits above a number's -/
theorem or_add {a b k : Nat} (ha : a < 2 ^ k) : a ||| (b * 2 ^ k) = a + b * 2 ^ k := by
  rw [Nat.add_comm, Nat.mul_comm, Nat.or_comm]
  exact (Nat.two_pow_add_eq_or_of_lt ha b).symm
theorem bits2_or {a c : Int} {k : Nat} {n : Nat} (h0 : 0 ≤ a) (ha : a < 2 ^ k) (hc : 0 ≤ c) (hc2 : c < 256) (hk : k + 8 ≤ 64) : bits2 .u64 (· ||| ·) a (IntKind.u64.wrap (c * 2 ^ k)) = a + 2 ^ k * c := by
  obtain ⟨a, rfl⟩ := Int.eq_ofNat_of_zero_le h0
  obtain ⟨c, rfl⟩ := Int.eq_ofNat_of_zero_le hc
  have hp : (2 : Nat) ^ (k + 8) ≤ 2 ^ 64 := Nat.pow_le_pow_right (by omega) hk
  have ha' : a < 2 ^ k := by exact_mod_cast ha
  have hb : c * 2 ^ k < 2 ^ 64 := by
    have h1 : c * 2 ^ k < 256 * 2 ^ k := Nat.mul_lt_mul_of_pos_right (by omega) (Nat.two_pow_pos k)
    rw [Nat.pow_add] at hp
    omega
  have hak : a < 2 ^ 64 := by
    have : (2 : Nat) ^ k ≤ 2 ^ 64 := Nat.pow_le_pow_right (by omega) (by omega)
    omega
  have hab : a + c * 2 ^ k < 2 ^ 64 := by
    rw [Nat.pow_add] at hp
    have h1 : c * 2 ^ k ≤ 255 * 2 ^ k := Nat.mul_le_mul_right _ (by omega)
    omega
  have wn : ∀ z : Nat, z < 2 ^ 64 → IntKind.u64.wrap (z : Int) = (z : Int) := fun z hz => by
    simp [IntKind.wrap, IntKind.bits, IntKind.signed]; omega
  have e1 : IntKind.u64.wrap ((c : Int) * 2 ^ k) = ((c * 2 ^ k : Nat) : Int) := by
    rw [← wn _ hb]; congr 1
  rw [e1]
  unfold bits2
  have e2 : ∀ z : Nat, z < 2 ^ 64 → (BitVec.ofInt IntKind.u64.bits (z : Int)).toNat = z := fun z hz => by
    rw [BitVec.ofInt_natCast, BitVec.toNat_ofNat]; exact Nat.mod_eq_of_lt hz
  rw [BitVec.toNat_or, e2 a hak, e2 _ hb, or_add ha', wn _ hab]
  push_cast
  rw [Int.mul_comm (2 ^ k)]
theorem shift_load {z : Int} {n : Nat} (h1 : 1 ≤ n) (h8 : n ≤ 8) (h0 : 0 ≤ z) (hz : z < 256 ^ n) :
    (IntKind.i64.wrap (IntKind.u64.wrap (z * 2 ^ (min (64 - 8 * n) 64)))).fdiv (2 ^ (min (64 - 8 * n) 64)) = if z < 2 ^ (8 * n - 1) then z else z - 2 ^ (8 * n) := by
  have hn : n = 1 ∨ n = 2 ∨ n = 3 ∨ n = 4 ∨ n = 5 ∨ n = 6 ∨ n = 7 ∨ n = 8 := by omega
  rw [Int.fdiv_eq_ediv_of_nonneg _ (Int.pow_nonneg (by omega))]
  rcases hn with rfl | rfl | rfl | rfl | rfl | rfl | rfl | rfl <;> simp [IntKind.wrap, IntKind.bits, IntKind.signed] at hz ⊢ <;> split <;> split <;> omega
def LDI (mo at_ n : Nat) (l : List UInt8) (σ : AS) (a : Nat → AV) (τ : AS) : Prop := ∃ i : Nat, i ≤ n ∧ a 0 = .slm mo at_ 1 n ∧ a 7 = .slm mo at_ 1 n ∧ a 8 = .int .i64 (n : Int) ∧ a 9 = .int .i64 (i : Int) ∧ a 3 = .int .u64 (numOf (l.take i)) ∧ τ = σ
theorem load_calls {G : Env} {σ : AS} {R : Out → AS → Prop} {mo at_ n : Nat} {mem : List UInt8} (ho : σ.objs mo = some (mem.map fun b => .int .u8 b.toNat)) (h1 : 1 ≤ n) (h8 : n ≤ 8) (hl : at_ + n ≤ mem.length) (hR : R (.ret (.int .i64 (loadW ((mem.drop at_).take n)))) σ) :
    ACalls Tryd.prog G 96 [.slm mo at_ 1 n] σ R := by
  refine calls96 rfl ?_
  generalize hle : (mem.drop at_).take n = l at *
  have hll : l.length = n := by rw [← hle]; simp; omega
  simp [pc96]
  refine aloop (LDI mo at_ n l σ) (MU 9 (n + 1)) ⟨0, by omega, by simp, by simp, by simp, by simp, by simp [numOf], rfl⟩ fun a τ hI => ?_
  obtain ⟨i, hi, a0, a7, a8, a9, a3, rfl⟩ := hI
  by_cases hlt : i < n
  · have hil : i < l.length := by omega
    have hm : mem[at_ + i]? = some l[i] := by
      rw [← List.getElem?_eq_getElem hil, ← hle, List.getElem?_take, List.getElem?_drop, if_pos hlt]
    have hc := l[i].toNat_lt
    have w1 : IntKind.wrap .i64 (8 * (i : Int)) = 8 * (i : Int) := by rw [wrap_i64] <;> omega
    have w2 : IntKind.wrap .i64 ((i : Int) + 1) = ((i + 1 : Nat) : Int) := by rw [wrap_i64] <;> omega
    have w3 : IntKind.wrap .u64 (l[i].toNat : Int) = (l[i].toNat : Int) := by simp [IntKind.wrap, IntKind.bits, IntKind.signed]; omega
    obtain ⟨q1, q2⟩ := numOf_lt (l.take i)
    have hti : (l.take i).length = i := by simp; omega
    have w4 := bits2_or (a := numOf (l.take i)) (c := (l[i].toNat : Int)) (k := 8 * i) (n := 0) q1 (by rw [hti] at q2; rw [Int.pow_mul]; exact q2) (by omega) (by omega) (by omega)
    have w5 : numOf (l.take (i + 1)) = numOf (l.take i) + 2 ^ (8 * i) * (l[i].toNat : Int) := by
      rw [List.take_succ_eq_append_getElem hil, numOf_snoc, hti, Int.pow_mul]; rfl
    have w6 : min (8 * (i : Int)).toNat IntKind.u64.bits = 8 * i := by simp [IntKind.bits]; omega
    simp [pc96_l1, a0, a7, a8, a9, a3, hlt, ho, hm, w1, w2, w3, w6]
    refine ⟨by omega, ⟨i + 1, by omega, by simp [a0], by simp [a7], by simp [a8], by simp, ?_, rfl⟩, ?_⟩
    · simp [w4, w5]
    · simp only [MU, a9]; simp; omega
  · have e : i = n := by omega
    subst e
    rw [List.take_of_length_le (by omega)] at a3
    obtain ⟨q1, q2⟩ := numOf_lt l
    have w1 : IntKind.wrap .i64 (8 * (i : Int)) = 8 * (i : Int) := by rw [wrap_i64] <;> omega
    have w2 : IntKind.wrap .i64 (64 - 8 * (i : Int)) = ((64 - 8 * i : Nat) : Int) := by rw [wrap_i64] <;> omega
    have w3 := shift_load h1 h8 q1 (by rw [hll] at q2; exact q2)
    simp [pc96_l1, pc96_r1, a0, a7, a8, a9, a3, w1, w2]
    unfold loadW at hR
    rw [hll, ← w3] at hR
    exact hR
end Go.Proofs.YthifgodgfhbnfaaDoor
set_option linter.unusedSimpArgs false
set_option linter.unusedVariables false
namespace Go.Proofs.YthifgodgfhbnfaaDoor
open Go Go.Abs
/-- a function whose lists are no longer than memory allows, and whose numbers are Go's -/
structure OkF (f : F) : Prop where
  params : f.params.length ≤ 2 ^ 38
  locals : f.locals.length ≤ 2 ^ 38
  lists : f.lists.length ≤ 2 ^ 38
  rows : ∀ l ∈ f.lists, l.length ≤ 2 ^ 38
  nums : ∀ l ∈ f.lists, ∀ w ∈ l, w.n ≤ 2 ^ 63 - 1
/-- what a run holds is no longer than N -/
structure Bd (N : Nat) (x : Mach) (r : Fr) : Prop where
  n : N ≤ 2 ^ 38
  stack : (r.stack.length : Int) + max x.steps 0 ≤ N
  out : (x.out.length : Int) + max x.steps 0 ≤ N
  fn : OkF r.fn
  calls : 0 ≤ x.calls ∧ x.calls ≤ 32
  mem : x.memory.length ≤ 2 ^ 38
  inp : x.input.length ≤ 2 ^ 38
/-- one behind another -/
structure Aft (N : Nat) (x : Mach) (r : Fr) (x' : Mach) (r' : Fr) : Prop where
  bd : Bd N x' r'
  steps : x'.steps ≤ x.steps
  calls : x'.calls = x.calls
  fn : r'.fn = r.fn
theorem Aft.trans {N x r x' r' x'' r''} (h : Aft N x r x' r') (k : Aft N x' r' x'' r'') : Aft N x r x'' r'' := ⟨k.bd, Int.le_trans k.steps h.steps, k.calls.trans h.calls, k.fn.trans h.fn⟩
def RBd (N : Nat) (D : Int) (rec : RunR) : Prop := ∀ x r at_ deep o x' r', Bd N x r → deep ≤ D → rec x r at_ deep = .ok o x' r' → Aft N x r x' r' ∧ o ≤ 2 ^ 63 - 1
theorem popK_eq {α : Type} {r : Fr} {k : Int → Fr → Ev α} {e : Ev α} (h : popK r k = e) (hb : e ≠ .bad) : ∃ v, r.stack.getLast? = some v ∧ k v { r with stack := r.stack.dropLast } = e := by
  unfold popK at h
  cases hg : r.stack.getLast? with
  | none => rw [hg] at h; exact absurd h.symm hb
  | some v => rw [hg] at h; exact ⟨v, rfl, h⟩
/-- there is room for one more -/
structure B1 (N : Nat) (x : Mach) (r : Fr) : Prop where
  bd : Bd N x r
  st : (r.stack.length : Int) + max x.steps 0 + 1 ≤ N
  ou : (x.out.length : Int) + max x.steps 0 + 1 ≤ N
theorem Bd.one {N x r} (h : Bd N x r) (hs : 1 ≤ x.steps) : B1 N { x with steps := x.steps - 1 } r := by
  obtain ⟨a, b, c, d, e, f, g⟩ := h
  exact ⟨⟨a, by simp only; omega, by simp only; omega, d, e, f, g⟩, by simp only; omega, by simp only; omega⟩
theorem B1.stack {N x r} (h : B1 N x r) {st : List Int} {loc : List Int} {res : Int} (hs : st.length ≤ r.stack.length) : B1 N x { r with stack := st, locals := loc, result := res } := by
  obtain ⟨⟨a, b, c, d, e, f, g⟩, k, m⟩ := h
  exact ⟨⟨a, by simp only; omega, c, d, e, f, g⟩, by simp only; omega, m⟩
theorem Bd.stackLe {N x r} (h : Bd N x r) {st : List Int} {loc : List Int} {res : Int} (hs : st.length ≤ r.stack.length) : Bd N x { r with stack := st, locals := loc, result := res } := by
  obtain ⟨a, b, c, d, e, f, g⟩ := h
  exact ⟨a, by simp only; omega, c, d, e, f, g⟩
theorem B1.aft {N x r} (h : B1 N x r) {st : List Int} {loc : List Int} {res : Int} (hs : st.length ≤ r.stack.length + 1) : Aft N x r x { r with stack := st, locals := loc, result := res } := by
  obtain ⟨⟨a, b, c, d, e, f, g⟩, k, m⟩ := h
  exact ⟨⟨a, by simp only; omega, c, d, e, f, g⟩, Int.le_refl _, rfl, rfl⟩
theorem Bd.aft {N x r} (h : Bd N x r) {st : List Int} {loc : List Int} {res : Int} (hs : st.length ≤ r.stack.length) : Aft N x r x { r with stack := st, locals := loc, result := res } := by
  obtain ⟨a, b, c, d, e, f, g⟩ := h
  exact ⟨⟨a, by simp only; omega, c, d, e, f, g⟩, Int.le_refl _, rfl, rfl⟩
def OkFs (fs : List F) : Prop := ∀ f ∈ fs, OkF f
theorem call_bd {N : Nat} {D : Int} {rec : RunR} {fs : List F} (hr : RBd N D rec) (hf : OkFs fs) (hD : 0 ≤ D) {x : Mach} {r : Fr} (hb : Bd N x r) {g : F} (hg : g ∈ fs) {args : List Int} {v : Int} {x' : Mach} {r' : Fr} (h : callW rec x g args r = .ok v x' r') :
    r' = r ∧ Aft N x r x' r := by
  unfold callW at h
  split at h
  · cases h
  rename_i hc
  obtain ⟨a, b, c, d, e, f, k⟩ := hb
  have hb' : Bd N { x with calls := x.calls + 1 } ⟨g, args ++ List.replicate g.locals.length 0, [], 0⟩ := ⟨a, by simp only [List.length_nil]; omega, c, hf g hg, by simp only; omega, f, k⟩
  have fin : ∀ {x1 : Mach} {f1 : Fr}, Aft N { x with calls := x.calls + 1 } ⟨g, args ++ List.replicate g.locals.length 0, [], 0⟩ x1 f1 → Aft N x r { x1 with calls := x1.calls - 1 } r := fun {x1 f1} ha => by
    obtain ⟨⟨a', b', c', d', e', f', k'⟩, s1, s2, s3⟩ := ha
    simp only at s1 s2
    exact ⟨⟨a, by simp only; omega, c', d, by simp only; omega, f', k'⟩, s1, by simp only; omega, rfl⟩
  split at h
  · cases h
  · cases h
  · rename_i o x1 f1 hq
    have ha := (hr _ _ _ _ _ _ _ hb' hD hq).1
    split at h
    · obtain ⟨v1, _, h⟩ := popK_eq h (by simp)
      cases h
      exact ⟨rfl, fin ha⟩
    · cases h
      exact ⟨rfl, fin ha⟩
theorem writeW_length {mem : List UInt8} {at_ n : Nat} {v : Int} (h : at_ + n ≤ mem.length) : (writeW mem at_ v n).length = mem.length := by
  simp [writeW]; omega
theorem drop_len {l : List Int} {v : Int} (hv : l.getLast? = some v) : l.dropLast.length + 1 = l.length := by
  have : l ≠ [] := by rintro rfl; simp at hv
  have := List.length_pos_iff.2 this
  simp; omega
theorem calling_bd {N : Nat} {D : Int} {rec : RunR} {fs : List F} (hr : RBd N D rec) (hf : OkFs fs) (hD : 0 ≤ D) {n : Int} {x : Mach} {r : Fr} (hb : B1 N x r) {u : Unit} {x' : Mach} {r' : Fr} (h : callingW fs rec x r n = .ok u x' r') : Aft N x r x' r' := by
  unfold callingW at h
  split at h
  · split at h
    · cases h; exact hb.aft (by simp [Fr.push])
    · rename_i v l hi
      cases h
      obtain ⟨a, b, c, d⟩ := hb.aft (st := r.stack ++ [v]) (loc := r.locals) (res := r.result) (by simp)
      obtain ⟨a1, a2, a3, a4, a5, a6, a7⟩ := a
      rw [hi, List.length_cons] at a7
      exact ⟨⟨a1, a2, a3, a4, a5, a6, by simp only; omega⟩, b, c, d⟩
  split at h
  · obtain ⟨v, hv, h⟩ := popK_eq h (by simp)
    have h1 := drop_len hv
    cases h
    obtain ⟨⟨a, b, c, d, e, f, g⟩, k, m⟩ := hb
    refine ⟨⟨a, ?_, ?_, d, e, f, g⟩, Int.le_refl _, rfl, rfl⟩
    · simp only; omega
    · simp only [List.length_append, List.length_singleton]; omega
  split at h
  · obtain ⟨v, hv, h⟩ := popK_eq h (by simp)
    cases h
  split at h
  · cases h
  split at h
  · cases h
  rename_i g hg
  split at h
  · cases h
  have hgm : g ∈ fs := List.mem_of_getElem? hg
  split at h
  · cases h
  · cases h
  · rename_i v x1 r1 hq
    have hb2 : B1 N x { r with stack := r.stack.take (r.stack.length - g.params.length) } := hb.stack (by simp)
    obtain ⟨rfl, ha⟩ := call_bd hr hf hD hb2.bd hgm hq
    cases h
    obtain ⟨⟨a, b, c, d, e, f, k⟩, s1, s2, s3⟩ := ha
    have h3 := hb.st
    refine ⟨⟨a, ?_, c, ?_, e, f, k⟩, s1, s2, ?_⟩
    · split <;> simp only [Fr.push, List.length_append, List.length_singleton, List.length_take] at b ⊢ <;> omega
    · split <;> exact d
    · split <;> rfl
set_option maxHeartbeats 2000000 in
theorem plain_bd {N : Nat} {D : Int} {rec : RunR} {fs : List F} (hr : RBd N D rec) (hf : OkFs fs) (hD : 0 ≤ D) {w : W} {x : Mach} {r : Fr} (hb : B1 N x r) {u : Unit} {x' : Mach} {r' : Fr} (h : plainW fs rec w x r = .ok u x' r') : Aft N x r x' r' := by
  unfold plainW at h
  split at h
  · cases h; exact hb.aft (by simp)
  split at h
  · split at h
    · cases h
    · split at h
      · cases h
      · cases h; exact hb.aft (by simp)
  split at h
  · split at h
    · cases h
    · obtain ⟨v, hv, h⟩ := popK_eq h (by simp)
      cases h; exact hb.aft (by simp; omega)
  split at h
  · obtain ⟨v, hv, h⟩ := popK_eq h (by simp)
    obtain ⟨v2, hv2, h⟩ := popK_eq h (by simp)
    have h1 := drop_len hv
    have h2 := drop_len hv2
    simp only at h2
    split at h
    · cases h
    · cases h; exact hb.aft (by simp only [Fr.push, List.length_append, List.length_singleton]; omega)
  split at h
  · obtain ⟨v, hv, h⟩ := popK_eq h (by simp)
    have h1 := drop_len hv
    cases h; exact hb.aft (by simp only [Fr.push, List.length_append, List.length_singleton]; omega)
  split at h
  · obtain ⟨v, hv, h⟩ := popK_eq h (by simp)
    have h1 := drop_len hv
    cases h; exact hb.aft (by simp only [Fr.push, List.length_append, List.length_singleton]; omega)
  split at h
  · obtain ⟨v, hv, h⟩ := popK_eq h (by simp)
    have h1 := drop_len hv
    unfold cellK at h
    split at h
    · cases h
    split at h
    · cases h
    · cases h; exact hb.aft (by simp only [Fr.push, List.length_append, List.length_singleton]; omega)
  split at h
  · obtain ⟨v, hv, h⟩ := popK_eq h (by simp)
    obtain ⟨v2, hv2, h⟩ := popK_eq h (by simp)
    have h1 := drop_len hv
    have h2 := drop_len hv2
    simp only at h2
    unfold cellK at h
    split at h
    · cases h
    split at h
    · cases h
    · rename_i n1 n2
      cases h
      obtain ⟨a, b, c, d⟩ := hb.aft (st := r.stack.dropLast.dropLast) (loc := r.locals) (res := r.result) (by omega)
      obtain ⟨a1, a2, a3, a4, a5, a6, a7⟩ := a
      refine ⟨⟨a1, a2, a3, a4, a5, ?_, a7⟩, b, c, d⟩
      simp only
      rw [writeW_length]
      · exact a6
      · simp; omega
  split at h
  · exact calling_bd hr hf hD hb h
  split at h
  · cases h
  split at h
  · obtain ⟨v, hv, h⟩ := popK_eq h (by simp)
    cases h; exact hb.aft (by simp; omega)
  · cases h; exact hb.aft (by simp)
end Go.Proofs.YthifgodgfhbnfaaDoor
set_option linter.unusedSimpArgs false
set_option linter.unusedVariables false
namespace Go.Proofs.YthifgodgfhbnfaaDoor
open Go Go.Abs
theorem Bd.refl {N x r} (h : Bd N x r) : Aft N x r x r := ⟨h, Int.le_refl _, rfl, rfl⟩
theorem out_bd {N : Nat} {w : W} (hw : w.n ≤ 2 ^ 63 - 1) {deep : Int} (hd : deep ≤ 2 ^ 62) {x : Mach} {r : Fr} (hb : Bd N x r) {o : Int} {x' : Mach} {r' : Fr} (h : outW w deep x r = .ok o x' r') : Aft N x r x' r' ∧ o ≤ 2 ^ 63 - 1 := by
  have go : ∀ {n : Int} {r1 : Fr}, n ≤ 2 ^ 63 - 1 → Aft N x r x r1 → (if n = deep ∧ r1.fn.type ≠ 0 then popK r1 fun v r => Ev.ok n x { r with result := v } else .ok n x r1) = .ok o x' r' → Aft N x r x' r' ∧ o ≤ 2 ^ 63 - 1 := fun {n r1} hn ha h => by
    split at h
    · obtain ⟨v, hv, h⟩ := popK_eq h (by simp)
      have := drop_len hv
      cases h
      exact ⟨ha.trans (ha.bd.aft (st := r1.stack.dropLast) (loc := r1.locals) (res := v) (by omega)), hn⟩
    · cases h; exact ⟨ha, hn⟩
  unfold outW at h
  dsimp only at h
  split at h
  · exact go (by omega) hb.refl h
  split at h
  · obtain ⟨v, hv, h⟩ := popK_eq h (by simp)
    have h1 := drop_len hv
    have ha : Aft N x r x { r with stack := r.stack.dropLast } := hb.aft (by omega)
    split at h
    · cases h; exact ⟨ha, by omega⟩
    · exact go hw ha h
  · exact go hw hb.refl h
theorem loopA_bd {N : Nat} {D : Int} {rec : RunR} (hr : RBd N D rec) {isLoop : Bool} {at_ deep : Int} (hd : deep ≤ D) : ∀ (j : Nat) {x : Mach} {r : Fr}, Bd N x r → ∀ {o : Int} {x' : Mach} {r' : Fr}, loopA rec isLoop at_ deep j x r = .ok o x' r' → Aft N x r x' r' ∧ o ≤ 2 ^ 63 - 1
  | 0, x, r, hb, o, x', r', h => by cases h
  | j + 1, x, r, hb, o, x', r', h => by
    rw [loopA] at h
    split at h
    · cases h
    · cases h
    · rename_i o1 x1 r1 hq
      obtain ⟨ha, ho⟩ := hr _ _ _ _ _ _ _ hb hd hq
      split at h
      · obtain ⟨h1, h2⟩ := loopA_bd hr hd j ha.bd h
        exact ⟨ha.trans h1, h2⟩
      · cases h
        exact ⟨ha, by split <;> omega⟩
theorem around_bd {N : Nat} {D : Int} {rec : RunR} (hr : RBd N D rec) {k : Nat} {w : W} {deep : Int} (hd : deep ≤ D) {x : Mach} {r : Fr} (hb : Bd N x r) {o : Int} {x' : Mach} {r' : Fr} (h : aroundW rec k w deep x r = .ok o x' r') : Aft N x r x' r' ∧ o ≤ 2 ^ 63 - 1 := by
  have go : ∀ {at_ : Int} {r1 : Fr}, Aft N x r x r1 → (if at_ < 0 then Ev.ok (-1) x r1 else loopA rec (decide (w.op = 12)) at_ deep k x r1) = .ok o x' r' → Aft N x r x' r' ∧ o ≤ 2 ^ 63 - 1 := fun {at_ r1} ha h => by
    split at h
    · cases h; exact ⟨ha, by omega⟩
    · obtain ⟨h1, h2⟩ := loopA_bd hr hd k ha.bd h
      exact ⟨ha.trans h1, h2⟩
  unfold aroundW at h
  simp only at h
  split at h
  · obtain ⟨v, hv, h⟩ := popK_eq h (by simp)
    have h1 := drop_len hv
    exact go (hb.aft (by omega)) h
  · exact go hb.refl h
theorem exec_bd {N : Nat} {D : Int} {rec : RunR} {fs : List F} (hr : RBd N D rec) (hf : OkFs fs) (hD : 0 ≤ D) (hD2 : D ≤ 2 ^ 62) {k : Nat} {w : W} (hw : w.n ≤ 2 ^ 63 - 1) {deep : Int} (hd : deep + 1 ≤ D) {x : Mach} {r : Fr} (hb : B1 N x r) {o : Int} {x' : Mach} {r' : Fr} (h : execW fs rec k deep w x r = .ok o x' r') :
    Aft N x r x' r' ∧ o ≤ 2 ^ 63 - 1 := by
  unfold execW at h
  split at h
  · exact around_bd hr hd hb.bd h
  split at h
  · exact out_bd hw (by omega) hb.bd h
  split at h
  · cases h
  · cases h
  · rename_i u x1 r1 hq
    cases h
    exact ⟨plain_bd hr hf hD hb hq, by omega⟩
theorem instrs_bd {N : Nat} {D : Int} {rec : RunR} {fs : List F} (hr : RBd N D rec) (hf : OkFs fs) (hD : 0 ≤ D) (hD2 : D ≤ 2 ^ 62) {k : Nat} {deep : Int} (hd : deep + 1 ≤ D) {height : Nat} : ∀ (ws : List W), (∀ w ∈ ws, w.n ≤ 2 ^ 63 - 1) → ∀ {x : Mach} {r : Fr}, Bd N x r → ∀ {o : Int} {x' : Mach} {r' : Fr}, instrsW fs rec k deep height ws x r = .ok o x' r' →
    Aft N x r x' r' ∧ o ≤ 2 ^ 63 - 1
  | [], _, x, r, hb, o, x', r', h => by cases h; exact ⟨hb.refl, by omega⟩
  | w :: ws, hw, x, r, hb, o, x', r', h => by
    rw [instrsW] at h
    split at h
    · cases h
    rename_i hs
    split at h
    · cases h
    · cases h
    · rename_i o1 x1 r1 hq
      obtain ⟨ha, ho⟩ := exec_bd hr hf hD hD2 (hw w (by simp)) hd (hb.one (by omega)) hq
      have ha' : Aft N x r x1 r1 := ⟨ha.bd, by have := ha.steps; simp only at this; omega, ha.calls, ha.fn⟩
      split at h
      · obtain ⟨h1, h2⟩ := instrs_bd hr hf hD hD2 hd ws (fun w h => hw w (by simp [h])) ha.bd h
        exact ⟨ha'.trans h1, h2⟩
      · split at h
        · cases h
        · cases h
          exact ⟨ha'.trans (ha.bd.aft (by rw [List.length_take]; omega)), ho⟩
theorem runL_bd {N : Nat} {fs : List F} (hf : OkFs fs) : ∀ (k : Nat) (D : Int), 0 ≤ D → D + k ≤ 2 ^ 62 → RBd N D (runL fs k)
  | 0, D, _, _ => fun x r at_ deep o x' r' _ _ h => by cases h
  | k + 1, D, h0, h1 => fun x r at_ deep o x' r' hb hd h => by
    rw [runL] at h
    split at h
    · cases h
    split at h
    · cases h
    · rename_i ws hws
      exact instrs_bd (runL_bd hf k (D + 1) (by omega) (by push_cast at h1; omega)) hf (by omega) (by push_cast at h1; omega) (by omega) ws (fun w hw => hb.fn.nums _ (List.mem_of_getElem? hws) w hw) hb h
end Go.Proofs.YthifgodgfhbnfaaDoor
set_option linter.unusedSimpArgs false
set_option linter.unusedVariables false
namespace Go.Proofs.YthifgodgfhbnfaaDoor
open Go Go.Abs
/-- what is left where a run ends amid it -/
def XO (fs : List F) (mm mn : Int) (σ0 : AS) (xo mo : Nat) (D T : List Nat) (x : Mach) (σ : AS) : Prop := ∃ ov, XM fs mm mn σ0 xo mo D T x ov σ
section
variable {G : Env} {fs : List F} {mm mn : Int} {σ0 σ : AS} {xo mo fo : Nat} {L T : List Nat} {x : Mach} {r : Fr} {R : Out → AS → Prop}
theorem XF.adds {σ' : AS} (h : XF fs mm mn σ0 xo mo fo L T x r σ) (A : Adds σ σ') : XF fs mm mn σ0 xo mo fo L T x r σ' := by
  obtain ⟨ov, sv, hm, hr, hd⟩ := h
  have hno := hm.no
  have hxl := hm.xl
  have hml := hm.ml
  refine ⟨ov, sv, ⟨Nat.le_trans hm.no A.no, Nat.le_trans hm.nf A.nf, fun o h1 h2 h3 h4 => ?_, fun g h1 h2 => ?_, hm.xl, hm.ml, hm.xm, fun o h1 => ?_, ?_, ?_, hm.ownT, ?_⟩, ⟨?_, hr.fl, ?_, hr.ownT⟩, hd⟩
  · rw [A.obj o (by omega)]; exact hm.obj o h1 h2 h3 h4
  · have := hm.nf; rw [A.fam g (by omega)]; exact hm.fam g h1 h2
  · have := hm.dl o h1; have := A.no; exact ⟨by omega, (hm.dl o h1).2⟩
  · obtain ⟨fv, iv, a, b, c⟩ := hm.mach
    exact ⟨fv, iv, by rw [A.obj xo (by omega)]; exact a, b, c⟩
  · exact hm.own.keep A.nf fun g hg => A.fam g (hm.own.lt g hg)
  · rw [A.obj mo (by omega)]; exact hm.mem
  · obtain ⟨pv, lv, tv, cv, a, b, c, d, e⟩ := hr.fr
    exact ⟨pv, lv, tv, cv, by rw [A.obj fo (hm.dl fo (by simp)).1]; exact a, b, c, d, e.keep fun o ho => A.obj o (hm.dl o (by simp [ho])).1⟩
  · exact hr.own.keep A.nf fun g hg => A.fam g (hr.own.lt g hg)
theorem XF.other (h : XF fs mm mn σ0 xo mo fo L T x r σ) {o : Nat} (h1 : o < σ0.no) (h2 : o ≠ xo) (h3 : o ≠ mo) (h4 : o ≠ fo) (h5 : o ∉ L) : σ.objs o = σ0.objs o := by
  obtain ⟨ov, sv, hm, _, _⟩ := h
  exact hm.obj o h1 h2 h3 (by simp [h4, h5])
theorem XF.lts (h : XF fs mm mn σ0 xo mo fo L T x r σ) : xo < σ.no ∧ mo < σ.no ∧ fo < σ.no ∧ ∀ o ∈ L, o < σ.no := by
  obtain ⟨ov, sv, hm, _, _⟩ := h
  have := hm.no; have := hm.xl; have := hm.ml
  exact ⟨by omega, by omega, (hm.dl fo (by simp)).1, fun o ho => (hm.dl o (by simp [ho])).1⟩
/-- from here on -/
theorem XF.anchor (h : XF fs mm mn σ0 xo mo fo L T x r σ) : ∃ T', XF fs mm mn σ xo mo fo L T' x r σ ∧ (∀ x' r' σ', XF fs mm mn σ xo mo fo L T' x' r' σ' → XF fs mm mn σ0 xo mo fo L T x' r' σ') ∧
    ∀ x' σ', XO fs mm mn σ xo mo (fo :: L) T' x' σ' → XO fs mm mn σ0 xo mo (fo :: L) T x' σ' := by
  have hl := h.lts
  obtain ⟨ov, sv, hm, hr, hd⟩ := h
  have tT : ∀ g, g ∈ famL ov ++ famL sv → g ∈ T ∨ σ0.nf ≤ g := fun g hg => by
    rcases List.mem_append.1 hg with hg | hg
    · exact hm.ownT g hg
    · exact hr.ownT g hg
  have mt : ∀ x' ov' σ', XM fs mm mn σ xo mo (fo :: L) (famL ov ++ famL sv) x' ov' σ' → XM fs mm mn σ0 xo mo (fo :: L) T x' ov' σ' := fun x' ov' σ' k => by
    have h1 := hm.no; have h2 := hm.nf; have h3 := k.no; have h4 := k.nf
    refine ⟨by omega, by omega, fun o a b c d => ?_, fun g a b => ?_, hm.xl, hm.ml, hm.xm, k.dl, k.mach, k.own, fun g hg => ?_, k.mem⟩
    · rw [k.obj o (by omega) b c d]; exact hm.obj o a b c d
    · rw [k.fam g (by omega) (fun hg => by rcases tT g hg with h | h; exact b h; omega)]; exact hm.fam g a b
    · rcases k.ownT g hg with h | h
      · exact tT g h
      · right; omega
  refine ⟨famL ov ++ famL sv, ⟨ov, sv, ⟨Nat.le_refl _, Nat.le_refl _, fun _ _ _ _ _ => rfl, fun _ _ _ => rfl, hl.1, hl.2.1, hm.xm, hm.dl, hm.mach, hm.own, fun g hg => .inl (by simp [hg]), hm.mem⟩, ⟨hr.fr, hr.fl, hr.own, fun g hg => .inl (by simp [hg])⟩, hd⟩, ?_, ?_⟩
  · rintro x' r' σ' ⟨ov', sv', km, kr, kd⟩
    refine ⟨ov', sv', mt _ _ _ km, ⟨kr.fr, kr.fl, kr.own, fun g hg => ?_⟩, kd⟩
    rcases kr.ownT g hg with h | h
    · exact tT g h
    · right; have := hm.nf; omega
  · rintro x' σ' ⟨ov', km⟩
    exact ⟨ov', mt _ _ _ km⟩
theorem XF.stop (h : XF fs mm mn σ0 xo mo fo L T x r σ) : XO fs mm mn σ0 xo mo (fo :: L) T x σ := by
  obtain ⟨ov, sv, hm, _, _⟩ := h; exact ⟨ov, hm⟩
/-- what a list comes to -/
def ListOk (G : Env) (fs : List F) (mm mn : Int) (N : Nat) (D : Int) (rec : RunR) : Prop := ∀ {σ0 σ : AS} {xo mo fo : Nat} {L T : List Nat} {x : Mach} {r : Fr} {at_ deep : Int} {R : Out → AS → Prop},
  XF fs mm mn σ0 xo mo fo L T x r σ → Bd N x r → 0 ≤ deep → deep ≤ D → rec x r at_ deep ≠ .bad →
  (∀ o x' r' σ', rec x r at_ deep = .ok o x' r' → XF fs mm mn σ0 xo mo fo L T x' r' σ' → R (.ret (.int .i64 o)) σ') →
  (∀ s c x' σ', rec x r at_ deep = .over s c x' → XO fs mm mn σ0 xo mo (fo :: L) T x' σ' → R (.panic (overV s c)) σ') →
  ACalls Tryd.prog G 67 [.ptr xo 0, .ptr fo 0, .int .i64 at_, .int .i64 deep] σ R
/-- the frame's cells -/
theorem XF.cells (h : XF fs mm mn σ0 xo mo fo L T x r σ) : ∃ pv lv tv cv sv, σ.objs fo = some [.str r.fn.name, pv, lv, .int .i64 r.fn.type, tv, cv, sv, .int .i64 r.result] ∧ (pv.known = true ∧ pv.one = true ∧ pv.cells = [pv]) ∧ (lv.known = true ∧ lv.one = true ∧ lv.cells = [lv]) ∧
    (tv.known = true ∧ tv.one = true ∧ tv.cells = [tv]) ∧ (cv.known = true ∧ cv.one = true ∧ cv.cells = [cv]) ∧ (sv.known = true ∧ sv.one = true ∧ sv.cells = [sv]) ∧ OwnV σ sv r.stack ∧ ListsV tv r.fn.lists ∧ LocV σ L cv r.locals ∧
    ∀ v, XF fs mm mn σ0 xo mo fo L T x { r with result := v } (σ.setO fo [.str r.fn.name, pv, lv, .int .i64 r.fn.type, tv, cv, sv, .int .i64 v]) := by
  have hx := h
  obtain ⟨ov, sv, hm, hr, hd⟩ := h
  obtain ⟨pv, lv, tv, cv, ho, hpv, hlv, htv, hcv⟩ := hr.fr
  exact ⟨pv, lv, tv, cv, sv, ho, hpv.one, hlv.one, htv.one, hcv.one, hr.own.one, hr.own, htv, hcv, fun v => hx.setFr (σ1 := σ) (st' := r.stack) ho rfl rfl (Nat.le_refl _) (fun _ _ _ => rfl) hr.own fun g hg => .inl hg⟩
theorem getLast_some {l : List Int} (h : l ≠ []) : ∃ v, l.getLast? = some v := ⟨_, List.getLast?_eq_some_getLast h⟩
set_option maxHeartbeats 1000000 in
theorem out_calls {N : Nat} {w : W} {deep : Int} (h : XF fs mm mn σ0 xo mo fo L T x r σ) (hb : Bd N x r) (hw : outW w deep x r ≠ .bad) (hR : ∀ o x' r' σ', outW w deep x r = .ok o x' r' → XF fs mm mn σ0 xo mo fo L T x' r' σ' → R (.ret (.int .i64 o)) σ') :
    ACalls Tryd.prog G 83 [.ptr fo 0, w.av, .int .i64 deep] σ R := by
  refine calls83 rfl ?_
  obtain ⟨wop, wty, wn, wbody, wother, wname⟩ := w
  have hn := hb.n
  have hst : r.stack.length ≤ 2 ^ 40 := by have := hb.stack; omega
  have hlts := h.lts
  have h1 : XF fs mm mn σ0 xo mo fo L T x r (σ.newO [.int .i64 wop, .int .i64 wty, .int .i64 wn, .int .i64 wbody, .int .i64 wother, .str wname]) := h.adds (Adds.refl σ).newO
  obtain ⟨T', k1, k2, _⟩ := h1.anchor
  have hfo : fo ≠ σ.no := by omega
  have hbo : ∀ {r1 : Fr} {σ' : AS}, XF fs mm mn (σ.newO [.int .i64 wop, .int .i64 wty, .int .i64 wn, .int .i64 wbody, .int .i64 wother, .str wname]) xo mo fo L T' x r1 σ' → σ'.objs σ.no = some [.int .i64 wop, .int .i64 wty, .int .i64 wn, .int .i64 wbody, .int .i64 wother, .str wname] := fun {r1 σ'} hx => by
    rw [hx.other (o := σ.no) (by simp) (by omega) (by omega) (by omega) (fun hh => by have := hlts.2.2.2 _ hh; omega)]; simp
  obtain ⟨pv, lv, tv, cv, sv, ho, e1, e2, e3, e4, e5, _, _, _, _⟩ := h.cells
  -- the branch to the body, that takes the result
  have last : ∀ {r1 : Fr} {σ1 : AS} {n : Int}, XF fs mm mn (σ.newO [.int .i64 wop, .int .i64 wty, .int .i64 wn, .int .i64 wbody, .int .i64 wother, .str wname]) xo mo fo L T' x r1 σ1 → r1.stack.length ≤ 2 ^ 40 → popK r1 (fun v r => Ev.ok n x { r with result := v }) ≠ .bad →
      ∀ {K : Out → AS → Prop}, (∀ v σ' pv lv tv cv sv, r1.stack.getLast? = some v → σ'.objs fo = some [.str r1.fn.name, pv, lv, .int .i64 r1.fn.type, tv, cv, sv, .int .i64 r1.result] → (pv.known = true ∧ pv.one = true ∧ pv.cells = [pv]) → (lv.known = true ∧ lv.one = true ∧ lv.cells = [lv]) → (tv.known = true ∧ tv.one = true ∧ tv.cells = [tv]) → (cv.known = true ∧ cv.one = true ∧ cv.cells = [cv]) → (sv.known = true ∧ sv.one = true ∧ sv.cells = [sv]) →
        XF fs mm mn σ0 xo mo fo L T x { r1 with stack := r1.stack.dropLast, result := v } (σ'.setO fo [.str r1.fn.name, pv, lv, .int .i64 r1.fn.type, tv, cv, sv, .int .i64 v]) → K (.ret (.int .i64 v)) σ') → ACalls Tryd.prog G 68 [.ptr fo 0] σ1 K := by
    intro r1 σ1 n hx hl hp K hK
    have hne : r1.stack ≠ [] := by rintro e; simp [popK, e] at hp
    obtain ⟨v, hv⟩ := getLast_some hne
    refine pop_calls hx hl hv fun σ' hx' => ?_
    obtain ⟨pv, lv, tv, cv, sv, ho, e1, e2, e3, e4, e5, _, _, _, hset⟩ := hx'.cells
    exact hK v σ' pv lv tv cv sv hv ho e1 e2 e3 e4 e5 (k2 _ _ _ (hset v))
  by_cases h16 : wop = 16
  · subst h16
    simp only [outW, if_true] at hw hR
    by_cases ht : r.fn.type = 0
    · simp [ht] at hR
      simp [pc83, W.av, W.cs, splice, hfo, ho, ht, e1, e2, e3, e4, e5]
      exact hR _ _ _ _ rfl rfl rfl h1
    · simp [ht] at hR hw
      simp [pc83, W.av, W.cs, splice, hfo, ho, ht, e1, e2, e3, e4, e5]
      refine last k1 hst hw fun v σ' pv lv tv cv sv hv ho e1 e2 e3 e4 e5 hx => ?_
      simp [ho, e1, e2, e3, e4, e5, splice]
      exact hR _ _ _ _ (by simp [popK, hv]) hx
  by_cases h15 : wop = 15
  · subst h15
    have hne : r.stack ≠ [] := by rintro e; simp [outW, popK, e] at hw
    obtain ⟨v, hv⟩ := getLast_some hne
    have hd := drop_len hv
    simp [pc83, W.av, W.cs, splice, hfo, ho, e1, e2, e3, e4, e5]
    refine pop_calls k1 hst hv fun σ' hx' => ?_
    obtain ⟨pv, lv, tv, cv, sv, ho', e1, e2, e3, e4, e5, _, _, _, _⟩ := hx'.cells
    have hbo' := hbo hx'
    by_cases hv0 : v = 0
    · simp [outW, popK, hv, hv0] at hR
      simp [hv0, splice]
      exact hR _ _ _ _ rfl rfl rfl (k2 _ _ _ hx')
    · by_cases hnd : wn = deep
      · by_cases ht : r.fn.type = 0
        · simp [outW, popK, hv, hv0, hnd, ht] at hR
          simp [hv0, splice, hnd, ho', ht, e1, e2, e3, e4, e5, hbo', W.cs]
          exact hR _ _ _ _ rfl rfl rfl (k2 _ _ _ hx')
        · have hw' : popK { r with stack := r.stack.dropLast } (fun v r => Ev.ok deep x { r with result := v }) ≠ .bad := by
            intro hh; apply hw; rw [← hh]; simp only [outW]; simp [popK, hv, hv0, hnd, ht]
          simp [hv0, splice, hnd, ho', ht, e1, e2, e3, e4, e5, hbo', W.cs]
          refine last hx' (by simp; omega) hw' fun v2 σ' pv lv tv cv sv hv2 ho e1 e2 e3 e4 e5 hx => ?_
          simp [ho, e1, e2, e3, e4, e5, splice]
          refine hR _ _ _ _ ?_ hx
          simp only [outW]
          simp [popK, hv, hv0, hnd, ht, hv2]
      · simp [outW, popK, hv, hv0, hnd] at hR
        simp [hv0, splice, hnd, ho', e1, e2, e3, e4, e5, hbo', W.cs]
        exact hR _ _ _ _ rfl rfl rfl (k2 _ _ _ hx')
  by_cases hnd : wn = deep
  · by_cases ht : r.fn.type = 0
    · simp [outW, h16, h15, hnd, ht] at hR
      simp [pc83, W.av, W.cs, splice, h16, h15, hnd, hfo, ho, ht, e1, e2, e3, e4, e5]
      exact hR _ _ _ _ rfl rfl rfl (by simpa [hnd] using h1)
    · simp [outW, h16, h15, hnd, ht] at hR hw
      subst hnd
      simp [pc83, W.av, W.cs, splice, h16, h15, hfo, ho, ht, e1, e2, e3, e4, e5]
      refine last k1 hst hw fun v σ' pv lv tv cv sv hv ho e1 e2 e3 e4 e5 hx => ?_
      simp [ho, e1, e2, e3, e4, e5, splice]
      exact hR _ _ _ _ (by simp [popK, hv]) hx
  · simp [outW, h16, h15, hnd] at hR
    simp [pc83, W.av, W.cs, splice, h16, h15, hnd, hfo, ho, e1, e2, e3, e4, e5]
    exact hR _ _ _ _ rfl rfl rfl h1
end
end Go.Proofs.YthifgodgfhbnfaaDoor
set_option linter.unusedSimpArgs false
set_option linter.unusedVariables false
namespace Go.Proofs.YthifgodgfhbnfaaDoor
open Go Go.Abs
section
variable {G : Env} {fs : List F} {mm mn : Int} {σ0 σ : AS} {xo mo fo : Nat} {L T : List Nat} {x : Mach} {r : Fr} {R : Out → AS → Prop}
theorem around_rounds {N : Nat} {D : Int} {rec : RunR} (hrec : ListOk G fs mm mn N D rec) (hbd : RBd N D rec) {wop wty wn wbody wother at_ deep : Int} {wname : List UInt8} {bo : Nat} (h0 : 0 ≤ deep) (hd : deep ≤ D) (hat : 0 ≤ at_)
    (hbo : ∀ {x1 : Mach} {r1 : Fr} {σ' : AS}, XF fs mm mn σ0 xo mo fo L T x1 r1 σ' → σ'.objs bo = some [.int .i64 wop, .int .i64 wty, .int .i64 wn, .int .i64 wbody, .int .i64 wother, .str wname]) :
    ∀ (j : Nat) {x1 : Mach} {r1 : Fr} {τ : AS} {a : Nat → AV}, XF fs mm mn σ0 xo mo fo L T x1 r1 τ → Bd N x1 r1 → loopA rec (decide (wop = 12)) at_ deep j x1 r1 ≠ .bad → a 0 = .ptr xo 0 → a 1 = .ptr fo 0 → a 3 = .int .i64 deep → a 6 = .ptr bo 0 → a 9 = .int .i64 at_ →
      (∀ o x' r' σ', loopA rec (decide (wop = 12)) at_ deep j x1 r1 = .ok o x' r' → XF fs mm mn σ0 xo mo fo L T x' r' σ' → R (.ret (.int .i64 o)) σ') →
      (∀ s c x' σ', loopA rec (decide (wop = 12)) at_ deep j x1 r1 = .over s c x' → XO fs mm mn σ0 xo mo (fo :: L) T x' σ' → R (.panic (overV s c)) σ') →
      ARounds Tryd.prog G 41 pc82_l1 (ablock 0 (athen (avc Tryd.prog G 41 pc82_r1 (afin Tryd.prog [ResultVar.tmp 8] R)) (afin Tryd.prog [ResultVar.tmp 8] R))) j a τ
  | 0, x1, r1, τ, a, hx, hb, hw, _, _, _, _, _, _, _ => by simp [loopA] at hw
  | j + 1, x1, r1, τ, a, hx, hb, hw, a0, a1, a3, a6, a9, hR, hO => by
    have hat' : ¬ at_ < 0 := by omega
    simp only [loopA] at hw hR hO
    simp [pc82_l1, a0, a1, a3, a6, a9, hat, hat']
    refine hrec hx hb h0 hd (fun e => by rw [e] at hw; exact hw rfl) (fun o x' r' σ' e hx' => ?_) (fun s c x' σ' e ho => ?_)
    · rw [e] at hw hR hO
      obtain ⟨hA, ho2⟩ := hbd _ _ _ _ _ _ _ hb hd e
      have hbo' := hbo hx'
      simp only at hw hR hO
      by_cases ho : o = 0
      · by_cases h12 : wop = 12
        · simp only [ho, h12, decide_true, and_self, if_true] at hw hR hO
          simp [ho, h12, hbo', splice, a0, a1, a3, a6, a9]
          exact around_rounds hrec hbd h0 hd hat hbo j hx' hA.bd (by simpa [h12] using hw) (by simp [a0]) (by simp [a1]) (by simp [a3]) (by simp [a6]) (by simp [a9]) (by simpa [h12] using hR) (by simpa [h12] using hO)
        · simp [ho, h12] at hR
          simp [ho, h12, hbo', pc82_r1, a0, a1, a3, a6, a9]
          exact hR _ _ _ _ rfl rfl rfl hx'
      · by_cases hp : 0 < o
        · have w1 : IntKind.wrap .i64 (o - 1) = o - 1 := by rw [wrap_i64] <;> omega
          simp [ho, hp] at hR
          simp [ho, hp, hbo', w1, splice, a0, a1, a3, a6, a9]
          exact hR _ _ _ _ rfl rfl rfl hx'
        · simp [ho, hp] at hR
          simp [ho, hp, hbo', pc82_r1, a0, a1, a3, a6, a9]
          exact hR _ _ _ _ rfl rfl rfl hx'
    · rw [e] at hO
      simp
      exact hO _ _ _ _ rfl ho
theorem around_calls {N : Nat} {D : Int} {rec : RunR} (hrec : ListOk G fs mm mn N D rec) (hbd : RBd N D rec) {k : Nat} {w : W} {deep : Int} (h : XF fs mm mn σ0 xo mo fo L T x r σ) (hb : Bd N x r) (h0 : 0 ≤ deep) (hd : deep ≤ D) (hw : aroundW rec k w deep x r ≠ .bad)
    (hR : ∀ o x' r' σ', aroundW rec k w deep x r = .ok o x' r' → XF fs mm mn σ0 xo mo fo L T x' r' σ' → R (.ret (.int .i64 o)) σ')
    (hO : ∀ s c x' σ', aroundW rec k w deep x r = .over s c x' → XO fs mm mn σ0 xo mo (fo :: L) T x' σ' → R (.panic (overV s c)) σ') :
    ACalls Tryd.prog G 82 [.ptr xo 0, .ptr fo 0, w.av, .int .i64 deep] σ R := by
  refine calls82 rfl ?_
  obtain ⟨wop, wty, wn, wbody, wother, wname⟩ := w
  have hn := hb.n
  have hst : r.stack.length ≤ 2 ^ 40 := by have := hb.stack; omega
  have hlts := h.lts
  have h1 : XF fs mm mn σ0 xo mo fo L T x r (σ.newO [.int .i64 wop, .int .i64 wty, .int .i64 wn, .int .i64 wbody, .int .i64 wother, .str wname]) := h.adds (Adds.refl σ).newO
  obtain ⟨T', k1, k2, k3⟩ := h1.anchor
  have hbo : ∀ {x1 : Mach} {r1 : Fr} {σ' : AS}, XF fs mm mn (σ.newO [.int .i64 wop, .int .i64 wty, .int .i64 wn, .int .i64 wbody, .int .i64 wother, .str wname]) xo mo fo L T' x1 r1 σ' → σ'.objs σ.no = some [.int .i64 wop, .int .i64 wty, .int .i64 wn, .int .i64 wbody, .int .i64 wother, .str wname] := fun {x1 r1 σ'} hx => by
    rw [hx.other (o := σ.no) (by simp) (by omega) (by omega) (by omega) (fun hh => by have := hlts.2.2.2 _ hh; omega)]; simp
  have go : ∀ {at_ : Int} {r1 : Fr} {σ1 : AS} {a : Nat → AV}, XF fs mm mn (σ.newO [.int .i64 wop, .int .i64 wty, .int .i64 wn, .int .i64 wbody, .int .i64 wother, .str wname]) xo mo fo L T' x r1 σ1 → Bd N x r1 → (if at_ < 0 then Ev.ok (-1) x r1 else loopA rec (decide (wop = 12)) at_ deep k x r1) = aroundW rec k ⟨wop, wty, wn, wbody, wother, wname⟩ deep x r →
      a 0 = .ptr xo 0 → a 1 = .ptr fo 0 → a 3 = .int .i64 deep → a 6 = .ptr σ.no 0 → a 9 = .int .i64 at_ → ALoop Tryd.prog G 41 pc82_l1 (ablock 0 (athen (avc Tryd.prog G 41 pc82_r1 (afin Tryd.prog [ResultVar.tmp 8] R)) (afin Tryd.prog [ResultVar.tmp 8] R))) a σ1 := by
    intro at_ r1 σ1 a hx hb1 e a0 a1 a3 a6 a9
    by_cases hat : at_ < 0
    · refine aloop_rounds 1 ?_
      have hat' : ¬ 0 ≤ at_ := by omega
      rw [if_pos hat] at e
      simp [pc82_l1, pc82_r1, a0, a1, a3, a6, a9, hat, hat']
      exact hR _ _ _ _ e.symm (k2 _ _ _ hx)
    · rw [if_neg hat] at e
      refine aloop_rounds k ?_
      exact around_rounds (R := R) hrec hbd h0 hd (by omega) hbo k hx hb1 (by rw [e]; exact hw) a0 a1 a3 a6 a9 (fun o x' r' σ' e2 hx' => hR _ _ _ _ (e ▸ e2) (k2 _ _ _ hx')) (fun s c x' σ' e2 ho => hO _ _ _ _ (e ▸ e2) (k3 _ _ ho))
  by_cases h13 : wop = 13
  · subst h13
    have hne : r.stack ≠ [] := by rintro e; simp [aroundW, popK, e] at hw
    obtain ⟨v, hv⟩ := getLast_some hne
    have hdl := drop_len hv
    simp [pc82, W.av, W.cs]
    refine pop_calls k1 hst hv fun σ' hx' => ?_
    have hbo' := hbo hx'
    by_cases hv0 : v = 0
    · simp [hv0, hbo', splice]
      refine go (at_ := wother) hx' (hb.stackLe (by omega)) ?_ (by simp) (by simp) (by simp) (by simp) (by simp)
      simp [aroundW, popK, hv, hv0]
    · simp [hv0, hbo', splice]
      refine go (at_ := wbody) hx' (hb.stackLe (by omega)) ?_ (by simp) (by simp) (by simp) (by simp) (by simp)
      simp [aroundW, popK, hv, hv0]
  · simp [pc82, W.av, W.cs, h13]
    refine go (at_ := wbody) k1 hb ?_ (by simp) (by simp) (by simp) (by simp) (by simp)
    simp [aroundW, h13]
end
end Go.Proofs.YthifgodgfhbnfaaDoor
