/- More stepping rules: conversions, shifts, divisions, bits; no condition. -/
import Derived.Test.YthifgodgfhbnfaaDoorAbs26
namespace Go.Abs
open Go
section
variable {P : Program} {G : Env} {a : Nat → AV} {σ : AS} {K : (Nat → AV) → AS → Prop} {Q : AQ} {dst : Option Nat} {KS : AV → AS → Prop} {KV : AV → Prop}
/-- one of two, as the proof chooses -/
def orB (x y : Prop) : Prop := x ∨ y
@[congr] theorem orB_congr {dd : Prop} (_ : blk = dd) {x y : Prop} : orB x y = orB x y := rfl
def convV (P : Program) (s d : TypeId) (v : AV) (σ : AS) (K : AV → AS → Prop) : Prop := match v with
  | .int _ _ => aconv P s d v fun v => K v σ
  | .str bs => (isStr P d = true → (P.underlying s).isSome = true ∧ K (.str bs) σ) ∧ (isStr P d = false → aconvE P s d v σ K)
  | _ => aconvE P s d v σ K
@[congr] theorem convV_congr {dd : Prop} (_ : blk = dd) {s d : TypeId} {v v' : AV} {σ σ' : AS} {K : AV → AS → Prop} (h : v = v') (h2 : σ = σ') : convV P s d v σ K = convV P s d v' σ' K := by rw [h, h2]
@[simp] theorem aop1_convert (s d x) : aop1 P G (.convert s d x) dst a σ K Q = convV P s d (ev G a x) σ fun v σ' => K (put a dst v) σ' := by
  show aeff P G (ev G a) σ (fun v σ' => K (put a dst v) σ') (fun v σ' => Q (.panic v) anyFrame σ') (.convert s d x) = _
  simp only [aeff]
  unfold convV
  cases ev G a x <;> rfl
@[simp] theorem convV_int (s d k n) : convV P s d (.int k n) σ KS = bindO (intOf? P d) fun k' => (P.underlying s).isSome = true ∧ KS (.int k' (k'.wrap n)) σ := Eq.trans rfl rfl
@[simp] theorem convV_str (s d bs) : convV P s d (.str bs) σ KS = ifB (isStr P d) ((P.underlying s).isSome = true ∧ KS (.str bs) σ) (isStr P s = true ∧ isU8 P d = true ∧ orB (KS (.sl (.fam σ.nf false) 1 (B bs)) σ.newF) (KS (.slm σ.no 0 1 bs.length) (σ.newO (B bs)))) := by
  unfold convV aconvE ifB orB
  cases isStr P d <;> simp
@[simp] theorem convV_nilsl (s d) : convV P s d .nilsl σ KS = (isU8 P s = true ∧ isStr P d = true ∧ KS (.str []) σ) := Eq.trans rfl rfl
theorem B_inj : ∀ {x y : List UInt8}, B x = B y → x = y
  | [], [], _ => rfl
  | [], _ :: _, h => by simp [B] at h
  | _ :: _, [], h => by simp [B] at h
  | a :: x, b :: y, h => by
    simp only [B, List.map_cons, List.cons.injEq, AV.int.injEq, true_and] at h
    have e : a = b := UInt8.toNat_inj.1 (by exact_mod_cast h.1)
    rw [e, B_inj h.2]
@[simp] theorem convV_slB (s d φ z bs) : convV P s d (.sl φ z (B bs)) σ KS = (isU8 P s = true ∧ isStr P d = true ∧ Readable σ.F φ ∧ KS (.str bs) σ) := by
  refine propext ⟨fun ⟨h1, h2, h3, bs', h4, h5⟩ => ⟨h1, h2, h3, by rw [B_inj h4]; exact h5⟩, fun ⟨h1, h2, h3, h5⟩ => ⟨h1, h2, h3, bs, rfl, h5⟩⟩
@[simp] theorem convV_slm (s d o off sz len) : convV P s d (.slm o off sz len) σ KS = (isU8 P s = true ∧ isStr P d = true ∧ ∃ cs bs, σ.objs o = some cs ∧ off + len ≤ cs.length ∧ (cs.drop off).take len = B bs ∧ KS (.str bs) σ) := Eq.trans rfl rfl
theorem convV_slB' {s d φ z xs bs} (h : xs = B bs) : convV P s d (.sl φ z xs) σ KS = (isU8 P s = true ∧ isStr P d = true ∧ Readable σ.F φ ∧ KS (.str bs) σ) := by subst h; exact convV_slB ..
@[simp] theorem abin_shr (t k k' m n) : abin P .shr t (.int k m) (.int k' n) KV = (0 ≤ n ∧ KV (.int k (m.fdiv (2 ^ (min n.toNat k.bits))))) := Eq.trans rfl rfl
@[simp] theorem abin_shl (t k k' m n) : abin P .shl t (.int k m) (.int k' n) KV = (0 ≤ n ∧ KV (.int k (k.wrap (m * 2 ^ (min n.toNat k.bits))))) := Eq.trans rfl rfl
@[simp] theorem abin_quo (t k m n) : abin P .quo t (.int k m) (.int k n) KV = (n ≠ 0 ∧ KV (.int k (k.wrap (m.tdiv n)))) := by simp [abin, intBin]
@[simp] theorem abin_rem (t k m n) : abin P .rem t (.int k m) (.int k n) KV = (n ≠ 0 ∧ KV (.int k (m.tmod n))) := by simp [abin, intBin]
@[simp] theorem abin_and (t k m n) : abin P .and t (.int k m) (.int k n) KV = KV (.int k (bits2 k (· &&& ·) m n)) := by simp [abin, intBin]
@[simp] theorem abin_or (t k m n) : abin P .or t (.int k m) (.int k n) KV = KV (.int k (bits2 k (· ||| ·) m n)) := by simp [abin, intBin]
@[simp] theorem abin_xor (t k m n) : abin P .xor t (.int k m) (.int k n) KV = KV (.int k (bits2 k (· ^^^ ·) m n)) := by simp [abin, intBin]
@[simp] theorem aindexAddr_pvagg (t φ cs k n) : aindexAddr P t (.pv φ (.agg cs)) (.int k n) KV = bindO (arOf P t) fun p => 0 ≤ n ∧ n < (p.1 : Nat) ∧ partOf p.2.2 p.2.1 (n.toNat * p.2.1) cs fun v => fits p.2.2 p.2.1 v ∧ KV (.pv φ v) := by
  refine propext ⟨fun ⟨l, s, g, h1, h2⟩ => ⟨(l, s, g), h1, h2⟩, fun ⟨p, h1, h2⟩ => ⟨p.1, p.2.1, p.2.2, h1, h2⟩⟩
@[simp] theorem aindexAddr_ptr (t o off k n) : aindexAddr P t (.ptr o off) (.int k n) KV = bindO (arOf P t) fun p => 0 ≤ n ∧ n < (p.1 : Nat) ∧ KV (.ptr o (off + n.toNat * p.2.1)) := by
  refine propext ⟨fun ⟨l, s, g, h1, h2⟩ => ⟨(l, s, g), h1, h2⟩, fun ⟨p, h1, h2⟩ => ⟨p.1, p.2.1, p.2.2, h1, h2⟩⟩
@[simp] theorem aindex_agg (t cs k n) : aindex P t (.agg cs) (.int k n) KV = bindO (arOf P t) fun p => 0 ≤ n ∧ n < (p.1 : Nat) ∧ partOf p.2.2 p.2.1 (n.toNat * p.2.1) cs KV := by
  refine propext ⟨fun ⟨l, s, g, h1, h2⟩ => ⟨(l, s, g), h1, h2⟩, fun ⟨p, h1, h2⟩ => ⟨p.1, p.2.1, p.2.2, h1, h2⟩⟩
theorem wrap_u64 {n : Int} (h : 0 ≤ n) (h2 : n < 2 ^ 64) : IntKind.wrap .u64 n = n := by
  simp only [IntKind.wrap, IntKind.signed, IntKind.bits]; simp; omega
theorem wrap_u8 {n : Int} (h : 0 ≤ n) (h2 : n < 2 ^ 8) : IntKind.wrap .u8 n = n := by
  simp only [IntKind.wrap, IntKind.signed, IntKind.bits]; simp; omega

/-- a call that only adds, given outside this logic -/
theorem ACalls.of_below {f : FuncId} {args : List AV} {R : Out → AS → Prop}
    (h : ∀ (M : Mp) (w : World) (cargs : Array Value), Sim M σ w → GOk P G M σ.F w → Cells M σ.F w args cargs → Calls P f cargs w fun e w' => (∃ v c, e = .returned c ∧ (∀ M F w, VR M F w v c) ∧ R (.ret v) σ) ∧ RowKit.Below w.heap.size w w') : ACalls P G f args σ R := by
  intro M w cargs S g hc
  refine (h M w cargs S g hc).mono fun e w' ⟨⟨v, c, he, hv, hR⟩, hb⟩ => ?_
  subst he
  have hlt : ∀ B r, M.role B = some r → B < w.heap.size := S.role
  have E : Ext M σ.F w M σ.F w' := by
    refine ⟨⟨hb.os, hb.tape, hb.output⟩, Nat.le_refl _, Nat.le_refl _, fun _ _ => rfl, fun _ _ h => h, fun _ _ h => by rw [h]; simp, hb.size, fun B c e z h => ?_, fun B h => ⟨h, hb.block B (hlt B _ h)⟩, fun B hB h => ⟨h, hb.block B hB⟩, fun _ _ _ h _ => h, fun B f _ h _ => hb.block B (hlt B _ h)⟩
    exact ⟨c, by rw [hb.block B (Array.getElem?_eq_some_iff.1 h).1]; exact h, rfl⟩
  refine ⟨.ret v, σ, M, hR, hv .., ?_, E⟩
  refine ⟨S.no, S.nf, fun B r h => Nat.lt_of_lt_of_le (S.role B r h) hb.size, fun o cs ho => ?_, S.inj⟩
  obtain ⟨a1, a2, a3⟩ := S.obj o cs ho
  refine ⟨a1, a2, fun j hj => ?_⟩
  obtain ⟨c, h1, h2, h3⟩ := a3 j hj
  have hB := hb.block _ (S.role _ _ a2)
  exact ⟨c, (cell?_of_heap hB).trans h1, (frozen?_of_heap hB).trans h2, h3.mono E⟩
end
end Go.Abs
