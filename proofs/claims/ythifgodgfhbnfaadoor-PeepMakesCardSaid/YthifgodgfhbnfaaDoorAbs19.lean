/- Rules by which a rewriter steps through single operations on abstract values; no condition. -/
import Derived.Test.YthifgodgfhbnfaaDoorAbs18
namespace Go.Abs
open Go
section
variable {P : Program} {K : AV → Prop}

theorem List.beq_dec (x y : List UInt8) : (x == y) = decide (x = y) := by
  by_cases h : x = y <;> simp [h]
@[congr] theorem abin_congr {dd : Prop} (_ : blk = dd) {op t} {x x' y y' : AV} (h : x = x') (h2 : y = y') : abin P op t x y K = abin P op t x' y' K := by rw [h, h2]
@[simp] theorem abin_add (t k) (m n : Int) : abin P .add t (.int k m) (.int k n) K = K (.int k (k.wrap (m + n))) := by simp [abin, intBin]
@[simp] theorem abin_sub (t k) (m n : Int) : abin P .sub t (.int k m) (.int k n) K = K (.int k (k.wrap (m - n))) := by simp [abin, intBin]
@[simp] theorem abin_mul (t k) (m n : Int) : abin P .mul t (.int k m) (.int k n) K = K (.int k (k.wrap (m * n))) := by simp [abin, intBin]
@[simp] theorem abin_eql (t k) (m n : Int) : abin P .eql t (.int k m) (.int k n) K = K (.bool (decide (m = n))) := by simp [abin, intBin]
@[simp] theorem abin_neq (t k) (m n : Int) : abin P .neq t (.int k m) (.int k n) K = K (.bool (!decide (m = n))) := by simp [abin, intBin]
@[simp] theorem abin_lss (t k) (m n : Int) : abin P .lss t (.int k m) (.int k n) K = K (.bool (decide (m < n))) := by simp [abin, intBin]
@[simp] theorem abin_leq (t k) (m n : Int) : abin P .leq t (.int k m) (.int k n) K = K (.bool (decide (m ≤ n))) := by simp [abin, intBin]
@[simp] theorem abin_gtr (t k) (m n : Int) : abin P .gtr t (.int k m) (.int k n) K = K (.bool (decide (n < m))) := by simp [abin, intBin]
@[simp] theorem abin_geq (t k) (m n : Int) : abin P .geq t (.int k m) (.int k n) K = K (.bool (decide (n ≤ m))) := by simp [abin, intBin]
@[simp] theorem abin_eql_str (t) (x y) : abin P .eql t (.str x) (.str y) K = K (.bool (decide (x = y))) := by simp only [abin, strCmp, List.beq_dec]
@[simp] theorem abin_neq_str (t) (x y) : abin P .neq t (.str x) (.str y) K = K (.bool (!decide (x = y))) := by simp only [abin, strCmp, List.beq_dec]
@[simp] theorem aeq1_int (k0 k a b) : aeq1 (.int k0) (.int k a) (.int k b) = some (decide (a = b)) := by simp only [aeq1, if_true]; rfl
@[simp] theorem aeq1_str (a b) : aeq1 .string (.str a) (.str b) = some (decide (a = b)) := by simp only [aeq1, Bool.beq_eq_decide_eq]
@[simp] theorem aeq1_if (ms t v) : aeq1 (.interface ms) (.iface t v) .nilif = some false := Eq.trans rfl rfl
@[simp] theorem aeq1_fi (ms t v) : aeq1 (.interface ms) .nilif (.iface t v) = some false := Eq.trans rfl rfl
@[simp] theorem aeq1_nn (ms) : aeq1 (.interface ms) .nilif .nilif = if ms.isEmpty then some true else none := Eq.trans rfl rfl
@[simp] theorem aeq1_bool (a b) : aeq1 .bool (.bool a) (.bool b) = some (decide (a = b)) := by simp only [aeq1, Bool.beq_eq_decide_eq]
@[simp] theorem aeq1_sl_nil (e a b c) : aeq1 (.slice e) (.sl a b c) .nilsl = some false := rfl
@[simp] theorem aeq1_slm_nil (e a b c d) : aeq1 (.slice e) (.slm a b c d) .nilsl = some false := rfl
@[simp] theorem aeq1_nil_nil (e) : aeq1 (.slice e) .nilsl .nilsl = some true := rfl
@[simp] theorem abin_eql_agg (t) (x y) : abin P .eql t (.agg x) (.agg y) K = bindO (aeq P t (.agg x) (.agg y)) fun r => K (.bool r) := by simp [abin, bindO]
@[simp] theorem abin_neq_agg (t) (x y) : abin P .neq t (.agg x) (.agg y) K = bindO (aeq P t (.agg x) (.agg y)) fun r => K (.bool !r) := by simp [abin, bindO]
@[simp] theorem abin_eql_nil (t) (y) : abin P .eql t y .nilsl K = bindO (aeq P t y .nilsl) fun r => K (.bool r) := by cases y <;> simp [abin, bindO]
@[simp] theorem abin_neq_nil (t) (y) : abin P .neq t y .nilsl K = bindO (aeq P t y .nilsl) fun r => K (.bool !r) := by cases y <;> simp [abin, bindO]
@[simp] theorem abin_eql_bool (t) (x y) : abin P .eql t (.bool x) (.bool y) K = bindO (aeq P t (.bool x) (.bool y)) fun r => K (.bool r) := by simp [abin, bindO]

@[congr] theorem aun_congr {dd : Prop} (_ : blk = dd) {op} {x x' : AV} (h : x = x') : aun op x K = aun op x' K := by rw [h]
@[simp] theorem aun_not (b) : aun .not (.bool b) K = K (.bool !b) := Eq.trans rfl rfl
@[simp] theorem aun_neg (k n) : aun .neg (.int k n) K = K (.int k (k.wrap (-n))) := Eq.trans rfl rfl

theorem partOf_eq (g n off cs) : partOf g n off cs K = if g then off + n ≤ cs.length ∧ K (.agg ((cs.drop off).take n)) else bindO cs[off]? K := rfl
@[simp] theorem partOf_true (n off cs) : partOf true n off cs K = (off + n ≤ cs.length ∧ K (.agg ((cs.drop off).take n))) := Eq.trans rfl rfl
@[simp] theorem partOf_false (n off cs) : partOf false n off cs K = bindO cs[off]? K := Eq.trans rfl rfl
@[congr] theorem partOf_congr {dd : Prop} (_ : blk = dd) {g g' n off off'} {cs cs' : List AV} (h : cs = cs') (h2 : off = off') (h3 : g = g') : partOf g n off cs K = partOf g' n off' cs' K := by rw [h, h2, h3]

@[congr] theorem afieldAddr_congr {dd : Prop} (_ : blk = dd) {t f} {x x' : AV} (h : x = x') : afieldAddr P t x f K = afieldAddr P t x' f K := by rw [h]
@[simp] theorem afieldAddr_ptr (t f o off) : afieldAddr P t (.ptr o off) f K = bindO (fiOf P t f) fun i => K (.ptr o (off + i.off)) := Eq.trans rfl rfl
@[simp] theorem afieldAddr_pv (t f φ cs) : afieldAddr P t (.pv φ (.agg cs)) f K = bindO (fiOf P t f) fun i => partOf i.agg i.size i.off cs fun v => fits i.agg i.size v ∧ K (.pv φ v) := Eq.trans rfl rfl
@[simp] theorem fits_true (n v) : fits true n v = (v.cells.length = n) := Eq.trans rfl rfl
@[simp] theorem fits_false (n v) : fits false n v = (v.cells = [v]) := Eq.trans rfl rfl
@[congr] theorem afield_congr {dd : Prop} (_ : blk = dd) {t f} {x x' : AV} (h : x = x') : afield P t x f K = afield P t x' f K := by rw [h]
@[simp] theorem afield_agg (t f cs) : afield P t (.agg cs) f K = bindO (fiOf P t f) fun i => partOf i.agg i.size i.off cs K := Eq.trans rfl rfl

@[congr] theorem aindexAddr_congr {dd : Prop} (_ : blk = dd) {t} {x x' i i' : AV} (h : x = x') (h2 : i = i') : aindexAddr P t x i K = aindexAddr P t x' i' K := by rw [h, h2]
@[simp] theorem aindexAddr_sl (t φ sz xs k n) : aindexAddr P t (.sl φ sz xs) (.int k n) K = (elOf P t = some sz ∧ 0 ≤ n ∧ bindO xs[n.toNat]? fun v => K (.pv φ v)) := Eq.trans rfl rfl
@[simp] theorem aindexAddr_slm (t o off sz len k n) : aindexAddr P t (.slm o off sz len) (.int k n) K = (elOf P t = some sz ∧ 0 ≤ n ∧ n < len ∧ K (.ptr o (off + n.toNat * sz))) := Eq.trans rfl rfl
@[congr] theorem aindex_congr {dd : Prop} (_ : blk = dd) {t} {x x' i i' : AV} (h : x = x') (h2 : i = i') : aindex P t x i K = aindex P t x' i' K := by rw [h, h2]
@[simp] theorem aindex_str (t s k n) : aindex P t (.str s) (.int k n) K = (isStr P t = true ∧ 0 ≤ n ∧ bindO s[n.toNat]? fun b => K (.int .u8 b.toNat)) := Eq.trans rfl rfl

@[congr] theorem alen_congr {dd : Prop} (_ : blk = dd) {t} {x x' : AV} (h : x = x') : alen P t x K = alen P t x' K := by rw [h]
@[simp] theorem alen_str (t s) : alen P t (.str s) K = (isStr P t = true ∧ K (.int .i64 s.length)) := Eq.trans rfl rfl
@[simp] theorem alen_nilsl (t) : alen P t .nilsl K = ((elOf P t).isSome = true ∧ K (.int .i64 0)) := Eq.trans rfl rfl
@[simp] theorem alen_sl (t φ sz xs) : alen P t (.sl φ sz xs) K = ((elOf P t).isSome = true ∧ K (.int .i64 xs.length)) := Eq.trans rfl rfl
@[simp] theorem alen_slm (t o off sz len) : alen P t (.slm o off sz len) K = ((elOf P t).isSome = true ∧ K (.int .i64 len)) := Eq.trans rfl rfl

variable {a : Operand → AV}
def fillS1 (P : Program) (t : TypeId) (i : Nat) (v : AV) (cs : List AV) (K : List AV → Prop) : Prop :=
  bindO (fiOf P t i) fun f => v.known = true ∧ v.cells.length = f.size ∧ f.off + f.size ≤ cs.length ∧ K (splice cs f.off v.cells)
@[congr] theorem fillS1_congr {dd : Prop} (_ : blk = dd) {t i} {v v' : AV} {cs cs'} {K : List AV → Prop} (h : v = v') (h2 : cs = cs') : fillS1 P t i v cs K = fillS1 P t i v' cs' K := by rw [h, h2]
@[simp] theorem fillS1_eq (t i v cs) (K : List AV → Prop) : fillS1 P t i v cs K = bindO (fiOf P t i) fun f => v.known = true ∧ v.cells.length = f.size ∧ f.off + f.size ≤ cs.length ∧ K (splice cs f.off v.cells) := Eq.trans rfl rfl
@[congr] theorem fillS_congr {dd : Prop} (_ : blk = dd) {t} {a a' : Operand → AV} {l} {cs cs'} {K : List AV → Prop} (h2 : cs = cs') (h : a = a') : fillS P t a l cs K = fillS P t a' l cs' K := by rw [h, h2]
@[simp] theorem fillS_nil (t cs) (K : List AV → Prop) : fillS P t a [] cs K = K cs := Eq.trans rfl rfl
@[simp] theorem fillS_cons (t i x r cs) (K : List AV → Prop) : fillS P t a ((i, x) :: r) cs K = fillS1 P t i (a x) cs fun cs => fillS P t a r cs K := Eq.trans rfl rfl
@[congr] theorem fillA_congr {dd : Prop} (_ : blk = dd) {n sz} {a a' : Operand → AV} {l} {cs cs'} {K : List AV → Prop} (h2 : cs = cs') (h : a = a') : fillA n sz a l cs K = fillA n sz a' l cs' K := by rw [h, h2]
@[simp] theorem fillA_nil (n sz cs) (K : List AV → Prop) : fillA n sz a [] cs K = K cs := Eq.trans rfl rfl
@[simp] theorem fillA_cons (n sz i x r cs) (K : List AV → Prop) : fillA n sz a ((i, x) :: r) cs K = (i < n ∧ (a x).known = true ∧ (a x).cells.length = sz ∧ fillA n sz a r (cs.set i (a x)) K) := Eq.trans rfl rfl
@[congr] theorem abuild_congr {dd : Prop} (_ : blk = dd) {t} {a a' : Operand → AV} {l l'} (h : a = a') (h2 : l = l') : abuild P t a l K = abuild P t a' l' K := by rw [h, h2]
@[simp] theorem abuild_eq (t l) : abuild P t a l K = ((isStruct P t = true ∧ sized P t = true) ∧ bindO (zeroOf P t) fun z => z.known = true ∧ fillS P t a l z.cells fun cs => K (.agg cs)) := Eq.trans rfl rfl
@[congr] theorem abuildSlice_congr {dd : Prop} (_ : blk = dd) {t n} {a a' : Operand → AV} {l l'} (h : a = a') (h2 : l = l') : abuildSlice P t n a l K = abuildSlice P t n a' l' K := by rw [h, h2]
@[simp] theorem abuildSlice_eq (t n l) : abuildSlice P t n a l K = bindO (elOf P t) fun sz => bindO (elZero P t) fun z => z.known = true ∧ z.cells.length = sz ∧ 0 < sz ∧ n * sz ≤ 2 ^ 24 ∧ fillA n sz a l (List.replicate n z) fun xs => K (.sl (.stat true) sz xs) := by
  simp [abuildSlice, bindO]

@[congr] theorem bounds_congr {dd : Prop} (_ : blk = dd) {a a' : Operand → AV} {n n' lo hi mx} {K : Nat → Nat → Nat → Prop} (h : a = a') (h2 : n = n') : bounds a n lo hi mx K = bounds a' n' lo hi mx K := by rw [h, h2]
@[simp] theorem bounds_eq (n lo hi mx) (K : Nat → Nat → Nat → Prop) : bounds a n lo hi mx K = bindO (optInt a 0 lo) fun l => bindO (optInt a n hi) fun h => bindO (optInt a n mx) fun m =>
    0 ≤ l ∧ l ≤ h ∧ h ≤ m ∧ m ≤ n ∧ (mx.isSome → hi.isSome) ∧ K l.toNat h.toNat m.toNat := by simp [bounds, bindO]
def intV (v : AV) : Option Int := match v with
  | .int _ n => some n
  | _ => none
@[simp] theorem intV_int (k n) : intV (.int k n) = some n := Eq.trans rfl rfl
@[simp] theorem optInt_none (d) : optInt a d none = some d := Eq.trans rfl rfl
@[simp] theorem optInt_some1 (d x) : optInt a d (some x) = intV (a x) := Eq.trans rfl rfl
@[congr] theorem aslice_congr {dd : Prop} (_ : blk = dd) {a a' : Operand → AV} {t x x' lo hi mx} (h : a = a') (h2 : x = x') : aslice P a t x lo hi mx K = aslice P a' t x' lo hi mx K := by rw [h, h2]
@[simp] theorem aslice_str (t s lo hi mx) : aslice P a t (.str s) lo hi mx K = (isStr P t = true ∧ mx = none ∧ bounds a s.length lo hi none fun l h _ => K (.str ((s.take h).drop l))) := Eq.trans rfl rfl
@[simp] theorem aslice_nil (t lo hi mx) : aslice P a t .nilsl lo hi mx K = ((elOf P t).isSome = true ∧ bounds a 0 lo hi mx fun _ _ _ => K .nilsl) := Eq.trans rfl rfl
@[simp] theorem aslice_sl (t φ sz xs lo hi mx) : aslice P a t (.sl φ sz xs) lo hi mx K = (elOf P t = some sz ∧ bounds a xs.length lo hi mx fun l h m => K (.sl (cut φ (if mx.isSome then decide (m = h) else φ.full && decide (h = xs.length))) sz ((xs.take h).drop l))) := Eq.trans rfl rfl
@[simp] theorem aslice_slm (t o off sz len lo hi mx) : aslice P a t (.slm o off sz len) lo hi mx K = (elOf P t = some sz ∧ mx = none ∧ bounds a len lo hi none fun l h _ => (l < len ∨ l = 0) ∧ K (.slm o (off + l * sz) sz (h - l))) := Eq.trans rfl rfl
@[simp] theorem cut_stat (b f) : cut (.stat b) f = .stat f := Eq.trans rfl rfl
@[simp] theorem cut_fam (g b f) : cut (.fam g b) f = .fam g f := Eq.trans rfl rfl
@[simp] theorem full_stat (f) : Own.full (.stat f) = f := Eq.trans rfl rfl
@[simp] theorem full_fam (g f) : Own.full (.fam g f) = f := Eq.trans rfl rfl
@[simp] theorem readable_stat (F f) : Readable F (.stat f) = True := Eq.trans rfl rfl
@[simp] theorem readable_fam (F g f) : Readable F (.fam g f) = (F g = .alive) := Eq.trans rfl rfl
@[simp] theorem cells_agg (l) : (AV.agg l).cells = l := Eq.trans rfl rfl
@[simp] theorem cells_int (k n) : (AV.int k n).cells = [.int k n] := Eq.trans rfl rfl
@[simp] theorem cells_bool (b) : (AV.bool b).cells = [.bool b] := Eq.trans rfl rfl
@[simp] theorem cells_str (b) : (AV.str b).cells = [.str b] := Eq.trans rfl rfl
@[simp] theorem cells_nilp : AV.nilp.cells = [.nilp] := Eq.trans rfl rfl
@[simp] theorem cells_nilsl : AV.nilsl.cells = [.nilsl] := Eq.trans rfl rfl
@[simp] theorem cells_ptr (o f) : (AV.ptr o f).cells = [.ptr o f] := Eq.trans rfl rfl
@[simp] theorem cells_sl (o f x) : (AV.sl o f x).cells = [.sl o f x] := Eq.trans rfl rfl
@[simp] theorem cells_slm (o f x y) : (AV.slm o f x y).cells = [.slm o f x y] := Eq.trans rfl rfl
@[simp] theorem cells_iface (t v) : (AV.iface t v).cells = [.iface t v] := Eq.trans rfl rfl
@[simp] theorem cells_fn (t v c) : (AV.fn t v c).cells = [.fn t v c] := Eq.trans rfl rfl
@[simp] theorem cells_nilif : AV.nilif.cells = [.nilif] := Eq.trans rfl rfl
@[simp] theorem cells_nilfn : AV.nilfn.cells = [.nilfn] := Eq.trans rfl rfl
@[simp] theorem cells_pv (φ v) : (AV.pv φ v).cells = [.pv φ v] := Eq.trans rfl rfl

/-! the state -/
variable {σ : AS}
@[simp] theorem newO_objs (cs) : (σ.newO cs).objs = upd σ.objs σ.no (some cs) := Eq.trans rfl rfl
@[simp] theorem newO_no (cs) : (σ.newO cs).no = σ.no + 1 := Eq.trans rfl rfl
@[simp] theorem newO_F (cs) : (σ.newO cs).F = σ.F := Eq.trans rfl rfl
@[simp] theorem newO_nf (cs) : (σ.newO cs).nf = σ.nf := Eq.trans rfl rfl
@[simp] theorem setO_objs (o cs) : (σ.setO o cs).objs = upd σ.objs o (some cs) := Eq.trans rfl rfl
@[simp] theorem setO_no (o cs) : (σ.setO o cs).no = σ.no := Eq.trans rfl rfl
@[simp] theorem setO_F (o cs) : (σ.setO o cs).F = σ.F := Eq.trans rfl rfl
@[simp] theorem setO_nf (o cs) : (σ.setO o cs).nf = σ.nf := Eq.trans rfl rfl
@[simp] theorem newF_objs : σ.newF.objs = σ.objs := Eq.trans rfl rfl
@[simp] theorem newF_no : σ.newF.no = σ.no := Eq.trans rfl rfl
@[simp] theorem newF_F : σ.newF.F = upd σ.F σ.nf .alive := Eq.trans rfl rfl
@[simp] theorem newF_nf : σ.newF.nf = σ.nf + 1 := Eq.trans rfl rfl
@[simp] theorem setF_objs (f s) : (σ.setF f s).objs = σ.objs := Eq.trans rfl rfl
@[simp] theorem setF_no (f s) : (σ.setF f s).no = σ.no := Eq.trans rfl rfl
@[simp] theorem setF_F (f s) : (σ.setF f s).F = upd σ.F f s := Eq.trans rfl rfl
@[simp] theorem setF_nf (f s) : (σ.setF f s).nf = σ.nf := Eq.trans rfl rfl

@[congr] theorem aload_congr {dd : Prop} (_ : blk = dd) {t} {p p' : AV} {σ σ' : AS} (h : p = p') (h2 : σ = σ') : aload P t p σ K = aload P t p' σ' K := by rw [h, h2]
@[simp] theorem aload_ptr (t o off) : aload P t (.ptr o off) σ K = bindO (σ.objs o) fun cs => bindO (szOf P t) fun n => partOf (aggOf P t) n off cs K := by simp [aload, bindO]
def whole (g : Bool) (n : Nat) (v : AV) (K : AV → Prop) : Prop := if g then ∃ cs, v = .agg cs ∧ cs.length = n ∧ K v else v.cells = [v] ∧ K v
@[congr] theorem whole_congr {dd : Prop} (_ : blk = dd) {g g' n} {v v' : AV} (h : v = v') (h2 : g = g') : whole g n v K = whole g' n v' K := by rw [h, h2]
@[simp] theorem whole_agg (n cs) : whole true n (.agg cs) K = (cs.length = n ∧ K (.agg cs)) := by simp [whole]
@[simp] theorem whole_one (n v) : whole false n v K = (v.cells = [v] ∧ K v) := by simp [whole]
@[simp] theorem aload_pv (t φ v) : aload P t (.pv φ v) σ K = (Readable σ.F φ ∧ bindO (szOf P t) fun n => whole (aggOf P t) n v K) := by simp [aload, bindO, whole]
@[congr] theorem astore_congr {dd : Prop} (_ : blk = dd) {t} {p p' v v' : AV} {σ σ' : AS} {K : AS → Prop} (h : p = p') (h1 : v = v') (h2 : σ = σ') : astore P t p v σ K = astore P t p' v' σ' K := by rw [h, h1, h2]
@[simp] theorem astore_ptr (t o off v) (K : AS → Prop) : astore P t (.ptr o off) v σ K = bindO (σ.objs o) fun cs => v.known = true ∧ szOf P t = some v.cells.length ∧ off + v.cells.length ≤ cs.length ∧ (∀ c ∈ v.cells, c.one = true) ∧ K (σ.setO o (splice cs off v.cells)) := Eq.trans rfl rfl
@[simp] theorem astore_pv (t f b u v) (K : AS → Prop) : astore P t (.pv (.fam f b) u) v σ K = (σ.F f ≠ .dead ∧ v.known = true ∧ szOf P t = some v.cells.length ∧ u.cells.length = v.cells.length ∧ (∀ c ∈ v.cells, c.one = true) ∧ K (σ.setF f .spoiled)) := Eq.trans rfl rfl

@[congr] theorem asource_congr {dd : Prop} (_ : blk = dd) {t z sz} {x x' : AV} {F F' : Nat → FSt} {K : List AV → Prop} (h : x = x') (h2 : F = F') : asource P t z sz x F K = asource P t z sz x' F' K := by rw [h, h2]
variable {F : Nat → FSt}
@[simp] theorem asource_nil (t z sz) (K : List AV → Prop) : asource P t z sz .nilsl F K = ((elOf P t).isSome = true ∧ K []) := Eq.trans rfl rfl
@[simp] theorem asource_sl (t z sz φ s ys) (K : List AV → Prop) : asource P t z sz (.sl φ s ys) F K = (elOf P t = some s ∧ s = sz ∧ Readable F φ ∧ K ys) := Eq.trans rfl rfl
@[simp] theorem asource_str (t z sz bs) (K : List AV → Prop) : asource P t z sz (.str bs) F K = (isStr P t = true ∧ sz = 1 ∧ K (bs.map fun b => .int .u8 b.toNat)) := Eq.trans rfl rfl
@[simp] theorem asource_int (t z sz k n) (K : List AV → Prop) : asource P t z sz (.int k n) F K = ((intOf? P t).isSome = true ∧ 0 ≤ n ∧ n < 2 ^ 40 ∧ K (List.replicate n.toNat z)) := Eq.trans rfl rfl

/-- what an append gives -/
def grown (bs sz : Nat) (s : AV) (ys : List AV) (σ : AS) (K : AV → AS → Prop) : Prop :=
  match s with
  | .nilsl => ys.length * bs ≤ 2 ^ 47 ∧ (ys = [] → K .nilsl σ) ∧ (ys ≠ [] → K (.sl (.fam σ.nf false) sz ys) σ.newF)
  | .sl (.stat true) s' xs => s' = sz ∧ (xs.length + ys.length) * bs ≤ 2 ^ 47 ∧ (ys = [] → K (.sl (.stat true) s' xs) σ) ∧ (ys ≠ [] → K (.sl (.fam σ.nf false) sz (xs ++ ys)) σ.newF)
  | .sl (.fam f true) s' xs => s' = sz ∧ (xs.length + ys.length) * bs ≤ 2 ^ 47 ∧ σ.F f = .alive ∧ (ys = [] → K (.sl (.fam f true) s' xs) σ) ∧ (ys ≠ [] → K (.sl (.fam σ.nf false) sz (xs ++ ys)) σ.newF)
  | .sl (.fam f false) s' xs => s' = sz ∧ (xs.length + ys.length) * bs ≤ 2 ^ 47 ∧ σ.F f = .alive ∧ K (.sl (.fam σ.nf false) sz (xs ++ ys)) (σ.setF f .dead).newF
  | .sl (.stat false) s' xs => ys = [] ∧ K (.sl (.stat false) s' xs) σ
  | _ => False
@[congr] theorem grown_congr {dd : Prop} (_ : blk = dd) {bs sz} {s s' : AV} {ys ys' : List AV} {σ σ' : AS} {K : AV → AS → Prop} (h : s = s') (h1 : ys = ys') (h2 : σ = σ') : grown bs sz s ys σ K = grown bs sz s' ys' σ' K := by rw [h, h1, h2]
variable {KS : AV → AS → Prop}
@[simp] theorem grown_nil_nil (bs sz) : grown bs sz .nilsl [] σ KS = KS .nilsl σ := by simp [grown]
@[simp] theorem grown_nil_cons (bs sz y ys) : grown bs sz .nilsl (y :: ys) σ KS = ((y :: ys).length * bs ≤ 2 ^ 47 ∧ KS (.sl (.fam σ.nf false) sz (y :: ys)) σ.newF) := by simp [grown]
@[simp] theorem grown_fam (bs sz f s' xs ys) : grown bs sz (.sl (.fam f false) s' xs) ys σ KS = (s' = sz ∧ (xs.length + ys.length) * bs ≤ 2 ^ 47 ∧ σ.F f = .alive ∧ KS (.sl (.fam σ.nf false) sz (xs ++ ys)) (σ.setF f .dead).newF) := Eq.trans rfl rfl
@[simp] theorem grown_stat_nil (bs sz s' xs) : grown bs sz (.sl (.stat true) s' xs) [] σ KS = (s' = sz ∧ xs.length * bs ≤ 2 ^ 47 ∧ KS (.sl (.stat true) s' xs) σ) := by simp [grown]
@[simp] theorem grown_stat_cons (bs sz s' xs y ys) : grown bs sz (.sl (.stat true) s' xs) (y :: ys) σ KS = (s' = sz ∧ (xs.length + (y :: ys).length) * bs ≤ 2 ^ 47 ∧ KS (.sl (.fam σ.nf false) sz (xs ++ y :: ys)) σ.newF) := by simp [grown]
@[congr] theorem aappend_congr {dd : Prop} (_ : blk = dd) {t u} {s s' x x' : AV} {σ σ' : AS} {K : AV → AS → Prop} (h : s = s') (h1 : x = x') (h2 : σ = σ') : aappend P t u s x σ K = aappend P t u s' x' σ' K := by rw [h, h1, h2]
@[simp] theorem aappend_eq (t u s x) : aappend P t u s x σ KS = bindO (elOf P t) fun sz => bindO (elBytes P t) fun bs => 0 < bs ∧ bindO (elZero P t) fun z => z.known = true ∧ z.cells.length = sz ∧ 0 < sz ∧
    asource P u z sz x σ.F fun ys => (∀ y ∈ ys, y.cells.length = sz ∧ ∀ c ∈ y.cells, c.one = true) ∧ grown bs sz s ys σ KS := by
  simp only [aappend, bindO, grown]
  apply propext
  constructor
  · rintro ⟨sz, bs, z, h1, h2, h3, h4, h5, h6, h7, h8⟩
    exact ⟨sz, h1, bs, h2, h3, z, h4, h5, h6, h7, h8⟩
  · rintro ⟨sz, h1, bs, h2, h3, z, h4, h5, h6, h7, h8⟩
    exact ⟨sz, bs, z, h1, h2, h3, h4, h5, h6, h7, h8⟩

/-- a call's ends -/
def ends (K PK : AV → AS → Prop) : Out → AS → Prop := fun o σ' => match o with
  | .ret v => K v σ'
  | .panic v => PK v σ'
@[simp] theorem ends_ret (K PK : AV → AS → Prop) (v σ') : ends K PK (.ret v) σ' = K v σ' := Eq.trans rfl rfl
@[simp] theorem ends_panic (K PK : AV → AS → Prop) (v σ') : ends K PK (.panic v) σ' = PK v σ' := Eq.trans rfl rfl
@[congr] theorem acall_congr {dd : Prop} (_ : blk = dd) {G} {f f' : AV} {l l' : List AV} {σ σ' : AS} {K PK : AV → AS → Prop} (h : f = f') (h1 : l = l') (h2 : σ = σ') : acall P G f l σ K PK = acall P G f' l' σ' K PK := by rw [h, h1, h2]
@[simp] theorem acall_eq (G n first cap l) (K PK : AV → AS → Prop) : acall P G (.fn (.func n) first cap) l σ K PK = (callable P n = true ∧ ACalls P G n (first ++ l ++ cap) σ (ends K PK)) := by
  rfl
@[congr] theorem ends_congr {dd : Prop} (_ : blk = dd) {K PK : AV → AS → Prop} {o o' : Out} {σ σ' : AS} (h : o = o') (h1 : σ = σ') : ends K PK o σ = ends K PK o' σ' := by rw [h, h1]

@[congr] theorem ares_congr {dd : Prop} (_ : blk = dd) {l} {a a' : Nat → AV} {σ σ' : AS} {K : List AV → Prop} (h : a = a') (h2 : σ = σ') : ares P l a σ K = ares P l a' σ' K := by rw [h, h2]
@[simp] theorem ares_nil (a σ) (K : List AV → Prop) : ares P [] a σ K = K [] := Eq.trans rfl rfl
@[simp] theorem ares_tmp (t r a σ) (K : List AV → Prop) : ares P (.tmp t :: r) a σ K = ares P r a σ fun vs => K (a t :: vs) := Eq.trans rfl rfl
@[simp] theorem ares_cell (t ty r a σ) (K : List AV → Prop) : ares P (.cell t ty :: r) a σ K = aload P ty (a t) σ fun v => ares P r a σ fun vs => K (v :: vs) := Eq.trans rfl rfl
@[congr] theorem afin_congr {dd : Prop} (_ : blk = dd) {l} {R : Out → AS → Prop} {e : AExit} {a a' : Nat → AV} {σ σ' : AS} (h : a = a') (h2 : σ = σ') : afin P l R e a σ = afin P l R e a' σ' := by rw [h, h2]
@[simp] theorem afin_normal (l) (R : Out → AS → Prop) (a σ) : afin P l R .normal a σ = ares P l a σ fun vs => R (.ret (tup vs)) σ := Eq.trans rfl rfl
@[simp] theorem afin_ret (l) (R : Out → AS → Prop) (a σ) : afin P l R .ret a σ = ares P l a σ fun vs => R (.ret (tup vs)) σ := Eq.trans rfl rfl
@[simp] theorem afin_panic (l) (R : Out → AS → Prop) (v a σ) : afin P l R (.panic v) a σ = R (.panic v) σ := Eq.trans rfl rfl
@[simp] theorem tup_one (v) : tup [v] = v := Eq.trans rfl rfl
@[simp] theorem tup_nil : tup [] = .tuple [] := Eq.trans rfl rfl
@[simp] theorem tup_two (v w l) : tup (v :: w :: l) = .tuple (v :: w :: l) := Eq.trans rfl rfl
@[simp] theorem known_bool (b) : (AV.bool b).known = true := Eq.trans rfl rfl
@[simp] theorem one_bool (b) : (AV.bool b).one = true := Eq.trans rfl rfl
@[simp] theorem known_int (k n) : (AV.int k n).known = true := Eq.trans rfl rfl
@[simp] theorem one_int (k n) : (AV.int k n).one = true := Eq.trans rfl rfl
@[simp] theorem known_str (s) : (AV.str s).known = true := Eq.trans rfl rfl
@[simp] theorem one_str (s) : (AV.str s).one = true := Eq.trans rfl rfl
@[simp] theorem known_nilp : AV.nilp.known = true := Eq.trans rfl rfl
@[simp] theorem one_nilp : AV.nilp.one = true := Eq.trans rfl rfl
@[simp] theorem known_ptr (o i) : (AV.ptr o i).known = true := Eq.trans rfl rfl
@[simp] theorem one_ptr (o i) : (AV.ptr o i).one = true := Eq.trans rfl rfl
@[simp] theorem known_pv (φ v) : (AV.pv φ v).known = true := Eq.trans rfl rfl
@[simp] theorem one_pv (φ v) : (AV.pv φ v).one = true := Eq.trans rfl rfl
@[simp] theorem known_nilsl : AV.nilsl.known = true := Eq.trans rfl rfl
@[simp] theorem one_nilsl : AV.nilsl.one = true := Eq.trans rfl rfl
@[simp] theorem known_sl (φ z l) : (AV.sl φ z l).known = true := Eq.trans rfl rfl
@[simp] theorem one_sl (φ z l) : (AV.sl φ z l).one = true := Eq.trans rfl rfl
@[simp] theorem known_slm (o i z l) : (AV.slm o i z l).known = true := Eq.trans rfl rfl
@[simp] theorem one_slm (o i z l) : (AV.slm o i z l).one = true := Eq.trans rfl rfl
@[simp] theorem known_fn (f l c) : (AV.fn f l c).known = true := Eq.trans rfl rfl
@[simp] theorem one_fn (f l c) : (AV.fn f l c).one = true := Eq.trans rfl rfl
@[simp] theorem known_nilfn : AV.nilfn.known = true := Eq.trans rfl rfl
@[simp] theorem one_nilfn : AV.nilfn.one = true := Eq.trans rfl rfl
@[simp] theorem known_iface (t v) : (AV.iface t v).known = true := Eq.trans rfl rfl
@[simp] theorem one_iface (t v) : (AV.iface t v).one = true := Eq.trans rfl rfl
@[simp] theorem known_nilif : AV.nilif.known = true := Eq.trans rfl rfl
@[simp] theorem one_nilif : AV.nilif.one = true := Eq.trans rfl rfl
@[simp] theorem known_agg (l) : (AV.agg l).known = true := Eq.trans rfl rfl
@[simp] theorem one_agg (l) : (AV.agg l).one = false := Eq.trans rfl rfl
@[simp] theorem known_tuple (l) : (AV.tuple l).known = true := Eq.trans rfl rfl
@[simp] theorem one_tuple (l) : (AV.tuple l).one = false := Eq.trans rfl rfl

/-- A LOOP: ONE ROUND, AND THE LOOP AGAIN. -/
theorem wrap_i64 {n : Int} (h : -2 ^ 63 ≤ n) (h2 : n < 2 ^ 63) : IntKind.wrap .i64 n = n := by
  unfold IntKind.wrap
  simp [IntKind.bits, IntKind.signed]
  omega
end
end Go.Abs
