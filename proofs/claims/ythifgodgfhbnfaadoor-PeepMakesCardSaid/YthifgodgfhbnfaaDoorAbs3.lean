/- The quiet operations' abstract meaning is borne out by the model: arithmetic, comparisons, conversions; no condition. -/
import Derived.Test.YthifgodgfhbnfaaDoorAbs2
import Derived.Laws.StructEq
import Derived.ChangeKeysEq
namespace Go.Abs
open Go

theorem toList_data (s : ByteArray) : s.toList = s.data.toList := ByteArray.toList_eq s

theorem VR.bool_inv {M F w b c} (h : VR M F w (.bool b) c) : c = .bool b := by cases h; rfl
theorem VR.int_inv {M F w k n c} (h : VR M F w (.int k n) c) : c = .int k n := by cases h; rfl
theorem VR.str_inv {M F w s c} (h : VR M F w (.str s) c) : ∃ b : ByteArray, c = .string b ∧ b.data.toList = s := by cases h; exact ⟨_, rfl, rfl⟩
theorem VR.str' {M F w} {s : List UInt8} {b : ByteArray} (h : b.data.toList = s) : VR M F w (.str s) (.string b) := by subst h; exact .str b

theorem VR.of_list {M F w} (l : List UInt8) : VR M F w (.str l) (.string ⟨l.toArray⟩) := VR.str' rfl

theorem ofVal1_VR (M F w) (v : Value) : VR M F w (ofVal1 v) v := by
  unfold ofVal1
  split <;> first | exact .undef _ | constructor

theorem ofVal_VR (M F w) (v : Value) : VR M F w (ofVal v) v := by
  unfold ofVal
  split
  · rename_i cs
    refine .agg _ _ (by simp) (fun j h h' => ?_)
    simp only [List.getElem_map, Array.getElem_toList]
    exact ofVal1_VR ..
  · exact ofVal1_VR ..

/-- what a quiet operation yields: the value, in the world as it was but for new memory that nobody names -/
def Quiet (P : Program) (op : (Operand → Value) → Sem Value) (α : Operand → AV) (l : List Operand) (v : AV) : Prop :=
  ∀ (M : Mp) (F : Nat → FSt) (w : World) (ρ : Operand → Value), (∀ B r, M.role B = some r → B < w.heap.size) → (∀ x ∈ l, VR M F w (α x) (ρ x)) →
    ∃ v' M' w', (op ρ).run P w = .ok v' w' ∧ VR M' F w' v v' ∧ Ext M F w M' F w' ∧ (∀ σ, σ.F = F → Sim M σ w → Sim M' σ w')

theorem quiet_same {P : Program} {op : (Operand → Value) → Sem Value} {α l v}
    (h : ∀ M F w ρ, (∀ x ∈ l, VR M F w (α x) (ρ x)) → ∃ v', (op ρ).run P w = .ok v' w ∧ VR M F w v v') : Quiet P op α l v :=
  fun M F w ρ _ hl => let ⟨v', h1, h2⟩ := h M F w ρ hl; ⟨v', M, w, h1, h2, Ext.refl .., fun _ _ S => S⟩

theorem run_sizeOf' {P : Program} {t : TypeId} {n : Nat} (h : szOf P t = some n) (w : World) : (sizeOf t).run P w = .ok n w := by
  unfold szOf at h
  split at h
  case h_2 => cases h
  cases hi : P.info? t with
  | none => simp [hi] at h
  | some i =>
    simp [hi] at h
    simp [sizeOf, typeInfo, hi, h]

theorem run_isAgg' {P : Program} {t : TypeId} {d : TypeDesc} (h : P.underlying t = some d) (w : World) : (isAgg t).run P w = .ok (aggOf P t) w := by
  unfold aggOf
  rw [h]
  cases d <;> simp [isAgg, run_underlying h]

def aggD : TypeDesc → Bool
  | .struct _ | .array _ _ => true
  | _ => false

theorem run_isAgg_plain' {P : Program} {t : TypeId} {d : TypeDesc} (h : P.underlying t = some d) (hd : aggD d = false) (w : World) :
    (isAgg t).run P w = .ok false w := by
  cases d <;> first | (simp [aggD] at hd; done) | simp [isAgg, run_underlying h]

/-! ### numbers -/
theorem intBin_sound {op k a b} {K : AV → Prop} (h : intBin op k a b K) (hs : op ≠ .shl ∧ op ≠ .shr) (P : Program) (t : TypeId) :
    ∃ v, K v ∧ ∀ M F w, ∃ v', (binOp op t (.int k a) (.int k b)).run P w = .ok v' w ∧ VR M F w v v' := by
  cases op <;> simp only [intBin] at h
  case quo => exact ⟨_, h.2, fun M F w => ⟨_, by simp [binOp, Op.intDiv, h.1] <;> rfl, .int ..⟩⟩
  case rem => exact ⟨_, h.2, fun M F w => ⟨_, by simp [binOp, Op.intDiv, h.1] <;> rfl, .int ..⟩⟩
  case add => exact ⟨_, h, fun M F w => ⟨_, by simp [binOp, Op.intArith] <;> rfl, .int ..⟩⟩
  case sub => exact ⟨_, h, fun M F w => ⟨_, by simp [binOp, Op.intArith] <;> rfl, .int ..⟩⟩
  case mul => exact ⟨_, h, fun M F w => ⟨_, by simp [binOp, Op.intArith] <;> rfl, .int ..⟩⟩
  case and => exact ⟨_, h, fun M F w => ⟨_, by simp [binOp, Op.intBits] <;> rfl, .int ..⟩⟩
  case or => exact ⟨_, h, fun M F w => ⟨_, by simp [binOp, Op.intBits] <;> rfl, .int ..⟩⟩
  case xor => exact ⟨_, h, fun M F w => ⟨_, by simp [binOp, Op.intBits] <;> rfl, .int ..⟩⟩
  case andNot => exact ⟨_, h, fun M F w => ⟨.int k (bits2 k (fun x y => x &&& ~~~y) a b), by simp only [binOp, Op.intBits]; rw [if_neg (by simp)]; rfl, .int ..⟩⟩
  case eql => exact ⟨_, h, fun M F w => ⟨_, by simp [binOp, Op.intCmp] <;> rfl, .bool ..⟩⟩
  case neq => exact ⟨_, h, fun M F w => ⟨_, by simp [binOp, Op.intCmp] <;> rfl, .bool ..⟩⟩
  case lss => exact ⟨_, h, fun M F w => ⟨_, by simp [binOp, Op.intCmp] <;> rfl, .bool ..⟩⟩
  case leq => exact ⟨_, h, fun M F w => ⟨_, by simp [binOp, Op.intCmp] <;> rfl, .bool ..⟩⟩
  case gtr => exact ⟨_, h, fun M F w => ⟨_, by simp [binOp, Op.intCmp] <;> rfl, .bool ..⟩⟩
  case geq => exact ⟨_, h, fun M F w => ⟨_, by simp [binOp, Op.intCmp] <;> rfl, .bool ..⟩⟩

theorem shiftBin_sound {op k a b yk} {K : AV → Prop} (h : shiftBin op k a b K) (P : Program) (t : TypeId) :
    ∃ v, K v ∧ ∀ M F w, ∃ v', (binOp op t (.int k a) (.int yk b)).run P w = .ok v' w ∧ VR M F w v v' := by
  cases op <;> simp only [shiftBin] at h
  case shl => exact ⟨_, h.2, fun M F w => ⟨_, by simp [binOp, Op.shift, show ¬ b < 0 by omega] <;> rfl, .int ..⟩⟩
  case shr => exact ⟨_, h.2, fun M F w => ⟨_, by simp [binOp, Op.shift, show ¬ b < 0 by omega] <;> rfl, .int ..⟩⟩

theorem beq_list (a b : ByteArray) : (a.toList == b.toList) = (a.data.toList == b.data.toList) := by rw [toList_data, toList_data]

theorem strCmp_sound {op a b} {K : AV → Prop} (h : strCmp op a b K) (P : Program) (t : TypeId) :
    ∃ v, K v ∧ ∀ M F w (x y : ByteArray), x.data.toList = a → y.data.toList = b → ∃ v', (binOp op t (.string x) (.string y)).run P w = .ok v' w ∧ VR M F w v v' := by
  cases op <;> simp only [strCmp] at h
  case add =>
    refine ⟨_, h.2, fun M F w x y hx hy => ⟨.string (x ++ y), ?_, VR.str' ?_⟩⟩
    · have h1 : x.size = a.length := by rw [← hx]; rfl
      have h2 : y.size = b.length := by rw [← hy]; rfl
      have h3 : ¬ (((x.size + y.size : Nat) : Int) > IntKind.i64.max) := by rw [h1, h2]; simp [IntKind.max, IntKind.signed, IntKind.bits]; omega
      simp only [binOp, Op.stringOp, if_neg h3, Sem.run_pure]
    · subst hx; subst hy; simp [ByteArray.data_append]
  all_goals first
    | exact h.elim
    | (refine ⟨_, h, fun M F w x y hx hy => ⟨_, ?_, .bool _⟩⟩
       simp only [binOp, Op.stringOp, Sem.run_pure, toList_data, hx, hy])


/-! ### equality -/
theorem aeq1_sound {d x y r} (h : aeq1 d x y = some r) {P : Program} {t : TypeId} (ht : P.underlying t = some d) (n : Nat) {M F w x' y'} (hx : VR M F w x x') (hy : VR M F w y y') :
    (Op.equalIn (n + 1) t x' y').run P w = .ok r w := by
  unfold aeq1 at h
  split at h
  case h_17 => cases h
  case h_3 =>
    cases hx; cases hy
    simp at h
    simp [Op.equalIn, run_underlying ht, ← h, beq_toListBytes, toList_data]
  case h_2 =>
    cases hx; cases hy
    split at h
    · rename_i hk; subst hk; simp at h; simp [Op.equalIn, run_underlying ht, ← h]
    · cases h
  all_goals
    cases hx <;> cases hy <;>
    first
      | (simp at h; simp [Op.equalIn, run_underlying ht, ← h]; done)
      | (cases h; simp [Op.equalIn, run_underlying ht])

theorem aeq1_flat {d x y r} (h : aeq1 d x y = some r) : aggD d = false := by
  unfold aeq1 at h
  split at h <;> first | rfl | cases h

theorem aeqFs_sound {P : Program} {M F w} {xs ys : List AV} {A B : Array Value} (hA : A.size = xs.length) (hB : B.size = ys.length)
    (va : ∀ j (h : j < xs.length) (h' : j < A.size), VR M F w xs[j] A[j]) (vb : ∀ j (h : j < ys.length) (h' : j < B.size), VR M F w ys[j] B[j]) (n : Nat) :
    ∀ (fs : List Field) (r : Bool), aeqFs P fs xs ys = some r → (Op.eqFields (n + 1) A B fs).run P w = .ok r w := by
  intro fs
  induction fs with
  | nil => intro r h; simp [aeqFs] at h; simp [Op.eqFields, h]
  | cons f fs ih =>
    intro r h
    simp only [aeqFs] at h
    split at h
    · cases h
    · rename_i hn
      split at h
      · rename_i d x y hd hx hy
        obtain ⟨h1, e1⟩ := List.getElem?_eq_some_iff.1 hx
        obtain ⟨h2, e2⟩ := List.getElem?_eq_some_iff.1 hy
        have v1 := va _ h1 (by omega)
        have v2 := vb _ h2 (by omega)
        rw [e1] at v1
        rw [e2] at v2
        split at h
        · rename_i he
          have hag : (isAgg f.type).run P w = .ok false w := run_isAgg_plain' hd (aeq1_flat he) w
          have hp1 : (part f.type A f.offset).run P w = .ok A[f.offset] w := by
            simp [part, hag, Array.getElem?_eq_getElem (show f.offset < A.size by omega)]
          have hp2 : (part f.type B f.offset).run P w = .ok B[f.offset] w := by
            simp [part, hag, Array.getElem?_eq_getElem (show f.offset < B.size by omega)]
          have hq := aeq1_sound he hd n v1 v2
          simp [Op.eqFields, hn, hp1, hp2, hq, ih r h]
        · rename_i he
          have hag : (isAgg f.type).run P w = .ok false w := run_isAgg_plain' hd (aeq1_flat he) w
          have hp1 : (part f.type A f.offset).run P w = .ok A[f.offset] w := by
            simp [part, hag, Array.getElem?_eq_getElem (show f.offset < A.size by omega)]
          have hp2 : (part f.type B f.offset).run P w = .ok B[f.offset] w := by
            simp [part, hag, Array.getElem?_eq_getElem (show f.offset < B.size by omega)]
          have hq := aeq1_sound he hd n v1 v2
          cases h
          simp [Op.eqFields, hn, hp1, hp2, hq]
        · cases h
      · cases h

theorem aeq_sound {P : Program} {t x y r} (h : aeq P t x y = some r) {M F w x' y'} (hx : VR M F w x x') (hy : VR M F w y y') :
    (Op.equal t x' y').run P w = .ok r w := by
  unfold aeq at h
  split at h
  · rename_i fs hd
    split at h
    · rename_i xs ys
      split at h
      · cases h
      · rename_i hg
        simp at hg
        cases hx with
        | agg _ A ha va =>
        cases hy with
        | agg _ B hb vb =>
        have hf : P.fieldsOf t = fs := by simp [Program.fieldsOf, hd]
        rw [show Op.equal t (.agg A) (.agg B) = Op.equalIn 10000 t (.agg A) (.agg B) from rfl, run_equalIn_struct w 9999 t A B (by rw [hf]; exact hd) hg.1, hf]
        exact aeqFs_sound ha hb va vb 9998 _ _ h
    · cases h
  · rename_i d hnot hd
    exact aeq1_sound h hd 9999 hx hy
  · cases h

theorem eqGuardIn_nil {P : Program} {t : TypeId} {ms : Array (String × TypeId)} (hd : P.underlying t = some (.interface ms)) (h : ms.isEmpty = true) (n : Nat) (w : World) : (Op.eqGuardIn (n + 1) t .nilIface .nilIface).run P w = .ok false w := by
  simp only [Op.eqGuardIn, Sem.run_bind, run_underlying hd, Result.andThen_ok, Sem.run_pure, h, Bool.not_true]
theorem eqGuard_nil {P : Program} {op : BinOp} {t : TypeId} {ms : Array (String × TypeId)} (hd : P.underlying t = some (.interface ms)) (h : ms.isEmpty = true) (xo yo : Operand) (w : World) : (eqGuard op t xo yo .nilIface .nilIface).run P w = .ok () w := by
  have e : (Op.eqGuardIn Op.maxDepth t .nilIface .nilIface).run P w = .ok false w := eqGuardIn_nil hd h 9999 w
  unfold eqGuard
  cases op <;> simp only [Bool.not_true, Bool.not_false, Bool.false_eq_true, if_false, if_true, Sem.run_pure] <;> (split <;> simp [Sem.run_bind, e, Result.andThen])

theorem eqGuard_VR {P : Program} {op t x y r} (h : aeq P t x y = some r) {M F w x' y'} (hx : VR M F w x x') (hy : VR M F w y y') (xo yo : Operand) :
    (eqGuard op t xo yo x' y').run P w = .ok () w := by
  unfold aeq at h
  split at h
  · rename_i fs hd
    split at h
    · split at h
      · cases h
      · rename_i hg
        simp at hg
        cases hx; cases hy
        exact run_eqGuard_agg w op t xo yo _ _ hg.2
    · cases h
  · rename_i d hnot hd
    unfold aeq1 at h
    split at h <;> first
      | (cases h; done)
      | (cases hx <;> cases hy <;> (cases op <;> simp [eqGuard]; done))
      | (cases hx; cases hy
         split at h
         · exact eqGuard_nil hd ‹_› xo yo w
         · cases h)
  · cases h

theorem eqGuard_int {P : Program} {op t k k' a b w} (xo yo : Operand) : (eqGuard op t xo yo (.int k a) (.int k' b)).run P w = .ok () w := by
  cases op <;> simp [eqGuard]
theorem eqGuard_str {P : Program} {op t a b w} (xo yo : Operand) : (eqGuard op t xo yo (.string a) (.string b)).run P w = .ok () w := by
  cases op <;> simp [eqGuard]

theorem run_binOp_eql {P : Program} {t x y r} (h : aeq P t x y = some r) {M F w x' y'} (hx : VR M F w x x') (hy : VR M F w y y')
    (hn : ∀ k k' a b, ¬ (x = .int k a ∧ y = .int k' b)) (hs : ∀ a b, ¬ (x = .str a ∧ y = .str b)) :
    (binOp .eql t x' y').run P w = .ok (.bool r) w ∧ (binOp .neq t x' y').run P w = .ok (.bool (!r)) w := by
  have he := aeq_sound h hx hy
  have key : ∀ (k : IntKind) (a : Int) (k' : IntKind) (b : Int), ¬ (x' = .int k a ∧ y' = .int k' b) := by
    rintro k a k' b ⟨rfl, rfl⟩
    cases hx <;> cases hy <;> first | exact hn _ _ _ _ ⟨rfl, rfl⟩ | (unfold aeq aeq1 at h; (repeat' split at h) <;> simp_all)
  unfold aeq at h
  split at h
  · split at h
    · cases hx; cases hy; constructor <;> (simp only [binOp]; simp [he])
    · cases h
  · unfold aeq1 at h
    split at h <;> first
      | (cases h; done)
      | exact absurd ⟨rfl, rfl⟩ (hn _ _ _ _)
      | exact absurd ⟨rfl, rfl⟩ (hs _ _)
      | (cases hx <;> cases hy <;> (constructor <;> (simp only [binOp]; simp [he])))
      | cases h
  · cases h

theorem abin_sound {P : Program} {op t x y} {K : AV → Prop} (h : abin P op t x y K) :
    ∃ v, K v ∧ ∀ M F w x' y' xo yo, VR M F w x x' → VR M F w y y' → ∃ v', (do eqGuard op t xo yo x' y'; binOp op t x' y' : Sem Value).run P w = .ok v' w ∧ VR M F w v v' := by
  unfold abin at h
  split at h
  · rename_i k a k' b
    split at h
    · obtain ⟨v, hv, hh⟩ := shiftBin_sound (yk := k') h P t
      refine ⟨v, hv, fun M F w x' y' xo yo hx hy => ?_⟩
      rw [hx.int_inv, hy.int_inv]
      obtain ⟨v', h1, h2⟩ := hh M F w
      exact ⟨v', by simp [eqGuard_int, h1], h2⟩
    · obtain ⟨v, hv, hh⟩ := shiftBin_sound (yk := k') h P t
      refine ⟨v, hv, fun M F w x' y' xo yo hx hy => ?_⟩
      rw [hx.int_inv, hy.int_inv]
      obtain ⟨v', h1, h2⟩ := hh M F w
      exact ⟨v', by simp [eqGuard_int, h1], h2⟩
    · rename_i n1 n2
      obtain ⟨rfl, h⟩ := h
      obtain ⟨v, hv, hh⟩ := intBin_sound h ⟨n1, n2⟩ P t
      refine ⟨v, hv, fun M F w x' y' xo yo hx hy => ?_⟩
      rw [hx.int_inv, hy.int_inv]
      obtain ⟨v', h1, h2⟩ := hh M F w
      exact ⟨v', by simp [eqGuard_int, h1], h2⟩
  · rename_i a b
    obtain ⟨v, hv, hh⟩ := strCmp_sound h P t
    refine ⟨v, hv, fun M F w x' y' xo yo hx hy => ?_⟩
    obtain ⟨b1, rfl, e1⟩ := hx.str_inv
    obtain ⟨b2, rfl, e2⟩ := hy.str_inv
    obtain ⟨v', h1, h2⟩ := hh M F w b1 b2 e1 e2
    exact ⟨v', by simp [eqGuard_str, h1], h2⟩
  · rename_i n1 n2
    split at h
    · obtain ⟨r, hr, hk⟩ := h
      refine ⟨_, hk, fun M F w x' y' xo yo hx hy => ⟨.bool r, ?_, .bool r⟩⟩
      have := (run_binOp_eql hr hx hy (fun k k' a b hh => n1 k a k' b hh.1 hh.2) (fun a b hh => n2 a b hh.1 hh.2)).1
      simp [eqGuard_VR hr hx hy, this]
    · obtain ⟨r, hr, hk⟩ := h
      refine ⟨_, hk, fun M F w x' y' xo yo hx hy => ⟨.bool (!r), ?_, .bool _⟩⟩
      have := (run_binOp_eql hr hx hy (fun k k' a b hh => n1 k a k' b hh.1 hh.2) (fun a b hh => n2 a b hh.1 hh.2)).2
      simp [eqGuard_VR hr hx hy, this]
    · exact h.elim

end Go.Abs
