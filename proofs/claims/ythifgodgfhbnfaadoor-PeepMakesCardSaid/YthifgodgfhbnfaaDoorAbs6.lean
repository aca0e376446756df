/- The quiet operations, all together; no condition. -/
import Derived.Test.YthifgodgfhbnfaaDoorAbs5
namespace Go.Abs
open Go

theorem parts_map (parts : Array (Nat × Operand)) (ρ : Operand → Value) : (parts.toList.map fun x => (x.1, ρ x.2)).toArray = parts.map fun x => (x.1, ρ x.2) := by
  rw [← List.map_toArray]

theorem isIface_spec {P : Program} {t} (h : isIface P t = some false) : ∃ d, P.underlying t = some d ∧ ∀ ms, d ≠ .interface ms := by
  unfold isIface at h
  split at h
  · simp at h
  · rename_i d hn hd; exact ⟨d, hd, fun ms e => hn ms e⟩
  · cases h

/-- what a quiet operation leaves: the value, all else as it was but for new memory that nobody names -/
def QuietOp (P : Program) (o : Oper) (α : Operand → AV) (v : AV) : Prop :=
  ∀ (M : Mp) (F : Nat → FSt) (w : World) (ρ : Operand → Value), (∀ B r, M.role B = some r → B < w.heap.size) → (∀ x ∈ o.op.operands, VR M F w (α x) (ρ x)) →
    ∃ v' M' w', (execOp ρ o).run P w = .ok (.value v') w' ∧ VR M' F w' v v' ∧ Ext M F w M' F w' ∧ (∀ σ, σ.F = F → Sim M σ w → Sim M' σ w')

theorem QuietOp.same {P : Program} {o : Oper} {α v}
    (h : ∀ M F w ρ, (∀ x ∈ o.op.operands, VR M F w (α x) (ρ x)) → ∃ v', (execOp ρ o).run P w = .ok (.value v') w ∧ VR M F w v v') : QuietOp P o α v :=
  fun M F w ρ _ hl => let ⟨v', h1, h2⟩ := h M F w ρ hl; ⟨v', M, w, h1, h2, Ext.refl .., fun _ _ S => S⟩

theorem nilCheck_VR {P : Program} {M F w v c} {o : Oper} {x : Operand} {ρ : Operand → Value} (ho : o.op = .nilCheck x) (hc : ρ x = c) (h : VR M F w v c)
    (hv : (∃ a b, v = .ptr a b) ∨ (∃ a b, v = .pv a b) ∨ (∃ f a b, v = .fn (.func f) a b)) : (execOp ρ o).run P w = .ok (.value c) w := by
  subst hc
  rcases hv with ⟨a, b, rfl⟩ | ⟨a, b, rfl⟩ | ⟨f, a, b, rfl⟩
  · obtain ⟨_, e⟩ := ptr_inv h
    unfold execOp; simp only [ho]; rw [e]; simp
  · obtain ⟨_, _, e⟩ := pv_inv h
    unfold execOp; simp only [ho]; rw [e]; simp
  · obtain ⟨A, B, e⟩ : ∃ A B, ρ x = .func (.func f) A B := by
      generalize ρ x = c at h
      cases h; exact ⟨_, _, rfl⟩
    unfold execOp; simp only [ho]; rw [e]; simp

theorem apure_sound {P : Program} {o : Oper} {α : Operand → AV} {K : AV → Prop} (h : apure P α o.op K) : ∃ v, K v ∧ QuietOp P o α v := by
  cases ho : o.op <;> rw [ho] at h
  case move x =>
    simp only [apure] at h
    exact ⟨_, h, .same fun M F w ρ hl => ⟨ρ x, by unfold execOp; simp only [ho]; simp, hl x (by rw [ho]; simp [Op.operands])⟩⟩
  case assign x =>
    simp only [apure] at h
    exact ⟨_, h, .same fun M F w ρ hl => ⟨ρ x, by unfold execOp; simp only [ho]; simp, hl x (by rw [ho]; simp [Op.operands])⟩⟩
  case pick c x y =>
    simp only [apure] at h
    obtain ⟨b, hb, h⟩ := h
    refine ⟨_, h, .same fun M F w ρ hl => ⟨if b then ρ x else ρ y, ?_, ?_⟩⟩
    · have hc := hl c (by rw [ho]; simp [Op.operands])
      rw [hb] at hc
      unfold execOp; simp only [ho]; simp [hc.bool_inv, asBool]
    · cases b
      · exact hl y (by rw [ho]; simp [Op.operands])
      · exact hl x (by rw [ho]; simp [Op.operands])
  case nilCheck x =>
    simp only [apure] at h
    have key : ((∃ a b, α x = .ptr a b) ∨ (∃ a b, α x = .pv a b) ∨ (∃ f a b, α x = .fn (.func f) a b)) ∧ K (α x) := by
      split at h
      · exact ⟨.inl ⟨_, _, ‹_›⟩, h⟩
      · exact ⟨.inr (.inl ⟨_, _, ‹_›⟩), h⟩
      · exact ⟨.inr (.inr ⟨_, _, _, ‹_›⟩), h⟩
      · exact h.elim
    refine ⟨_, key.2, .same fun M F w ρ hl => ⟨ρ x, nilCheck_VR ho rfl (hl x (by rw [ho]; simp [Op.operands])) key.1, hl x (by rw [ho]; simp [Op.operands])⟩⟩
  case binOp op t x y ty =>
    simp only [apure] at h
    obtain ⟨v, hK, hh⟩ := abin_sound h
    refine ⟨v, hK, .same fun M F w ρ hl => ?_⟩
    obtain ⟨v', h1, h2⟩ := hh M F w (ρ x) (ρ y) x y (hl x (by rw [ho]; simp [Op.operands])) (hl y (by rw [ho]; simp [Op.operands]))
    exact ⟨v', by unfold execOp; simp only [ho]; rw [Sem.run_bind, h1]; rfl, h2⟩
  case unOp op t x =>
    simp only [apure] at h
    obtain ⟨v, hK, hh⟩ := aun_sound h P
    refine ⟨v, hK, .same fun M F w ρ hl => ?_⟩
    obtain ⟨v', h1, h2⟩ := hh M F w (ρ x) (hl x (by rw [ho]; simp [Op.operands]))
    exact ⟨v', by unfold execOp; simp only [ho]; rw [Sem.run_bind, h1]; rfl, h2⟩
  case convert s d x =>
    simp only [apure] at h
    obtain ⟨v, hK, hh⟩ := aconv_sound h
    refine ⟨v, hK, .same fun M F w ρ hl => ?_⟩
    obtain ⟨v', h1, h2⟩ := hh M F w (ρ x) (hl x (by rw [ho]; simp [Op.operands]))
    exact ⟨v', by unfold execOp; simp only [ho]; rw [Sem.run_bind, h1]; rfl, h2⟩
  case makeInterface t x =>
    simp only [apure] at h
    obtain ⟨hi, hK⟩ := h
    obtain ⟨d, hd, hn⟩ := isIface_spec hi
    refine ⟨_, hK, .same fun M F w ρ hl => ⟨.iface t (ρ x), ?_, .iface t _ _ (hl x (by rw [ho]; simp [Op.operands]))⟩⟩
    unfold execOp; simp only [ho]
    cases d <;> first | exact absurd rfl (hn _) | simp [Instr.makeInterface, run_underlying hd]
  case typeAssert x xt t ok =>
    simp only [apure] at h
    split at h
    · rename_i u v hx
      obtain ⟨hi, rfl, hK⟩ := h
      obtain ⟨d, hd, hn⟩ := isIface_spec hi
      refine ⟨_, hK, .same fun M F w ρ hl => ?_⟩
      have hv := hl x (by rw [ho]; simp [Op.operands])
      rw [hx] at hv
      generalize hc : ρ x = c at hv
      cases hv with
      | iface _ _ c' hc' =>
        cases ok with
        | true =>
          refine ⟨.tuple #[c', .bool true], ?_, ?_⟩
          · unfold execOp; simp only [ho, hc]
            cases d <;> first | exact absurd rfl (hn _) | simp [Instr.typeAssert, run_underlying hd]
          · refine .tuple _ _ rfl fun j h h' => ?_
            match j, h with
            | 0, _ => exact hc'
            | 1, _ => exact .bool true
        | false =>
          refine ⟨c', ?_, hc'⟩
          unfold execOp; simp only [ho, hc]
          cases d <;> first | exact absurd rfl (hn _) | simp [Instr.typeAssert, run_underlying hd]
    · exact h.elim
  case makeFunc f first cap =>
    simp only [apure] at h
    refine ⟨_, h, .same fun M F w ρ hl => ⟨.func f (first.map ρ) (cap.map ρ), by unfold execOp; simp only [ho]; simp [Instr.makeFunc], .fn f _ _ _ _ (by simp) (by simp) (fun j h h' => ?_) (fun j h h' => ?_)⟩⟩
    · simp only [List.getElem_map, Array.getElem_map, Array.getElem_toList]
      exact hl _ (by rw [ho]; simp [Op.operands])
    · simp only [List.getElem_map, Array.getElem_map, Array.getElem_toList]
      exact hl _ (by rw [ho]; simp [Op.operands])
  case slice t x lo hi mx =>
    simp only [apure] at h
    obtain ⟨v, hK, hh⟩ := aslice_sound h
    refine ⟨v, hK, .same fun M F w ρ hl => ?_⟩
    obtain ⟨v', h1, h2⟩ := hh M F w (ρ x) ρ (hl x (by rw [ho]; simp [Op.operands])) (fun y e => hl y (by rw [ho, e]; simp [Op.operands])) (fun y e => hl y (by rw [ho, e]; simp [Op.operands]))
      (fun y e => hl y (by rw [ho, e]; simp [Op.operands]))
    exact ⟨v', by unfold execOp; simp only [ho]; rw [Sem.run_bind, h1]; rfl, h2⟩
  case fieldAddr t x f =>
    simp only [apure] at h
    obtain ⟨v, hK, hh⟩ := afieldAddr_sound h
    refine ⟨v, hK, .same fun M F w ρ hl => ?_⟩
    obtain ⟨v', h1, h2⟩ := hh M F w (ρ x) (hl x (by rw [ho]; simp [Op.operands]))
    exact ⟨v', by unfold execOp; simp only [ho]; rw [Sem.run_bind, h1]; rfl, h2⟩
  case field t x f =>
    simp only [apure] at h
    obtain ⟨v, hK, hh⟩ := afield_sound h
    refine ⟨v, hK, .same fun M F w ρ hl => ?_⟩
    obtain ⟨v', h1, h2⟩ := hh M F w (ρ x) (hl x (by rw [ho]; simp [Op.operands]))
    exact ⟨v', by unfold execOp; simp only [ho]; rw [Sem.run_bind, h1]; rfl, h2⟩
  case indexAddr t x i =>
    simp only [apure] at h
    obtain ⟨v, hK, hh⟩ := aindexAddr_sound h
    refine ⟨v, hK, .same fun M F w ρ hl => ?_⟩
    obtain ⟨v', h1, h2⟩ := hh M F w (ρ x) (ρ i) (hl x (by rw [ho]; simp [Op.operands])) (hl i (by rw [ho]; simp [Op.operands]))
    exact ⟨v', by unfold execOp; simp only [ho]; rw [Sem.run_bind, h1]; rfl, h2⟩
  case index t x i =>
    simp only [apure] at h
    obtain ⟨v, hK, hh⟩ := aindex_sound h
    refine ⟨v, hK, .same fun M F w ρ hl => ?_⟩
    obtain ⟨v', h1, h2⟩ := hh M F w (ρ x) (ρ i) (hl x (by rw [ho]; simp [Op.operands])) (hl i (by rw [ho]; simp [Op.operands]))
    exact ⟨v', by unfold execOp; simp only [ho]; rw [Sem.run_bind, h1]; rfl, h2⟩
  case extract x i =>
    simp only [apure] at h
    split at h
    · rename_i vs hx
      obtain ⟨v, hv, hK⟩ := h
      refine ⟨v, hK, .same fun M F w ρ hl => ?_⟩
      have hr := hl x (by rw [ho]; simp [Op.operands])
      rw [hx] at hr
      generalize hc : ρ x = c at hr
      cases hr with
      | tuple _ A hA va =>
      obtain ⟨h1, rfl⟩ := List.getElem?_eq_some_iff.1 hv
      refine ⟨A[i], ?_, va i h1 (by omega)⟩
      unfold execOp; simp only [ho]
      simp [Instr.extract, hc, Array.getElem?_eq_getElem (show i < A.size by omega)]
    · exact h.elim
  case build t parts =>
    simp only [apure] at h
    obtain ⟨v, hK, hh⟩ := abuild_sound h
    refine ⟨v, hK, .same fun M F w ρ hl => ?_⟩
    obtain ⟨v', h1, h2⟩ := hh M F w ρ (fun p hp => hl p.2 (by rw [ho]; simp only [Op.operands, List.mem_toArray]; exact List.mem_map_of_mem hp))
    rw [parts_map] at h1
    exact ⟨v', by unfold execOp; simp only [ho]; rw [Sem.run_bind, h1]; rfl, h2⟩
  case buildSlice t n parts =>
    simp only [apure] at h
    obtain ⟨v, hK, hh⟩ := abuildSlice_sound h
    refine ⟨v, hK, fun M F w ρ hM hl => ?_⟩
    obtain ⟨v', M', w', h1, h2⟩ := hh M F w ρ hM (fun p hp => hl p (by rw [ho]; simp only [Op.operands, List.mem_toArray]; exact hp))
    simp only [parts_map] at h1
    exact ⟨v', M', w', by unfold execOp; simp only [ho]; rw [Sem.run_bind, h1]; rfl, h2⟩
  case call c =>
    simp only [apure] at h
    split at h
    · rename_i hc
      split at h
      · rename_i t x ht hx
        obtain ⟨v, hK, hh⟩ := alen_sound h
        refine ⟨v, hK, .same fun M F w ρ hl => ?_⟩
        obtain ⟨v', h1, h2⟩ := hh M F w (ρ x) o.type (hl x (by rw [ho]; simp [Op.operands, Call.operands, ← Array.mem_toList_iff, hx]))
        have e1 : c.args.map ρ = #[ρ x] := by apply Array.ext'; simp [hx]
        have e2 : c.argTypes = #[t] := by apply Array.ext'; simp [ht]
        refine ⟨v', ?_, h2⟩
        unfold execOp; simp only [ho]
        simp only [resolve, hc, Sem.run_bind, Sem.run_pure, Result.andThen_ok, invoke, builtin, e1, e2, h1]
      · exact h.elim
    · rename_i hc
      split at h
      · rename_i t x ht hx
        obtain ⟨v, hK, hh⟩ := acap_sound h
        refine ⟨v, hK, .same fun M F w ρ hl => ?_⟩
        obtain ⟨v', h1, h2⟩ := hh M F w (ρ x) o.type (hl x (by rw [ho]; simp [Op.operands, Call.operands, ← Array.mem_toList_iff, hx]))
        have e1 : c.args.map ρ = #[ρ x] := by apply Array.ext'; simp [hx]
        have e2 : c.argTypes = #[t] := by apply Array.ext'; simp [ht]
        refine ⟨v', ?_, h2⟩
        unfold execOp; simp only [ho]
        simp only [resolve, hc, Sem.run_bind, Sem.run_pure, Result.andThen_ok, invoke, builtin, e1, e2, h1]
      · exact h.elim
    · rename_i hc
      split at h
      · rename_i x y hx
        split at h
        · rename_i k m k' n ex ey
          obtain ⟨rfl, hK⟩ := h
          refine ⟨_, hK, .same fun M F w ρ hl => ⟨.int k (min m n), ?_, .int ..⟩⟩
          have v1 := hl x (by rw [ho]; simp [Op.operands, Call.operands, ← Array.mem_toList_iff, hx])
          have v2 := hl y (by rw [ho]; simp [Op.operands, Call.operands, ← Array.mem_toList_iff, hx])
          rw [ex] at v1; rw [ey] at v2
          have e1 : c.args.map ρ = #[.int k m, .int k n] := by apply Array.ext'; simp [hx, v1.int_inv, v2.int_inv]
          unfold execOp; simp only [ho]
          simp only [resolve, hc, Sem.run_bind, Sem.run_pure, Result.andThen_ok, invoke, builtin, e1, Builtin.min_, List.foldlM_cons, List.foldlM_nil, Builtin.min2]
          congr 3; split <;> omega
        · exact h.elim
      · exact h.elim
    · rename_i hc
      split at h
      · rename_i x y hx
        split at h
        · rename_i k m k' n ex ey
          obtain ⟨rfl, hK⟩ := h
          refine ⟨_, hK, .same fun M F w ρ hl => ⟨.int k (max m n), ?_, .int ..⟩⟩
          have v1 := hl x (by rw [ho]; simp [Op.operands, Call.operands, ← Array.mem_toList_iff, hx])
          have v2 := hl y (by rw [ho]; simp [Op.operands, Call.operands, ← Array.mem_toList_iff, hx])
          rw [ex] at v1; rw [ey] at v2
          have e1 : c.args.map ρ = #[.int k m, .int k n] := by apply Array.ext'; simp [hx, v1.int_inv, v2.int_inv]
          unfold execOp; simp only [ho]
          simp only [resolve, hc, Sem.run_bind, Sem.run_pure, Result.andThen_ok, invoke, builtin, e1, Builtin.max_, List.foldlM_cons, List.foldlM_nil, Builtin.max2]
          congr 3; split <;> omega
        · exact h.elim
      · exact h.elim
    · exact h.elim
  all_goals (simp only [apure] at h)

end Go.Abs
