/- Regions: in the order of the text, and in whatever order is drawn; no condition. -/
import Derived.Test.YthifgodgfhbnfaaDoorAbs11
namespace Go.Abs
open Go

def guardOf (ops : Array Oper) (o : Oper) : Option (Option (Nat × Bool)) :=
  match o.guard with
  | none => some none
  | some (j, want) =>
    match (ops[j]?).bind (·.dst) with
    | some d => some (some (d, want))
    | none => none

theorem wanted_core {ops : Array Oper} {o : Oper} {g : Option (Nat × Bool)} (hg : guardOf ops o = some g) {M F w} {a : Nat → AV} {ac : Act} (f : ∀ d want, g = some (d, want) → VR M F w (a d) (ac.tmps.getD d undef))
    {yes no : Prop} (h : acond a g yes no) : (Region.wanted o (yielded ops ac.tmps) = true ∧ yes) ∨ (Region.wanted o (yielded ops ac.tmps) = false ∧ no) := by
  unfold guardOf at hg
  split at hg
  · rename_i hn
    cases hg
    exact .inl ⟨by simp [Region.wanted, hn], h⟩
  · rename_i j want hj
    split at hg
    · rename_i d hd
      cases hg
      have hv := f d want rfl
      have hy : yielded ops ac.tmps j = match ac.tmps[d]? with | some (.bool b) => some b | _ => none := by
        unfold yielded; rw [hd]; rfl
      simp only [acond] at h
      split at h
      · rename_i b hb
        rw [hb] at hv
        have hc := hv.bool_inv
        have he : ac.tmps[d]? = some (.bool b) := by
          rw [Array.getD_eq_getD_getElem?] at hc
          cases hq : ac.tmps[d]? with
          | none => rw [hq] at hc; cases hc
          | some x => rw [hq] at hc; simp at hc; rw [hc]
        rw [he] at hy
        simp only at hy
        by_cases hbw : b = want
        · exact .inl ⟨by simp [Region.wanted, hj, hy, hbw], h.1 hbw⟩
        · exact .inr ⟨by simp [Region.wanted, hj, hy]; exact hbw, h.2 hbw⟩
      · rename_i hb
        rw [hb] at hv
        have he : ∀ b, ac.tmps[d]? ≠ some (.bool b) := by
          intro b hq
          rw [Array.getD_eq_getD_getElem?, hq] at hv
          simp at hv
          cases hv
        have hy2 : yielded ops ac.tmps j = none := by
          rw [hy]; split
          · exact absurd ‹_› (he _)
          · rfl
        exact .inr ⟨by simp [Region.wanted, hj, hy2], h⟩
      · exact h.elim
    · cases hg

theorem wanted_cond {ops : Array Oper} {o : Oper} {g : Option (Nat × Bool)} (hg : guardOf ops o = some g) {M F w a ac n} (f : Fr M F w a ac n) {yes no : Prop} (h : acond a g yes no) :
    (Region.wanted o (yielded ops ac.tmps) = true ∧ yes) ∨ (Region.wanted o (yielded ops ac.tmps) = false ∧ no) := wanted_core hg (fun d _ _ => f.val d) h

/-- what a planned list must be of the operations -/
def planOf (ops : Array Oper) (o : Oper) (again : List AG) : Option PO := (guardOf ops o).map fun g => ⟨o.dst, o.op, g, again⟩

/-- the operations in the order of the text -/
def plainPlan (n : Nat) (ops : Array Oper) : List Oper → Option (List PO)
  | [] => some []
  | o :: r => if dstIn n o.dst then (planOf ops o []).bind fun p => (plainPlan n ops r).map fun l => p :: l else none

theorem undef_VR (M F w) : VR M F w (.tuple []) undef := .tuple _ _ rfl fun _ h => absurd h (Nat.not_lt_zero _)

theorem plain_sound {P : Program} {G : Env} {n : Nat} {ops : Array Oper} {Q : AQ} {ro : Option Nat} {D : List Deferred} {M0 F0 w0} :
    ∀ (l : List Oper) (pl : List PO) (a : Nat → AV) (σ : AS) (M : Mp) (w : World) (ac : Act), plainPlan n ops l = some pl → aops P G Q pl a σ → Sim M σ w → GOk P G M σ.F w → Ext M0 F0 w0 M σ.F w → Fr M σ.F w a ac n →
      ac.defers = D → wpListIn (wideAt ro) 0 P ops (QC P G n D M0 F0 w0 Q) l ac w := by
  intro l
  induction l with
  | nil =>
    intro pl a σ M w ac hp h S g E f hD
    simp only [plainPlan, Option.some.injEq] at hp
    subst hp
    exact ⟨.normal, a, σ, M, h, trivial, S, g, E, f, hD⟩
  | cons o r ih =>
    intro pl a σ M w ac hp h S g E f hD
    simp only [plainPlan] at hp
    split at hp
    · rename_i hd
      simp only [planOf] at hp
      cases hg : guardOf ops o with
      | none => simp [hg] at hp
      | some gd =>
        cases hr : plainPlan n ops r with
        | none => simp [hg, hr] at hp
        | some pr =>
          simp [hg, hr] at hp
          subst hp
          simp only [aops] at h
          unfold wpListIn
          rcases wanted_cond hg f h with ⟨hw, hy⟩ | ⟨hw, hno⟩
          · rw [if_pos hw]
            refine aop1_sound hy hd S g E f hD (fun a' σ' M' ac' w' hK S' g' E' f' hD' => ?_)
            exact ih pr a' σ' M' w' ac' hr hK.2 S' g' E' f' hD'
          · rw [if_neg (by rw [hw]; simp)]
            refine ⟨fun _ _ => trivial, ?_⟩
            exact ih pr _ σ M w _ hr hno S g E (f.put hd (undef_VR ..)) (by rw [put_defers, hD])
    · cases hp

/-! ### slots that are not written -/
/-- the slots of which W does not hold are as they were -/
def KeptB (W : Nat → Bool) (a a' : Act) : Prop := ∀ t, W t = false → a'.tmps.getD t undef = a.tmps.getD t undef
theorem KeptB.refl (W a) : KeptB W a a := fun _ _ => rfl
theorem KeptB.trans {W a b c} (h : KeptB W a b) (k : KeptB W b c) : KeptB W a c := fun t ht => (k t ht).trans (h t ht)
theorem KeptB.put {W : Nat → Bool} {a : Act} {d : Option Tmp} {v : Value} (h : ∀ t, d = some t → W t = true) : KeptB W a (a.put d v) := by
  intro t ht
  cases d with
  | none => rfl
  | some d =>
    have hne : d ≠ t := by rintro rfl; rw [h d rfl] at ht; cases ht
    simp only [Act.put, Array.getD_eq_getD_getElem?, Array.getElem?_setIfInBounds_ne hne]
/-- the end's frame, too -/
def QKept (W : Nat → Bool) (a : Act) (Q : Exit → Act → World → Prop) : Exit → Act → World → Prop := fun e a' w' => Q e a' w' ∧ (e ≠ .outgrown → KeptB W a a')
theorem LetsOut.kept {W a Q} (h : LetsOut Q) : LetsOut (QKept W a Q) := let ⟨a0, w0, h⟩ := h; ⟨a0, w0, h, fun e => absurd rfl e⟩
theorem put_tmps (a : Act) (D : List Deferred) (d : Option Tmp) (v : Value) : ({ a with defers := D }.put d v).tmps = (a.put d v).tmps := by cases d <;> rfl
theorem wpIn_kept_op {F : Fence} {n : Nat} {P : Program} {o : Oper} {a a0 : Act} {w : World} {K K' : Act → World → Prop} {Q : Exit → Act → World → Prop} {W : Nat → Bool} (h0 : KeptB W a0 a)
    (h : o.wpIn F n P a w K Q) (hK : ∀ v a' w', a'.tmps = (a.put o.dst v).tmps → K a' w' → K' a' w') : o.wpIn F n P a w K' (QKept W a0 Q) := by
  refine ⟨h.1, ?_⟩
  have h2 := h.2
  generalize (o.semAt F.round a.eval).run P w = r at h2
  cases r with
  | ok x w' =>
    cases x with
    | value v => exact hK _ _ _ rfl h2
    | skip => exact hK _ _ _ rfl h2
    | defer d => exact hK _ _ _ (put_tmps ..) h2
    | enter f args =>
      refine ⟨h2.1, h2.2.mono fun e w'' he => ?_⟩
      cases e with
      | returned v => exact hK _ _ _ rfl he
      | panicked ch => exact ⟨he, fun _ => h0⟩
      | outgrown => exact LetsOut.kept he
    | round l f tmps assign body =>
      refine ⟨h2.1, h2.2.mono fun e w'' he => ?_⟩
      cases e with
      | returned v => exact hK _ _ _ rfl he
      | panicked ch => exact ⟨he, fun _ => h0⟩
      | outgrown => exact LetsOut.kept he
    | row row args => exact ⟨h2.1, h2.2.mono fun v w'' he => hK _ _ _ rfl he⟩
    | _ => exact h2.elim
  | halt x w' =>
    cases x with
    | panic v => exact ⟨h2, fun _ => h0⟩
    | _ => exact h2.elim
theorem KeptB.of_tmps {W a b c} (h : KeptB W a b) (e : c.tmps = b.tmps) : KeptB W a c := fun t ht => by rw [e]; exact h t ht
theorem wpListIn_kept {F : Fence} {n : Nat} {P : Program} {ops : Array Oper} {Q : Exit → Act → World → Prop} {W : Nat → Bool} {a0 : Act} : ∀ (l : List Oper) (a : Act) (w : World), (∀ o ∈ l, ∀ t, o.dst = some t → W t = true) → KeptB W a0 a →
    wpListIn F n P ops Q l a w → wpListIn F n P ops (QKept W a0 Q) l a w
  | [], a, w, _, h0, h => ⟨h, fun _ => h0⟩
  | o :: l, a, w, hd, h0, h => by
    unfold wpListIn at h ⊢
    have hp : ∀ v, KeptB W a0 (a.put o.dst v) := fun v => h0.trans (.put (hd o (by simp)))
    split at h
    · rename_i hw
      rw [if_pos hw]
      exact wpIn_kept_op h0 h fun v a' w' e hk => wpListIn_kept l _ w' (fun x hx => hd x (by simp [hx])) ((hp v).of_tmps e) hk
    · rename_i hw
      rw [if_neg hw]
      exact ⟨h.1, wpListIn_kept l _ w (fun x hx => hd x (by simp [hx])) (hp _) h.2⟩
theorem wpAnyIn_kept {F : Fence} {n : Nat} {P : Program} {md : Region.Mode} {ops : Array Oper} {Q : Exit → Act → World → Prop} {W : Nat → Bool} {a0 : Act} (hd : ∀ (i : Nat) (o : Oper), ops[i]? = some o → ∀ t, o.dst = some t → W t = true) :
    ∀ (fuel : Nat) (listed : Array Bool) (a : Act) (w : World), KeptB W a0 a → wpAnyIn F n P md ops Q fuel listed a w → wpAnyIn F n P md ops (QKept W a0 Q) fuel listed a w
  | 0, listed, a, w, h0, h => ⟨h.1, h.2, fun _ => h0⟩
  | fuel + 1, listed, a, w, h0, h => by
    refine ⟨fun hr => ⟨h.1 hr, fun _ => h0⟩, fun i hi => ?_⟩
    have h2 := h.2 i hi
    unfold wpOpIn at h2 ⊢
    cases ho : ops[i]? with
    | none =>
      simp only [ho] at h2 ⊢
      exact wpAnyIn_kept hd fuel _ a w h0 h2
    | some o =>
      simp only [ho] at h2 ⊢
      have hp : ∀ v, KeptB W a0 (a.put o.dst v) := fun v => h0.trans (.put (hd i o ho))
      split at h2
      · rename_i hw
        rw [if_pos hw]
        exact wpIn_kept_op h0 h2 fun v a' w' e hk => wpAnyIn_kept hd fuel _ _ w' ((hp v).of_tmps e) hk
      · rename_i hw
        rw [if_neg hw]
        exact ⟨h2.1, wpAnyIn_kept hd fuel _ _ w (hp _) h2.2⟩

/-- what is known at a panic, told -/
theorem QC_pf {P G n D M0 F0 w0} {Q : AQ} {l : List PO} {a : Nat → AV} {M : Mp} {F : Nat → FSt} {w : World} {ac : Act} (E0 : Ext M0 F0 w0 M F w) (f : Fr M F w a ac n) {e : Exit} {ac' : Act} {w' : World}
    (h : QKept (fun t => l.any fun o => o.dst == some t) ac (QC P G n D M F w (withPf (hide l a) Q)) e ac' w') : QC P G n D M0 F0 w0 Q e ac' w' := by
  obtain ⟨⟨e', a', σ', M', q, r, S', g', E', f', hD'⟩, hk⟩ := h
  cases e' with
  | panic v =>
    cases e <;> simp only [ERel] at r
    refine ⟨.panic v, hide l a, σ', M', q, r, S', g', E0.trans E', ⟨f'.size, fun t => ?_⟩, hD'⟩
    unfold hide
    cases hw : l.any fun o => o.dst == some t with
    | true => simpa using VR.undef _
    | false =>
      rw [hk (by simp) t hw]
      simpa using (f.val t).mono E'
  | normal => exact ⟨.normal, a', σ', M', q, r, S', g', E0.trans E', f', hD'⟩
  | exit i => exact ⟨.exit i, a', σ', M', q, r, S', g', E0.trans E', f', hD'⟩
  | ret => exact ⟨.ret, a', σ', M', q, r, S', g', E0.trans E', f', hD'⟩

theorem plainPlan_dst {n : Nat} {ops : Array Oper} : ∀ (l : List Oper) (pl : List PO), plainPlan n ops l = some pl → ∀ o ∈ l, ∀ t, o.dst = some t → (pl.any fun o => o.dst == some t) = true
  | [], _, _, o, ho, _, _ => by cases ho
  | x :: l, pl, hp, o, ho, t, ht => by
    simp only [plainPlan] at hp
    split at hp
    · simp only [planOf, Option.bind_eq_some_iff, Option.map_eq_some_iff] at hp
      obtain ⟨p, ⟨gd, hgd, rfl⟩, pr, hpr, rfl⟩ := hp
      rcases List.mem_cons.1 ho with rfl | ho
      · simp [ht]
      · have := plainPlan_dst l pr hpr o ho t ht
        simp only [List.any_cons, this, Bool.or_true]
    · cases hp

theorem region_plain {P : Program} {G : Env} {n id : Nat} {ops : Array Oper} {pl : List PO} (hp : plainPlan n ops ops.toList = some pl) {Q : AQ} {a σ} (h : aops P G (withPf (hide pl a) Q) pl a σ) : AWp P G n (.region id ops false) Q a σ :=
  fun _ _ _ _ _ M w ac S g E f hD => wpIn_mono (wpIn_region_list (wpListIn_kept (W := fun t => pl.any fun o => o.dst == some t) (a0 := ac) _ _ _ (fun o ho t ht => plainPlan_dst _ _ hp o ho t ht) (KeptB.refl _ _) (plain_sound ops.toList pl a σ M w ac hp h S g (.refl ..) f hD)))
    fun _ _ _ hq => QC_pf E f hq

/-! ### a drawn order -/
def isLoad : Op → Bool
  | .load .. => true
  | _ => false

/-- the slots that an operation names -/
def slotsOf (ops : Array Oper) (o : Oper) : List Nat :=
  (o.op.operands.toList.filterMap fun | .tmp t => some t | _ => none) ++ (match o.guard with | some (j, _) => ((ops[j]?).bind (·.dst)).toList | none => [])

def bindsAny (e : Edge) : Bool := Region.binds .any e

/-- is k ahead of i, by the masks? -/
def ahead (A : Array Nat) (k i : Nat) : Bool := (A.getD i 0).testBit k

def maskOk (ops : Array Oper) (A : Array Nat) : Bool :=
  (List.range ops.size).all fun i =>
    match ops[i]? with
    | some o => A.getD i 0 == o.after.toList.foldl (fun s e => if bindsAny e then s ||| 2 ^ e.on ||| A.getD e.on 0 else s) 0
    | none => false

theorem foldl_or_bit {α : Type} (p : α → Bool) (f : α → Nat) (k : Nat) : ∀ (l : List α) (s : Nat),
    (l.foldl (fun s e => if p e then s ||| f e else s) s).testBit k = true ↔ (s.testBit k = true ∨ ∃ e ∈ l, p e = true ∧ (f e).testBit k = true) := by
  intro l
  induction l with
  | nil => intro s; simp
  | cons e l ih =>
    intro s
    simp only [List.foldl_cons, ih, List.mem_cons, exists_eq_or_imp]
    by_cases hp : p e = true
    · simp only [hp, if_true, Nat.testBit_or, Bool.or_eq_true, true_and]
      constructor
      · rintro ((h | h) | h)
        · exact .inl h
        · exact .inr (.inl h)
        · exact .inr (.inr h)
      · rintro (h | h | h)
        · exact .inl (.inl h)
        · exact .inl (.inr h)
        · exact .inr h
    · simp [hp]

theorem mask_spec {ops : Array Oper} {A : Array Nat} (h : maskOk ops A = true) {i : Nat} {o : Oper} (ho : ops[i]? = some o) {k : Nat} (hk : ahead A k i = true) :
    ∃ e ∈ o.after.toList, bindsAny e = true ∧ (e.on = k ∨ ahead A k e.on = true) := by
  have hi : i < ops.size := (Array.getElem?_eq_some_iff.1 ho).1
  simp only [maskOk, List.all_eq_true, List.mem_range] at h
  have := h i hi
  rw [ho] at this
  simp only [beq_iff_eq] at this
  unfold ahead at hk
  rw [this] at hk
  have e2 : (fun (s : Nat) (e : Edge) => if bindsAny e then s ||| 2 ^ e.on ||| A.getD e.on 0 else s) = fun s e => if bindsAny e then s ||| (2 ^ e.on ||| A.getD e.on 0) else s := by
    funext s e; rw [Nat.or_assoc]
  rw [e2, foldl_or_bit] at hk
  rcases hk with h0 | ⟨e, he, hb, hbit⟩
  · simp at h0
  · refine ⟨e, he, hb, ?_⟩
    rw [Nat.testBit_or, Bool.or_eq_true] at hbit
    rcases hbit with h1 | h1
    · left
      rw [Nat.testBit_two_pow] at h1
      simpa using h1
    · right; exact h1

/-- The order in which the operations are looked at: each as early as the calls and stores ahead of it allow. -/
def isE (o : Oper) : Bool := !(isPure o.op) && !(isLoad o.op)

def dstAt (ops : Array Oper) (i : Nat) : Option Nat := (ops[i]?).bind fun (o : Oper) => o.dst

/-- All that is asked of the order and of the masks. -/
structure OrdOk (n : Nat) (ops : Array Oper) (A : Array Nat) (π : List Nat) : Prop where
  mask : maskOk ops A = true
  nodup : π.Nodup
  all : ∀ i, i < ops.size → i ∈ π
  lt : ∀ i ∈ π, i < ops.size
  /-- what an operation waits for stands ahead of it -/
  edges : ∀ d1 i d2 (o : Oper) (e : Edge), π = d1 ++ i :: d2 → ops[i]? = some o → e ∈ o.after.toList → bindsAny e = true → e.on ∈ d1
  /-- two operations that touch one slot are ordered -/
  slots : ∀ i j (oi oj : Oper) t, i ≠ j → ops[i]? = some oi → ops[j]? = some oj → oi.dst = some t → (t ∈ slotsOf ops oj ∨ oj.dst = some t) → ahead A i j = true ∨ ahead A j i = true
  /-- behind a call or a store stands nothing that need not wait for it -/
  late : ∀ d1 e d2 (oe : Oper) i, π = d1 ++ e :: d2 → ops[e]? = some oe → isE oe = true → i ∈ d2 → ahead A e i = true
  dst : ∀ (i : Nat) (o : Oper), ops[i]? = some o → dstIn n o.dst = true
  /-- a load that may still be open at a call or a store: its slots are not written meanwhile -/
  keep : ∀ d1 j d2 e d3 (oj oe : Oper) t x, π = d1 ++ j :: (d2 ++ e :: d3) → ops[j]? = some oj → oj.op = .load t x → ops[e]? = some oe → isE oe = true → ahead A j e = false →
    ∃ d, oj.dst = some d ∧ ∀ k ∈ j :: (d2 ++ [e]), (∀ s ∈ slotsOf ops oj, dstAt ops k ≠ some s) ∧ (k ≠ j → dstAt ops k ≠ some d)
  sel : Region.noSelect ops = true

/-- the frame behind some operations -/
def afr (ops : Array Oper) (val : Nat → AV) : List Nat → (Nat → AV) → (Nat → AV)
  | [], a => a
  | i :: l, a => afr ops val l (put a (dstAt ops i) (val i))

theorem afr_append {ops val} : ∀ (l m : List Nat) (a : Nat → AV), afr ops val (l ++ m) a = afr ops val m (afr ops val l a)
  | [], _, _ => rfl
  | i :: l, m, a => by simp only [List.cons_append, afr]; exact afr_append l m _

theorem put_ne {a : Nat → AV} {d : Option Nat} {v : AV} {t : Nat} (h : d ≠ some t) : put a d v t = a t := by
  cases d with
  | none => rfl
  | some d => simp only [put, upd]; rw [if_neg (fun e => h (by rw [e]))]

theorem put_eq {a : Nat → AV} {v : AV} {t : Nat} : put a (some t) v t = v := by simp [put, upd]

theorem put_congr {a b : Nat → AV} {d : Option Nat} {v : AV} {t : Nat} (h : a t = b t) : put a d v t = put b d v t := by
  cases d with
  | none => exact h
  | some d => simp only [put, upd]; split <;> first | rfl | exact h

theorem afr_congr {ops val} : ∀ (l : List Nat) (a b : Nat → AV) (t : Nat), a t = b t → afr ops val l a t = afr ops val l b t
  | [], _, _, _, h => h
  | _ :: l, _, _, t, h => afr_congr l _ _ t (put_congr h)

/-- only those that write a slot matter for it -/
theorem afr_filter {ops val} (t : Nat) (p : Nat → Bool) : ∀ (l : List Nat) (a : Nat → AV), (∀ i ∈ l, p i = false → dstAt ops i ≠ some t) → afr ops val (l.filter p) a t = afr ops val l a t
  | [], _, _ => rfl
  | i :: l, a, h => by
    have ih := fun a => afr_filter (ops := ops) (val := val) t p l a (fun j hj => h j (by simp [hj]))
    cases hp : p i with
    | true => rw [List.filter_cons_of_pos hp]; exact ih _
    | false =>
      rw [List.filter_cons_of_neg (by simp [hp]), ih]
      simp only [afr]
      exact afr_congr l _ _ t (put_ne (h i (by simp) hp)).symm

theorem afr_none {ops val} (t : Nat) : ∀ (l : List Nat) (a : Nat → AV), (∀ i ∈ l, dstAt ops i ≠ some t) → afr ops val l a t = a t
  | [], _, _ => rfl
  | i :: l, a, h => by
    simp only [afr]
    rw [afr_none t l _ (fun j hj => h j (by simp [hj])), put_ne (h i (by simp))]

end Go.Abs
