/- A region that draws its order: the order is reckoned, and checked by reckoning; no condition. -/
import Derived.Test.YtmbibfeiemblkaaDoorAbs15
namespace Go.Abs
open Go

def edgesB (ops : Array Oper) : List Nat → List Nat → Bool
  | _, [] => true
  | done, i :: r =>
    (match ops[i]? with
     | some o => o.after.toList.all fun e => !(bindsAny e) || done.elem e.on
     | none => true) && edgesB ops (done ++ [i]) r

theorem edgesB_spec {ops : Array Oper} : ∀ (rest done : List Nat), edgesB ops done rest = true → ∀ d1 i d2 (o : Oper) (e : Edge), rest = d1 ++ i :: d2 → ops[i]? = some o → e ∈ o.after.toList → bindsAny e = true → e.on ∈ done ++ d1
  | [], _, _, d1, i, d2, _, _, hs, _, _, _ => by simp at hs
  | x :: r, done, h, d1, i, d2, o, e, hs, ho, he, hb => by
    simp only [edgesB, Bool.and_eq_true] at h
    cases d1 with
    | nil =>
      simp at hs
      obtain ⟨rfl, rfl⟩ := hs
      rw [ho] at h
      have := List.all_eq_true.1 h.1 e he
      rw [hb] at this
      simp at this
      simpa using this
    | cons y d1 =>
      simp at hs
      obtain ⟨rfl, hs⟩ := hs
      have := edgesB_spec r (done ++ [x]) h.2 d1 i d2 o e hs ho he hb
      simpa using this

def lateB (ops : Array Oper) (A : Array Nat) : List Nat → Bool
  | [] => true
  | e :: r =>
    (match ops[e]? with
     | some o => !(isE o) || r.all fun i => ahead A e i
     | none => true) && lateB ops A r

theorem lateB_spec {ops : Array Oper} {A : Array Nat} : ∀ (l : List Nat), lateB ops A l = true → ∀ d1 e d2 (oe : Oper) i, l = d1 ++ e :: d2 → ops[e]? = some oe → isE oe = true → i ∈ d2 → ahead A e i = true
  | [], _, d1, e, d2, _, _, hs, _, _, _ => by simp at hs
  | x :: r, h, d1, e, d2, oe, i, hs, ho, hE, hi => by
    simp only [lateB, Bool.and_eq_true] at h
    cases d1 with
    | nil =>
      simp at hs
      obtain ⟨rfl, rfl⟩ := hs
      have h1 := h.1
      rw [ho] at h1
      simp only [hE, Bool.not_true, Bool.false_or] at h1
      exact List.all_eq_true.1 h1 i hi
    | cons y d1 =>
      simp at hs
      obtain ⟨rfl, hs⟩ := hs
      exact lateB_spec r h.2 d1 e d2 oe i hs ho hE hi

/-- a load's slots are not written by these -/
def keepJ (ops : Array Oper) (A : Array Nat) (e : Nat) : List Nat → Bool
  | [] => true
  | j :: r =>
    (match ops[j]? with
     | some o => !(isLoad o.op) || ahead A j e ||
        (match o.dst with
         | some d => (j :: (r ++ [e])).all fun k => (match dstAt ops k with | some s => !((slotsOf ops o).elem s) && (k == j || !(s == d)) | none => true)
         | none => false)
     | none => true) && keepJ ops A e r

theorem keepJ_spec {ops : Array Oper} {A : Array Nat} {e : Nat} : ∀ (l : List Nat), keepJ ops A e l = true → ∀ d1 j d2 (oj : Oper) t x, l = d1 ++ j :: d2 → ops[j]? = some oj → oj.op = .load t x → ahead A j e = false →
    ∃ d, oj.dst = some d ∧ ∀ k ∈ j :: (d2 ++ [e]), (∀ s ∈ slotsOf ops oj, dstAt ops k ≠ some s) ∧ (k ≠ j → dstAt ops k ≠ some d)
  | [], _, d1, j, d2, _, _, _, hs, _, _, _ => by simp at hs
  | y :: r, h, d1, j, d2, oj, t, x, hs, ho, hop, hah => by
    simp only [keepJ, Bool.and_eq_true] at h
    cases d1 with
    | nil =>
      simp at hs
      obtain ⟨rfl, rfl⟩ := hs
      have h1 := h.1
      rw [ho] at h1
      simp only [hop, isLoad, hah, Bool.not_true, Bool.false_or] at h1
      cases hd : oj.dst with
      | none => rw [hd] at h1; cases h1
      | some d =>
        rw [hd] at h1
        refine ⟨d, rfl, fun k hk => ?_⟩
        have := List.all_eq_true.1 h1 k hk
        cases hdk : dstAt ops k with
        | none => exact ⟨(fun _ _ h => by cases h), (fun _ h => by cases h)⟩
        | some s =>
          rw [hdk] at this
          simp only [Bool.and_eq_true, Bool.not_eq_true', Bool.or_eq_true, beq_iff_eq] at this
          refine ⟨fun s' hs' h => ?_, fun hkj h => ?_⟩
          · cases h
            rw [List.elem_eq_contains] at this
            have := this.1
            simp [hs'] at this
          · cases h
            rcases this.2 with h | h
            · exact hkj h
            · simp at h
    | cons z d1 =>
      simp at hs
      obtain ⟨rfl, hs⟩ := hs
      exact keepJ_spec r h.2 d1 j d2 oj t x hs ho hop hah

def keepB (ops : Array Oper) (A : Array Nat) : List Nat → List Nat → Bool
  | _, [] => true
  | done, e :: r =>
    (match ops[e]? with
     | some o => !(isE o) || keepJ ops A e done
     | none => true) && keepB ops A (done ++ [e]) r

theorem keepB_spec {ops : Array Oper} {A : Array Nat} : ∀ (rest done : List Nat), keepB ops A done rest = true → ∀ d1 e d3 (oe : Oper), rest = d1 ++ e :: d3 → ops[e]? = some oe → isE oe = true → keepJ ops A e (done ++ d1) = true
  | [], _, _, d1, e, d3, _, hs, _, _ => by simp at hs
  | x :: r, done, h, d1, e, d3, oe, hs, ho, hE => by
    simp only [keepB, Bool.and_eq_true] at h
    cases d1 with
    | nil =>
      simp at hs
      obtain ⟨rfl, rfl⟩ := hs
      have h1 := h.1
      rw [ho] at h1
      simpa [hE] using h1
    | cons y d1 =>
      simp at hs
      obtain ⟨rfl, hs⟩ := hs
      have := keepB_spec r (done ++ [x]) h.2 d1 e d3 oe hs ho hE
      simpa using this

def slotsB (ops : Array Oper) (A : Array Nat) : Bool :=
  (List.range ops.size).all fun i =>
    match dstAt ops i with
    | some t => (List.range ops.size).all fun j => (i == j) || (match ops[j]? with | some oj => !((slotsOf ops oj).elem t || oj.dst == some t) || ahead A i j || ahead A j i | none => true)
    | none => true

def nodupB : List Nat → Bool
  | [] => true
  | x :: r => !(r.elem x) && nodupB r

theorem nodupB_spec : ∀ (l : List Nat), nodupB l = true → l.Nodup
  | [], _ => List.nodup_nil
  | x :: r, h => by
    simp only [nodupB, Bool.and_eq_true, Bool.not_eq_true'] at h
    rw [List.nodup_cons]
    refine ⟨fun hm => ?_, nodupB_spec r h.2⟩
    rw [List.elem_eq_contains] at h
    simp [hm] at h

/-- ALL THAT IS ASKED, BY RECKONING. -/
def ordB (n : Nat) (ops : Array Oper) (A : Array Nat) (π : List Nat) : Bool :=
  maskOk ops A && nodupB π && (List.range ops.size).all (fun i => π.elem i) && π.all (fun i => decide (i < ops.size)) && edgesB ops [] π && slotsB ops A && lateB ops A π && keepB ops A [] π &&
  (ops.toList.all fun o => dstIn n o.dst) && Region.noSelect ops

theorem ordB_spec {n : Nat} {ops : Array Oper} {A : Array Nat} {π : List Nat} (h : ordB n ops A π = true) : OrdOk n ops A π := by
  simp only [ordB, Bool.and_eq_true] at h
  obtain ⟨⟨⟨⟨⟨⟨⟨⟨⟨h1, h2⟩, h3⟩, h4⟩, h5⟩, h6⟩, h7⟩, h8⟩, h9⟩, h10⟩ := h
  refine ⟨h1, nodupB_spec π h2, fun i hi => ?_, fun i hi => ?_, fun d1 i d2 o e hs ho he hb => ?_, fun i j oi oj t hne hoi hoj hd ht => ?_, lateB_spec π h7, fun i o ho => ?_, fun d1 j d2 e d3 oj oe t x hs hoj hop hoe hE hah => ?_, h10⟩
  · have := List.all_eq_true.1 h3 i (by simpa using hi)
    simpa using this
  · have := List.all_eq_true.1 h4 i hi
    simpa using this
  · have := edgesB_spec π [] h5 d1 i d2 o e hs ho he hb
    simpa using this
  · have hi : i < ops.size := (Array.getElem?_eq_some_iff.1 hoi).1
    have hj : j < ops.size := (Array.getElem?_eq_some_iff.1 hoj).1
    have := List.all_eq_true.1 h6 i (by simpa using hi)
    rw [show dstAt ops i = some t by simp [dstAt, hoi, hd]] at this
    have := List.all_eq_true.1 this j (by simpa using hj)
    rw [hoj] at this
    simp only [Bool.or_eq_true, Bool.not_eq_true', beq_iff_eq] at this
    rcases this with h | h
    · exact absurd h hne
    · rcases h with (h | h) | h
      · exfalso
        rw [Bool.or_eq_false_iff] at h
        rcases ht with ht | ht
        · rw [List.elem_eq_contains] at h
          simp [ht] at h
        · rw [ht] at h; simp at h
      · exact .inl h
      · exact .inr h
  · have := List.all_eq_true.1 h9 o (by
      obtain ⟨hi, he⟩ := Array.getElem?_eq_some_iff.1 ho
      rw [← he]; simp)
    exact this
  · have := keepB_spec π [] h8 (d1 ++ j :: d2) e d3 oe (by rw [hs]; simp) hoe hE
    exact keepJ_spec _ (by simpa using this) d1 j d2 oj t x rfl hoj hop hah

/-- the order: each quiet operation as early as the calls and stores that it waits for allow -/
def mkOrder (ops : Array Oper) (A : Array Nat) : List Nat :=
  let es := (List.range ops.size).filter fun i => match ops[i]? with | some o => isE o | none => false
  let qs := (List.range ops.size).filter fun i => match ops[i]? with | some o => !(isE o) | none => false
  let lev (i : Nat) : Nat := (es.filter fun e => ahead A e i).length
  (List.range (es.length + 1)).flatMap fun k => (qs.filter fun i => lev i == k) ++ (es[k]?).toList

/-- a region's operations, in the planned order; none: it is not served -/
def mkPlan (n : Nat) (ops : Array Oper) (draw : Bool) : Option (List PO) :=
  if draw then
    let A := Region.before ops
    let π := mkOrder ops A
    if ordB n ops A π then drawPlan ops A [] π else none
  else plainPlan n ops ops.toList

theorem drawPlan_dst {ops : Array Oper} {A : Array Nat} : ∀ (π done : List Nat) (pl : List PO), drawPlan ops A done π = some pl → ∀ i ∈ π, ∀ o : Oper, ops[i]? = some o → ∀ t, o.dst = some t → (pl.any fun o => o.dst == some t) = true
  | [], _, _, _, i, hi, _, _, _, _ => by cases hi
  | x :: π, done, pl, hp, i, hi, o, ho, t, ht => by
    simp only [drawPlan] at hp
    split at hp
    · rename_i ox hox
      simp only [planOf, Option.bind_eq_some_iff, Option.map_eq_some_iff] at hp
      obtain ⟨p, ⟨gd, hgd, rfl⟩, pr, hpr, rfl⟩ := hp
      rcases List.mem_cons.1 hi with rfl | hi
      · rw [ho] at hox; cases hox
        simp [ht]
      · have := drawPlan_dst π _ pr hpr i hi o ho t ht
        simp only [List.any_cons, this, Bool.or_true]
    · cases hp

theorem region_draw {P : Program} {G : Env} {n id : Nat} {ops : Array Oper} (hm : P.follows .mixedOrders = true) {A : Array Nat} {π : List Nat} (O : OrdOk n ops A π) {pl : List PO} (hp : drawPlan ops A [] π = some pl) {Q : AQ} {a σ}
    (h : aops P G (withPf (hide pl a) Q) pl a σ) : AWp P G n (.region id ops true) Q a σ := by
  intro ro D M0 F0 w0 M w ac S g E f hD
  have h0 : ∀ k, (Array.replicate ops.size false).getD k false = false := by
    intro k; rw [Array.getD_eq_getD_getElem?, Array.getElem?_replicate]; split <;> rfl
  have hst : Stage P G n ops A π (withPf (hide pl a) Q) a (fun k => (Array.replicate ops.size false).getD k false) [] π (fun _ => .undef) σ := by
    refine ⟨rfl, fun i o hi => ?_, fun i hi => ?_, fun i hi => by simp at hi, fun d1 i d2 o hs => by simp at hs, pl, hp, h⟩
    · rw [h0] at hi; cases hi
    · simp only [h0] at hi; cases hi
  obtain ⟨done, rest, val, k1, k2, ⟨q, k3, k4⟩, k5⟩ := Stage.norm O π [] _ σ hst
  have hE : Ext M σ.F w M σ.F { w with drawn := w.drawn + 1 } := .of_heap rfl ⟨rfl, rfl, rfl⟩
  refine wpIn_mono (wpIn_region_any hm (wpAnyIn_kept (W := fun t => pl.any fun o => o.dst == some t) (a0 := ac) (fun i o ho t ht => drawPlan_dst _ _ _ hp i (O.all i (Array.getElem?_eq_some_iff.1 ho).1) o ho t ht) _ _ _ _ (KeptB.refl _ _) (draw_step O ops.size _ done rest val σ M { w with drawn := w.drawn + 1 } ac (by simp) ?_ k1 k2 (S.of_heap rfl ⟨rfl, rfl, rfl⟩) (g.mono hE) (M0 := M) (F0 := σ.F) (w0 := w) hE ?_ hD))) fun _ _ _ hq => QC_pf E f hq
  · have : (π.filter fun k => !((Array.replicate ops.size false).getD k false)) = π := List.filter_eq_self.2 fun i _ => by rw [h0]; rfl
    rw [this]
    have hp1 : π.Perm (List.range ops.size) := by
      refine (List.perm_ext_iff_of_nodup O.nodup List.nodup_range).2 fun i => ⟨fun hi => by simpa using O.lt i hi, fun hi => O.all i (by simpa using hi)⟩
    simpa using hp1.length_eq
  · have : (done.filter fun k => (Array.replicate ops.size false).getD k false) = [] := List.filter_eq_nil_iff.2 fun i _ => by rw [h0]; simp
    rw [this]
    exact ⟨f.size, fun t => (f.val t).mono hE⟩

theorem region_sound {P : Program} {G : Env} {n id : Nat} {ops : Array Oper} {draw : Bool} (hm : P.follows .mixedOrders = true) {pl : List PO} (hp : mkPlan n ops draw = some pl) {Q : AQ} {a σ} (h : aops P G (withPf (hide pl a) Q) pl a σ) :
    AWp P G n (.region id ops draw) Q a σ := by
  unfold mkPlan at hp
  cases draw with
  | true =>
    simp only [if_true] at hp
    split at hp
    · exact region_draw hm (ordB_spec ‹_›) hp h
    · cases hp
  | false => exact region_plain hp h

end Go.Abs
