/- A region that draws its order: the order is reckoned, and checked by reckoning; no condition. -/
import Derived.Test.YthifgodgfhbnfaaDoorAbs15
set_option linter.unusedSimpArgs false
set_option linter.unusedVariables false
namespace Go.Abs
open Go

def edgesB (ops : Array Oper) : List Nat → List Nat → Bool
  | _, [] => true
  | done, i :: r =>
    (match ops[i]? with
     | some o => o.after.toList.all fun e => !(bindsAny e) || done.elem e.on
     | none => true) && edgesB ops (done ++ [i]) r

theorem edgesB_spec {ops : Array Oper} : ∀ (rest done : List Nat), edgesB ops done rest = true → ∀ d1 i d2 (o : Oper) (e : Edge), rest = d1 ++ i :: d2 → ops[i]? = some o → e ∈ o.after.toList → bindsAny e = true → e.on ∈ done ++ d1
  | [], _, _, d1, i, d2, _, _, hs, _, _, _ => by simp at hs
  | x :: r, done, h, d1, i, d2, o, e, hs, ho, he, hb => by
    simp only [edgesB, Bool.and_eq_true] at h
    cases d1 with
    | nil =>
      simp at hs
      obtain ⟨rfl, rfl⟩ := hs
      rw [ho] at h
      have := List.all_eq_true.1 h.1 e he
      rw [hb] at this
      simp at this
      simpa using this
    | cons y d1 =>
      simp at hs
      obtain ⟨rfl, hs⟩ := hs
      have := edgesB_spec r (done ++ [x]) h.2 d1 i d2 o e hs ho he hb
      simpa using this

def lateB (ops : Array Oper) (A : Array Nat) : List Nat → Bool
  | [] => true
  | e :: r =>
    (match ops[e]? with
     | some o => !(isE o) || r.all fun i => ahead A e i
     | none => true) && lateB ops A r

theorem lateB_spec {ops : Array Oper} {A : Array Nat} : ∀ (l : List Nat), lateB ops A l = true → ∀ d1 e d2 (oe : Oper) i, l = d1 ++ e :: d2 → ops[e]? = some oe → isE oe = true → i ∈ d2 → ahead A e i = true
  | [], _, d1, e, d2, _, _, hs, _, _, _ => by simp at hs
  | x :: r, h, d1, e, d2, oe, i, hs, ho, hE, hi => by
    simp only [lateB, Bool.and_eq_true] at h
    cases d1 with
    | nil =>
      simp at hs
      obtain ⟨rfl, rfl⟩ := hs
      have h1 := h.1
      rw [ho] at h1
      simp only [hE, Bool.not_true, Bool.false_or] at h1
      exact List.all_eq_true.1 h1 i hi
    | cons y d1 =>
      simp at hs
      obtain ⟨rfl, hs⟩ := hs
      exact lateB_spec r h.2 d1 e d2 oe i hs ho hE hi

/-- a load's slots are not written by these -/
def keepJ (ops : Array Oper) (A : Array Nat) (e : Nat) : List Nat → Bool
  | [] => true
  | j :: r =>
    (match ops[j]? with
     | some o => !(isLoad o.op) || ahead A j e ||
        (match o.dst with
         | some d => (j :: (r ++ [e])).all fun k => (match dstAt ops k with | some s => !((slotsOf ops o).elem s) && (k == j || !(s == d)) | none => true)
         | none => false)
     | none => true) && keepJ ops A e r

theorem keepJ_spec {ops : Array Oper} {A : Array Nat} {e : Nat} : ∀ (l : List Nat), keepJ ops A e l = true → ∀ d1 j d2 (oj : Oper) t x, l = d1 ++ j :: d2 → ops[j]? = some oj → oj.op = .load t x → ahead A j e = false →
    ∃ d, oj.dst = some d ∧ ∀ k ∈ j :: (d2 ++ [e]), (∀ s ∈ slotsOf ops oj, dstAt ops k ≠ some s) ∧ (k ≠ j → dstAt ops k ≠ some d)
  | [], _, d1, j, d2, _, _, _, hs, _, _, _ => by simp at hs
  | y :: r, h, d1, j, d2, oj, t, x, hs, ho, hop, hah => by
    simp only [keepJ, Bool.and_eq_true] at h
    cases d1 with
    | nil =>
      simp at hs
      obtain ⟨rfl, rfl⟩ := hs
      have h1 := h.1
      rw [ho] at h1
      simp only [hop, isLoad, hah, Bool.not_true, Bool.false_or] at h1
      cases hd : oj.dst with
      | none => rw [hd] at h1; cases h1
      | some d =>
        rw [hd] at h1
        refine ⟨d, rfl, fun k hk => ?_⟩
        have := List.all_eq_true.1 h1 k hk
        cases hdk : dstAt ops k with
        | none => exact ⟨(fun _ _ h => by cases h), (fun _ h => by cases h)⟩
        | some s =>
          rw [hdk] at this
          simp only [Bool.and_eq_true, Bool.not_eq_true', Bool.or_eq_true, beq_iff_eq] at this
          refine ⟨fun s' hs' h => ?_, fun hkj h => ?_⟩
          · cases h
            rw [List.elem_eq_contains] at this
            have := this.1
            simp [hs'] at this
          · cases h
            rcases this.2 with h | h
            · exact hkj h
            · simp at h
    | cons z d1 =>
      simp at hs
      obtain ⟨rfl, hs⟩ := hs
      exact keepJ_spec r h.2 d1 j d2 oj t x hs ho hop hah

def keepB (ops : Array Oper) (A : Array Nat) : List Nat → List Nat → Bool
  | _, [] => true
  | done, e :: r =>
    (match ops[e]? with
     | some o => !(isE o) || keepJ ops A e done
     | none => true) && keepB ops A (done ++ [e]) r

theorem keepB_spec {ops : Array Oper} {A : Array Nat} : ∀ (rest done : List Nat), keepB ops A done rest = true → ∀ d1 e d3 (oe : Oper), rest = d1 ++ e :: d3 → ops[e]? = some oe → isE oe = true → keepJ ops A e (done ++ d1) = true
  | [], _, _, d1, e, d3, _, hs, _, _ => by simp at hs
  | x :: r, done, h, d1, e, d3, oe, hs, ho, hE => by
    simp only [keepB, Bool.and_eq_true] at h
    cases d1 with
    | nil =>
      simp at hs
      obtain ⟨rfl, rfl⟩ := hs
      have h1 := h.1
      rw [ho] at h1
      simpa [hE] using h1
    | cons y d1 =>
      simp at hs
      obtain ⟨rfl, hs⟩ := hs
      have := keepB_spec r (done ++ [x]) h.2 d1 e d3 oe hs ho hE
      simpa using this

def slotsB (ops : Array Oper) (A : Array Nat) : Bool :=
  (List.range ops.size).all fun i =>
    match dstAt ops i with
    | some t => (List.range ops.size).all fun j => (i == j) || (match ops[j]? with | some oj => !((slotsOf ops oj).elem t || oj.dst == some t) || ahead A i j || ahead A j i | none => true)
    | none => true

def nodupB : List Nat → Bool
  | [] => true
  | x :: r => !(r.elem x) && nodupB r

theorem nodupB_spec : ∀ (l : List Nat), nodupB l = true → l.Nodup
  | [], _ => List.nodup_nil
  | x :: r, h => by
    simp only [nodupB, Bool.and_eq_true, Bool.not_eq_true'] at h
    rw [List.nodup_cons]
    refine ⟨fun hm => ?_, nodupB_spec r h.2⟩
    rw [List.elem_eq_contains] at h
    simp [hm] at h

/-- ALL THAT IS ASKED, BY RECKONING. -/
def ordB (n : Nat) (ops : Array Oper) (A : Array Nat) (π : List Nat) : Bool :=
  maskOk ops A && nodupB π && (List.range ops.size).all (fun i => π.elem i) && π.all (fun i => decide (i < ops.size)) && edgesB ops [] π && slotsB ops A && lateB ops A π && keepB ops A [] π &&
  (ops.toList.all fun o => dstIn n o.dst) && Region.noSelect ops

theorem ordB_spec {n : Nat} {ops : Array Oper} {A : Array Nat} {π : List Nat} (h : ordB n ops A π = true) : OrdOk n ops A π := by
  simp only [ordB, Bool.and_eq_true] at h
  obtain ⟨⟨⟨⟨⟨⟨⟨⟨⟨h1, h2⟩, h3⟩, h4⟩, h5⟩, h6⟩, h7⟩, h8⟩, h9⟩, h10⟩ := h
  refine ⟨h1, nodupB_spec π h2, fun i hi => ?_, fun i hi => ?_, fun d1 i d2 o e hs ho he hb => ?_, fun i j oi oj t hne hoi hoj hd ht => ?_, lateB_spec π h7, fun i o ho => ?_, fun d1 j d2 e d3 oj oe t x hs hoj hop hoe hE hah => ?_, h10⟩
  · have := List.all_eq_true.1 h3 i (by simpa using hi)
    simpa using this
  · have := List.all_eq_true.1 h4 i hi
    simpa using this
  · have := edgesB_spec π [] h5 d1 i d2 o e hs ho he hb
    simpa using this
  · have hi : i < ops.size := (Array.getElem?_eq_some_iff.1 hoi).1
    have hj : j < ops.size := (Array.getElem?_eq_some_iff.1 hoj).1
    have := List.all_eq_true.1 h6 i (by simpa using hi)
    rw [show dstAt ops i = some t by simp [dstAt, hoi, hd]] at this
    have := List.all_eq_true.1 this j (by simpa using hj)
    rw [hoj] at this
    simp only [Bool.or_eq_true, Bool.not_eq_true', beq_iff_eq] at this
    rcases this with h | h
    · exact absurd h hne
    · rcases h with (h | h) | h
      · exfalso
        rw [Bool.or_eq_false_iff] at h
        rcases ht with ht | ht
        · rw [List.elem_eq_contains] at h
          simp [ht] at h
        · rw [ht] at h; simp at h
      · exact .inl h
      · exact .inr h
  · have := List.all_eq_true.1 h9 o (by
      obtain ⟨hi, he⟩ := Array.getElem?_eq_some_iff.1 ho
      rw [← he]; simp)
    exact this
  · have := keepB_spec π [] h8 (d1 ++ j :: d2) e d3 oe (by rw [hs]; simp) hoe hE
    exact keepJ_spec _ (by simpa using this) d1 j d2 oj t x rfl hoj hop hah

/-- the order: each quiet operation as early as the calls and stores that it waits for allow -/
def mkOrder (ops : Array Oper) (A : Array Nat) : List Nat :=
  let es0 := (List.range ops.size).filter fun i => match ops[i]? with | some o => isE o | none => false
  let qs := (List.range ops.size).filter fun i => match ops[i]? with | some o => !(isE o) | none => false
  let lev (i : Nat) : Nat := (es0.filter fun e => ahead A e i).length
  let es := (List.range es0.length).flatMap fun k => es0.filter fun e => lev e == k
  (List.range (es.length + 1)).flatMap fun k => (qs.filter fun i => lev i == k) ++ (es[k]?).toList

/-- a region's operations, in the planned order; none: it is not served -/
def mkPlan (n : Nat) (ops : Array Oper) (draw : Bool) : Option (List PO) :=
  if draw then
    let A := Region.before ops
    let π := mkOrder ops A
    if ordB n ops A π then drawPlan ops A [] π else none
  else plainPlan n ops ops.toList

theorem drawPlan_dst {ops : Array Oper} {A : Array Nat} : ∀ (π done : List Nat) (pl : List PO), drawPlan ops A done π = some pl → ∀ i ∈ π, ∀ o : Oper, ops[i]? = some o → ∀ t, o.dst = some t → (pl.any fun o => o.dst == some t) = true
  | [], _, _, _, i, hi, _, _, _, _ => by cases hi
  | x :: π, done, pl, hp, i, hi, o, ho, t, ht => by
    simp only [drawPlan] at hp
    split at hp
    · rename_i ox hox
      simp only [planOf, Option.bind_eq_some_iff, Option.map_eq_some_iff] at hp
      obtain ⟨p, ⟨gd, hgd, rfl⟩, pr, hpr, rfl⟩ := hp
      rcases List.mem_cons.1 hi with rfl | hi
      · rw [ho] at hox; cases hox
        simp [ht]
      · have := drawPlan_dst π _ pr hpr i hi o ho t ht
        simp only [List.any_cons, this, Bool.or_true]
    · cases hp

theorem region_draw_any {P : Program} {G : Env} {n : Nat} {ops : Array Oper} (hm : P.follows .mixedOrders = true) {A : Array Nat} {π : List Nat} (O : OrdOk n ops A π) {pl : List PO} (hp : drawPlan ops A [] π = some pl) {Q : AQ} {a σ}
    (h : aops P G (withPf (hide pl a) Q) pl a σ) : ∀ {ro : Option Nat} {D : List Deferred} {M : Mp} {w : World} {ac : Act}, Sim M σ w → GOk P G M σ.F w → Fr M σ.F w a ac n → ac.defers = D →
      wpAnyIn (wideAt ro) 0 P .any ops (QKept (fun t => pl.any fun o => o.dst == some t) ac (QC P G n D M σ.F w (withPf (hide pl a) Q))) ops.size (Array.replicate ops.size false) ac { w with drawn := w.drawn + 1 } := by
  intro ro D M w ac S g f hD
  have h0 : ∀ k, (Array.replicate ops.size false).getD k false = false := by
    intro k; rw [Array.getD_eq_getD_getElem?, Array.getElem?_replicate]; split <;> rfl
  have hst : Stage P G n ops A π (withPf (hide pl a) Q) a (fun k => (Array.replicate ops.size false).getD k false) [] π (fun _ => .undef) σ := by
    refine ⟨rfl, fun i o hi => ?_, fun i hi => ?_, fun i hi => by simp at hi, fun d1 i d2 o hs => by simp at hs, pl, hp, h⟩
    · rw [h0] at hi; cases hi
    · simp only [h0] at hi; cases hi
  obtain ⟨done, rest, val, k1, k2, ⟨q, k3, k4⟩, k5⟩ := Stage.norm O π [] _ σ hst
  have hE : Ext M σ.F w M σ.F { w with drawn := w.drawn + 1 } := .of_heap rfl ⟨rfl, rfl, rfl⟩
  refine wpAnyIn_kept (W := fun t => pl.any fun o => o.dst == some t) (a0 := ac) (fun i o ho t ht => drawPlan_dst _ _ _ hp i (O.all i (Array.getElem?_eq_some_iff.1 ho).1) o ho t ht) _ _ _ _ (KeptB.refl _ _) (draw_step O ops.size _ done rest val σ M { w with drawn := w.drawn + 1 } ac (by simp) ?_ k1 k2 (S.of_heap rfl ⟨rfl, rfl, rfl⟩) (g.mono hE) (M0 := M) (F0 := σ.F) (w0 := w) hE ?_ hD)
  · have : (π.filter fun k => !((Array.replicate ops.size false).getD k false)) = π := List.filter_eq_self.2 fun i _ => by rw [h0]; rfl
    rw [this]
    have hp1 : π.Perm (List.range ops.size) := by
      refine (List.perm_ext_iff_of_nodup O.nodup List.nodup_range).2 fun i => ⟨fun hi => by simpa using O.lt i hi, fun hi => O.all i (by simpa using hi)⟩
    simpa using hp1.length_eq
  · have : (done.filter fun k => (Array.replicate ops.size false).getD k false) = [] := List.filter_eq_nil_iff.2 fun i _ => by rw [h0]; simp
    rw [this]
    exact ⟨f.size, fun t => (f.val t).mono hE⟩

theorem region_draw {P : Program} {G : Env} {n id : Nat} {ops : Array Oper} (hm : P.follows .mixedOrders = true) {A : Array Nat} {π : List Nat} (O : OrdOk n ops A π) {pl : List PO} (hp : drawPlan ops A [] π = some pl) {Q : AQ} {a σ}
    (h : aops P G (withPf (hide pl a) Q) pl a σ) : AWp P G n (.region id ops true) Q a σ := by
  intro ro D M0 F0 w0 M w ac S g E f hD
  exact wpIn_mono (wpIn_region_any hm (region_draw_any hm O hp h S g f hD)) fun _ _ _ hq => QC_pf E f hq

theorem region_sound {P : Program} {G : Env} {n id : Nat} {ops : Array Oper} {draw : Bool} (hm : P.follows .mixedOrders = true) {pl : List PO} (hp : mkPlan n ops draw = some pl) {Q : AQ} {a σ} (h : aops P G (withPf (hide pl a) Q) pl a σ) :
    AWp P G n (.region id ops draw) Q a σ := by
  unfold mkPlan at hp
  cases draw with
  | true =>
    simp only [if_true] at hp
    split at hp
    · exact region_draw hm (ordB_spec ‹_›) hp h
    · cases hp
  | false => exact region_plain hp h

/-! ### two operations that may go either way -/
/-- c waits for a, too -/
def addEdge (ops : Array Oper) (c a : Nat) : Array Oper := ops.modify c fun o => { o with after := o.after.push ⟨a, .chain⟩ }
theorem addEdge_size (ops c a) : (addEdge ops c a).size = ops.size := by simp [addEdge]
theorem addEdge_get (ops : Array Oper) (c a j : Nat) : (addEdge ops c a)[j]? = (ops[j]?).map fun o => if j = c then { o with after := o.after.push ⟨a, .chain⟩ } else o := by
  unfold addEdge
  rw [Array.getElem?_modify]
  by_cases h : c = j
  · subst h; simp
  · rw [if_neg h]
    have : ¬ j = c := fun e => h e.symm
    simp [this]
def PathN (ops : Array Oper) : Nat → Array Bool → List Nat → Prop
  | 0, _, L => L = []
  | f + 1, listed, L => (Region.ready .any ops listed = [] ∧ L = []) ∨ ∃ i rest, L = i :: rest ∧ i ∈ Region.ready .any ops listed ∧ PathN ops f (listed.setIfInBounds i true) rest
theorem go_path {ops : Array Oper} : ∀ (fuel t : Nat) (listed : Array Bool), PathN ops fuel listed (Region.linearise.go .any ops fuel t listed [])
  | 0, t, listed => by simp [PathN, Region.linearise.go]
  | fuel + 1, t, listed => by
    simp only [Region.linearise.go]
    change PathN ops (fuel + 1) listed (match (Region.ready .any ops listed)[t % (Region.ready .any ops listed).length]? with
      | some i => Region.linearise.go .any ops fuel (t / (Region.ready .any ops listed).length) (listed.setIfInBounds i true) [i]
      | none => [].reverse)
    cases hi : (Region.ready .any ops listed)[t % (Region.ready .any ops listed).length]? with
    | none =>
      refine .inl ⟨?_, rfl⟩
      cases hr : Region.ready .any ops listed with
      | nil => rfl
      | cons x xs =>
        rw [hr] at hi
        have hlt : t % (x :: xs).length < (x :: xs).length := Nat.mod_lt _ (by simp)
        simp at hi
        simp at hlt
        omega
    | some i =>
      simp only []
      rw [linearise_go_acc, List.reverse_singleton, List.singleton_append]
      exact .inr ⟨i, _, rfl, List.mem_of_getElem? hi, go_path fuel _ _⟩
theorem any_path {F : Fence} {n : Nat} {P : Program} {ops : Array Oper} {Q : Exit → Act → World → Prop} : ∀ (fuel : Nat) (listed : Array Bool) (L : List Nat) (a : Act) (w : World), wpAnyIn F n P .any ops Q fuel listed a w → PathN ops fuel listed L → wpOpsIn F n P ops Q L a w
  | 0, listed, L, a, w, h, hp => by
    simp only [PathN] at hp
    subst hp
    exact h.2
  | fuel + 1, listed, L, a, w, h, hp => by
    rcases hp with ⟨h0, rfl⟩ | ⟨i, rest, rfl, hi, hr⟩
    · exact h.1 h0
    · rw [wpOpsIn_cons]
      exact wpOpIn_mono (fun a w h => any_path fuel _ rest a w h hr) (h.2 i hi)
theorem ready_add {ops : Array Oper} {c a j : Nat} {listed : Array Bool} (h : j ∈ Region.ready .any ops listed) (hj : j = c → listed.getD a false = true) : j ∈ Region.ready .any (addEdge ops c a) listed := by
  rw [mem_ready] at h ⊢
  obtain ⟨h1, o, ho, h2⟩ := h
  refine ⟨h1, if j = c then { o with after := o.after.push ⟨a, .chain⟩ } else o, by rw [addEdge_get, ho]; rfl, ?_⟩
  intro e he hb
  by_cases hc : j = c
  · rw [if_pos hc] at he
    rcases Array.mem_push.1 he with he | he
    · exact h2 e he hb
    · subst he; exact hj hc
  · rw [if_neg hc] at he
    exact h2 e he hb
theorem ready_sub {ops : Array Oper} {c a j : Nat} {listed : Array Bool} (h : j ∈ Region.ready .any (addEdge ops c a) listed) : j ∈ Region.ready .any ops listed := by
  rw [mem_ready] at h ⊢
  obtain ⟨h1, o, ho, h2⟩ := h
  rw [addEdge_get] at ho
  obtain ⟨o', ho', rfl⟩ := Option.map_eq_some_iff.1 ho
  refine ⟨h1, o', ho', fun e he hb => h2 e ?_ hb⟩
  by_cases hc : j = c
  · rw [if_pos hc]; exact Array.mem_push.2 (.inl he)
  · rw [if_neg hc]; exact he
theorem nil_add {ops : Array Oper} {c a : Nat} {listed : Array Bool} (h : Region.ready .any ops listed = []) : Region.ready .any (addEdge ops c a) listed = [] := by
  rw [List.eq_nil_iff_forall_not_mem] at h ⊢
  exact fun j hj => h j (ready_sub hj)
theorem listed_set {listed : Array Bool} {i j : Nat} (h : listed.getD j false = true) : (listed.setIfInBounds i true).getD j false = true := by
  rw [Array.getD_eq_getD_getElem?] at h ⊢
  rw [Array.getElem?_setIfInBounds]
  split
  · split
    · rfl
    · rename_i h1 h2
      rw [Array.getElem?_eq_none (by omega)] at h; simp at h
  · exact h
theorem path_after {ops : Array Oper} {c a : Nat} : ∀ (f : Nat) (listed : Array Bool) (L : List Nat), listed.getD a false = true → PathN ops f listed L → PathN (addEdge ops c a) f listed L
  | 0, _, _, _, h => h
  | f + 1, listed, L, ha, h => by
    rcases h with ⟨h0, rfl⟩ | ⟨i, rest, rfl, hi, hr⟩
    · exact .inl ⟨nil_add h0, rfl⟩
    · exact .inr ⟨i, rest, rfl, ready_add hi fun _ => ha, path_after f _ rest (listed_set ha) hr⟩
theorem listed_now {ops : Array Oper} {i : Nat} {listed : Array Bool} (hs : listed.size = ops.size) (h : i ∈ Region.ready .any ops listed) : (listed.setIfInBounds i true).getD i false = true := by
  rw [mem_ready] at h
  obtain ⟨_, o, ho, _⟩ := h
  have := (Array.getElem?_eq_some_iff.1 ho).1
  rw [Array.getD_eq_getD_getElem?, Array.getElem?_setIfInBounds, if_pos rfl, if_pos (by omega)]; rfl
theorem path_split {ops : Array Oper} {c a : Nat} (hca : c ≠ a) : ∀ (f : Nat) (listed : Array Bool) (L : List Nat), listed.size = ops.size → PathN ops f listed L → PathN (addEdge ops c a) f listed L ∨ PathN (addEdge ops a c) f listed L
  | 0, _, _, _, h => .inl h
  | f + 1, listed, L, hs, h => by
    rcases h with ⟨h0, rfl⟩ | ⟨i, rest, rfl, hi, hr⟩
    · exact .inl (.inl ⟨nil_add h0, rfl⟩)
    · by_cases h1 : i = a
      · subst h1
        exact .inl (.inr ⟨i, rest, rfl, ready_add hi fun e => absurd e.symm hca, path_after f _ rest (listed_now hs hi) hr⟩)
      · by_cases h2 : i = c
        · subst h2
          exact .inr (.inr ⟨i, rest, rfl, ready_add hi fun e => absurd e hca, path_after f _ rest (listed_now hs hi) hr⟩)
        · rcases path_split hca f _ rest (by simpa using hs) hr with k | k
          · exact .inl (.inr ⟨i, rest, rfl, ready_add hi fun e => absurd e h2, k⟩)
          · exact .inr (.inr ⟨i, rest, rfl, ready_add hi fun e => absurd e h1, k⟩)
theorem yielded_add (ops : Array Oper) (c a : Nat) (tmps : Array Value) : yielded (addEdge ops c a) tmps = yielded ops tmps := by
  funext j
  unfold yielded
  have : ((addEdge ops c a)[j]?).bind (·.dst) = (ops[j]?).bind (·.dst) := by
    rw [addEdge_get]
    cases ops[j]? with
    | none => rfl
    | some o => simp only [Option.map_some, Option.bind_some]; split <;> rfl
  rw [this]
theorem ops_add {F : Fence} {n : Nat} {P : Program} {ops : Array Oper} {c a : Nat} {Q : Exit → Act → World → Prop} : ∀ (L : List Nat) (ac : Act) (w : World), wpOpsIn F n P (addEdge ops c a) Q L ac w → wpOpsIn F n P ops Q L ac w
  | [], _, _, h => h
  | i :: L, ac, w, h => by
    simp only [wpOpsIn] at h ⊢
    rw [addEdge_get, yielded_add] at h
    cases ho : ops[i]? with
    | none => rw [ho] at h; exact ops_add L ac w h
    | some o =>
      rw [ho] at h
      simp only [Option.map_some] at h ⊢
      have e1 : ∀ y, Region.wanted (if i = c then { o with after := o.after.push ⟨a, .chain⟩ } else o) y = Region.wanted o y := fun y => by split <;> rfl
      have e2 : ∀ K, (if i = c then { o with after := o.after.push ⟨a, .chain⟩ } else o : Oper).wpIn F n P ac w K Q = o.wpIn F n P ac w K Q := fun K => by split <;> rfl
      have e3 : (if i = c then { o with after := o.after.push ⟨a, .chain⟩ } else o : Oper).about P w ac.eval = o.about P w ac.eval := by split <;> rfl
      have e4 : (if i = c then { o with after := o.after.push ⟨a, .chain⟩ } else o : Oper).dst = o.dst := by split <;> rfl
      rw [e1, e2, e3, e4] at h
      split at h
      · rename_i hw
        rw [if_pos hw]
        exact Oper.wpIn_mono (fun a w h => ops_add L a w h) h
      · rename_i hw
        rw [if_neg hw]
        exact ⟨h.1, ops_add L _ w h.2⟩
theorem wpIn_region_each {F : Fence} {n : Nat} {P : Program} {id : Nat} {ops : Array Oper} {Q : Exit → Act → World → Prop} {a : Act} {w : World}
    (h : ∀ t, ∃ Q' : Exit → Act → World → Prop, (∀ e a w, Q' e a w → Q e a w) ∧ wpOpsIn F n P ops Q' (Region.schedule (P.follows .mixedOrders) ops t) a { w with drawn := w.drawn + 1 }) : (Code.region id ops true).wpIn F n P Q a w :=
  fun b k cs hro hb hr => let ⟨_, hm, hq⟩ := h _; let ⟨e, a', w', q, r⟩ := wp_opsIn _ a _ hq b k cs hro hb hr; ⟨e, a', w', hm _ _ _ q, .of_steps (.one (fenced_calm hb hr rfl) stepR_region_draw) r⟩
/-- two calls, stores or new variables that are not ordered -/
def loosePair (ops : Array Oper) (A : Array Nat) : Option (Nat × Nat) :=
  let es := (List.range ops.size).filter fun i => match ops[i]? with | some o => isE o | none => false
  (es.flatMap fun i => es.map fun j => (i, j)).find? fun p => decide (p.1 < p.2) && !(ahead A p.1 p.2) && !(ahead A p.2 p.1)
/-- a region in which some may go either way, in all planned orders -/
def mkAlts (n : Nat) : Nat → Array Oper → Option (List (List PO))
  | 0, ops => (mkPlan n ops true).map fun l => [l]
  | k + 1, ops => match mkPlan n ops true with
    | some l => some [l]
    | none => match loosePair ops (Region.before ops) with
      | none => none
      | some (i, j) => if i = j then none else
        match mkAlts n k (addEdge ops j i), mkAlts n k (addEdge ops i j) with
        | some l1, some l2 => some (l1 ++ l2)
        | _, _ => none
def mkBoth (n : Nat) (ops : Array Oper) (draw : Bool) : Option (List (List PO)) := if draw then mkAlts n 4 ops else none
/-- what they ask: each order -/
def aalts (P : Program) (G : Env) (Q : AQ) (a : Nat → AV) (σ : AS) : List (List PO) → Prop
  | [] => True
  | l :: r => aops P G (withPf (hide l a) Q) l a σ ∧ aalts P G Q a σ r
theorem aalts_append {P : Program} {G : Env} {Q : AQ} {a σ} : ∀ {l r : List (List PO)}, aalts P G Q a σ (l ++ r) → aalts P G Q a σ l ∧ aalts P G Q a σ r
  | [], _, h => ⟨trivial, h⟩
  | _ :: _, _, h => ⟨⟨h.1, (aalts_append h.2).1⟩, (aalts_append h.2).2⟩
theorem plan_path {P : Program} {G : Env} {n : Nat} {ops : Array Oper} (hm : P.follows .mixedOrders = true) {l : List PO} (hp : mkPlan n ops true = some l) {Q : AQ} {a σ} (h : aops P G (withPf (hide l a) Q) l a σ) {ro : Option Nat} {D : List Deferred} {M0 : Mp} {F0 : Nat → FSt} {w0 : World} {M : Mp} {w : World} {ac : Act} (S : Sim M σ w) (g : GOk P G M σ.F w)
    (E : Ext M0 F0 w0 M σ.F w) (f : Fr M σ.F w a ac n) (hD : ac.defers = D) {L : List Nat} (hL : PathN ops ops.size (Array.replicate ops.size false) L) :
    ∃ Q' : Exit → Act → World → Prop, (∀ e a w, Q' e a w → QC P G n D M0 F0 w0 Q e a w) ∧ wpOpsIn (wideAt ro) 0 P ops Q' L ac { w with drawn := w.drawn + 1 } := by
  unfold mkPlan at hp
  simp only [if_true] at hp
  split at hp
  · exact ⟨_, fun _ _ _ hq => QC_pf E f hq, any_path _ _ _ _ _ (region_draw_any hm (ordB_spec ‹_›) hp h (ro := ro) S g f hD) hL⟩
  · cases hp
theorem alts_path {P : Program} {G : Env} {n : Nat} (hm : P.follows .mixedOrders = true) {Q : AQ} {a σ} {ro : Option Nat} {D : List Deferred} {M0 : Mp} {F0 : Nat → FSt} {w0 : World} {M : Mp} {w : World} {ac : Act} (S : Sim M σ w) (g : GOk P G M σ.F w)
    (E : Ext M0 F0 w0 M σ.F w) (f : Fr M σ.F w a ac n) (hD : ac.defers = D) : ∀ (k : Nat) (ops : Array Oper) (ls : List (List PO)), mkAlts n k ops = some ls → aalts P G Q a σ ls → ∀ L : List Nat, PathN ops ops.size (Array.replicate ops.size false) L →
    ∃ Q' : Exit → Act → World → Prop, (∀ e a w, Q' e a w → QC P G n D M0 F0 w0 Q e a w) ∧ wpOpsIn (wideAt ro) 0 P ops Q' L ac { w with drawn := w.drawn + 1 }
  | 0, ops, ls, hp, h, L, hL => by
    simp only [mkAlts, Option.map_eq_some_iff] at hp
    obtain ⟨l, hl, rfl⟩ := hp
    exact plan_path hm hl h.1 S g E f hD hL
  | k + 1, ops, ls, hp, h, L, hL => by
    simp only [mkAlts] at hp
    split at hp
    · rename_i l hl
      cases hp
      exact plan_path hm hl h.1 S g E f hD hL
    · split at hp
      · cases hp
      · rename_i i j _
        split at hp
        · cases hp
        · rename_i hij
          split at hp
          · rename_i l1 l2 e1 e2
            cases hp
            obtain ⟨h1, h2⟩ := aalts_append h
            rcases path_split (ops := ops) (c := j) (a := i) (fun e => hij e.symm) ops.size (Array.replicate ops.size false) L (by simp) hL with q | q
            · obtain ⟨Q', q1, q2⟩ := alts_path hm (ro := ro) S g E f hD k _ _ e1 h1 L (by rw [addEdge_size]; exact q)
              exact ⟨Q', q1, ops_add _ _ _ q2⟩
            · obtain ⟨Q', q1, q2⟩ := alts_path hm (ro := ro) S g E f hD k _ _ e2 h2 L (by rw [addEdge_size]; exact q)
              exact ⟨Q', q1, ops_add _ _ _ q2⟩
          · cases hp
theorem both_sound {P : Program} {G : Env} {n id : Nat} {ops : Array Oper} {draw : Bool} (hm : P.follows .mixedOrders = true) {ls : List (List PO)} (hp : mkBoth n ops draw = some ls) {Q : AQ} {a σ} (h : aalts P G Q a σ ls) :
    AWp P G n (.region id ops draw) Q a σ := by
  unfold mkBoth at hp
  cases draw with
  | false => simp at hp
  | true =>
    simp only [if_true] at hp
    intro ro D M0 F0 w0 M w ac S g E f hD
    refine wpIn_region_each fun t => ?_
    simp only [Region.schedule, hm, Bool.true_or, if_true]
    exact alts_path hm S g E f hD 4 ops ls hp h _ (go_path ops.size t (Array.replicate ops.size false))
end Go.Abs
