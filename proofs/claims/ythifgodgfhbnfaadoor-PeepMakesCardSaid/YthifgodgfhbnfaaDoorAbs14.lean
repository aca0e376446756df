/- A region that draws its order: one look in a planned order serves every order; no condition. -/
import Derived.Test.YthifgodgfhbnfaaDoorAbs13
namespace Go.Abs
open Go

section
variable {P : Program} {G : Env} {n : Nat} {ops : Array Oper} {A : Array Nat} {π : List Nat} {Q : AQ} {a0 : Nat → AV}

theorem afr_val {val val' : Nat → AV} : ∀ (l : List Nat) (a : Nat → AV), (∀ i ∈ l, val i = val' i) → afr ops val l a = afr ops val' l a
  | [], _, _ => rfl
  | i :: l, a, h => by
    simp only [afr]
    rw [h i (by simp)]
    exact afr_val l _ fun j hj => h j (by simp [hj])

/-- HOW FAR WE ARE: what has been looked at ('done'), what has been carried out ('L'). -/
structure Stage (P : Program) (G : Env) (n : Nat) (ops : Array Oper) (A : Array Nat) (π : List Nat) (Q : AQ) (a0 : Nat → AV) (L : Nat → Bool) (done rest : List Nat) (val : Nat → AV) (σ : AS) : Prop where
  split : π = done ++ rest
  closed : ∀ i (o : Oper), L i = true → ops[i]? = some o → ∀ e ∈ o.after.toList, bindsAny e = true → L e.on = true
  sub : ∀ i, L i = true → i ∈ done
  eL : ∀ i ∈ done, ∀ o : Oper, ops[i]? = some o → isE o = true → L i = true
  pend : ∀ d1 i d2 (o : Oper), done = d1 ++ i :: d2 → ops[i]? = some o → L i = false → PEnd P G ops o (afr ops val d1 a0) σ (val i)
  vc : ∃ pl, drawPlan ops A done rest = some pl ∧ aops P G Q pl (afr ops val done a0) σ

def headE (ops : Array Oper) (rest : List Nat) : Prop := rest = [] ∨ ∃ e r, ∃ oe : Oper, rest = e :: r ∧ ops[e]? = some oe ∧ isE oe = true

/-- look at quiet operations till a call or a store stands first -/
theorem Stage.norm (O : OrdOk n ops A π) {L : Nat → Bool} : ∀ (rest done : List Nat) (val : Nat → AV) (σ : AS), Stage P G n ops A π Q a0 L done rest val σ →
    ∃ done' rest' val', Stage P G n ops A π Q a0 L done' rest' val' σ ∧ headE ops rest' ∧ (∃ q, done' = done ++ q ∧ ∀ i ∈ q, L i = false) ∧ ∀ i ∈ done, val' i = val i := by
  intro rest
  induction rest with
  | nil => intro done val σ h; exact ⟨done, [], val, h, .inl rfl, ⟨[], by simp, by simp⟩, fun _ _ => rfl⟩
  | cons i r ih =>
    intro done val σ h
    have hi : i < ops.size := O.lt i (by rw [h.split]; simp)
    have ho : ops[i]? = some ops[i] := Array.getElem?_eq_getElem hi
    generalize ops[i] = o at ho
    cases hE : isE o with
    | true => exact ⟨done, i :: r, val, h, .inr ⟨i, r, o, rfl, ho, hE⟩, ⟨[], by simp, by simp⟩, fun _ _ => rfl⟩
    | false =>
      have hnd := O.nodup
      rw [h.split] at hnd
      have hid : i ∉ done := fun hm => by
        rw [List.nodup_append] at hnd
        exact hnd.2.2 i hm i (by simp) rfl
      have hL : L i = false := by
        cases hq : L i with
        | false => rfl
        | true => exact absurd (h.sub i hq) hid
      obtain ⟨pl, hpl, hvc⟩ := h.vc
      simp only [drawPlan, ho, hE, planOf] at hpl
      cases hg : guardOf ops o with
      | none => simp [hg] at hpl
      | some g =>
        cases hr : drawPlan ops A (done ++ [i]) r with
        | none => simp [hg, hr] at hpl
        | some pr =>
          simp [hg, hr] at hpl
          subst hpl
          simp only [aops] at hvc
          have key : ∃ v, PEnd P G ops o (afr ops val done a0) σ v ∧ aops P G Q pr (put (afr ops val done a0) o.dst v) σ := by
            rcases acond_cases hvc with ⟨h1, h2⟩ | ⟨h1, h2⟩
            · obtain ⟨v, h3, h4⟩ := quiet_ex hE h2
              exact ⟨v, ⟨g, hg, .inl ⟨h1, h3⟩⟩, h4.2⟩
            · exact ⟨_, ⟨g, hg, .inr ⟨h1, rfl⟩⟩, h2⟩
          obtain ⟨v, hp, hv⟩ := key
          have hval : ∀ j ∈ done, val j = upd val i v j := fun j hj => (upd_ne _ _ (by rintro rfl; exact hid hj)).symm
          have hst : Stage P G n ops A π Q a0 L (done ++ [i]) r (upd val i v) σ := by
            refine ⟨by rw [h.split]; simp, h.closed, fun j hj => by simp [h.sub j hj], fun j hj oj hoj hEj => ?_, fun d1 j d2 oj hs hoj hLj => ?_, pr, hr, ?_⟩
            · rcases List.mem_append.1 hj with hj | hj
              · exact h.eL j hj oj hoj hEj
              · simp at hj; subst hj; rw [ho] at hoj; cases hoj; rw [hE] at hEj; cases hEj
            · rcases List.eq_nil_or_concat d2 with rfl | ⟨d2', z, rfl⟩
              · have := List.append_inj' hs (by simp)
                obtain ⟨rfl, h2⟩ := this
                simp at h2
                subst h2
                rw [ho] at hoj; cases hoj
                rw [upd_same, ← afr_val done a0 hval]
                exact hp
              · have e1 : done ++ [i] = (d1 ++ j :: d2') ++ [z] := by rw [hs]; simp
                have := List.append_inj' e1 (by simp)
                obtain ⟨e2, _⟩ := this
                have hj1 : ∀ k ∈ d1, val k = upd val i v k := fun k hk => hval k (by rw [e2]; simp [hk])
                rw [← afr_val d1 a0 hj1, ← hval j (by rw [e2]; simp)]
                exact h.pend d1 j d2' oj e2 hoj hLj
            · rw [afr_append, ← afr_val done a0 hval]
              simp only [afr, upd_same, dstAt_some ho]
              exact hv
          obtain ⟨done', rest', val', k1, k2, ⟨q, k3, k4⟩, k5⟩ := ih _ _ _ hst
          refine ⟨done', rest', val', k1, k2, ⟨i :: q, by rw [k3]; simp, fun j hj => ?_⟩, fun j hj => ?_⟩
          · rcases List.mem_cons.1 hj with rfl | hj
            · exact hL
            · exact k4 j hj
          · rw [k5 j (by simp [hj]), ← hval j hj]

/-- the frame of what has been carried out agrees with the planned one, at the slots that a waiting operation names -/
theorem agree (O : OrdOk n ops A π) {L : Nat → Bool} {done rest : List Nat} {val : Nat → AV} {σ : AS} (h : Stage P G n ops A π Q a0 L done rest val σ) {d1 d2 : List Nat} {i : Nat} {o : Oper} (hs : π = d1 ++ i :: d2) (ho : ops[i]? = some o)
    (hLi : L i = false) (hready : ∀ e ∈ o.after.toList, bindsAny e = true → L e.on = true) (hd : ∃ q, done = d1 ++ q) {t : Nat} (ht : t ∈ slotsOf ops o) :
    afr ops val (done.filter L) a0 t = afr ops val d1 a0 t := by
  obtain ⟨q, hq⟩ := hd
  have hnd := O.nodup
  -- none of those that are not ahead of it writes the slot
  have hin : ∀ k, ahead A k i = true → L k = true := fun k hk => ahead_in O h.closed d1.length d1 i d2 k o rfl hs ho hready hk
  have hik : ∀ k, L k = true → ahead A i k = false := fun k hk => by
    cases hq : ahead A i k with
    | false => rfl
    | true =>
      have hkd := h.sub k hk
      have hkl : k < ops.size := O.lt k (by rw [h.split]; simp [hkd])
      obtain ⟨x, y, hxy⟩ := split_of_mem O hkl
      have := ahead_in O h.closed x.length x k y i _ rfl hxy (Array.getElem?_eq_getElem hkl) (fun e he hb => h.closed k _ hk (Array.getElem?_eq_getElem hkl) e he hb) hq
      rw [hLi] at this; cases this
  have hd1 : i ∉ d1 := fun hm => by
    rw [hs, List.nodup_append] at hnd
    exact hnd.2.2 i hm i (by simp) rfl
  rw [hq, List.filter_append, afr_append]
  rw [afr_none t (q.filter L)]
  · refine afr_filter t L d1 a0 fun k hk hLk => ?_
    refine not_written O ho (fun e => hd1 (e ▸ hk)) ?_ ?_ (.inl ht)
    · cases hz : ahead A k i with
      | false => rfl
      | true => rw [hin k hz] at hLk; cases hLk
    · cases hz : ahead A i k with
      | false => rfl
      | true =>
        obtain ⟨x, y, rfl⟩ := List.append_of_mem hk
        have := ahead_before O x.length x k (y ++ i :: d2) i rfl (by rw [hs]; simp) hz
        exact absurd (by simp [this]) hd1
  · intro k hk
    simp only [List.mem_filter] at hk
    have hki : k ≠ i := fun e => by rw [e, hLi] at hk; exact absurd hk.2 (by simp)
    refine not_written O ho hki ?_ (hik k hk.2) (.inl ht)
    cases hz : ahead A k i with
    | false => rfl
    | true =>
      have hkd1 := ahead_before O d1.length d1 i d2 k rfl hs hz
      have hkdone : k ∈ done := h.sub k hk.2
      have hnd2 : done.Nodup := by have := O.nodup; rw [h.split, List.nodup_append] at this; exact this.1
      rw [hq, List.nodup_append] at hnd2
      exact absurd rfl (hnd2.2.2 k hkd1 k hk.1)

theorem filter_upd {L : Nat → Bool} {i : Nat} {l : List Nat} (h : i ∉ l) : l.filter (upd L i true) = l.filter L := by
  apply List.filter_congr
  intro k hk
  exact upd_ne _ _ (by rintro rfl; exact h hk)

theorem nodup_mid {l m : List Nat} {i : Nat} (h : (l ++ i :: m).Nodup) : i ∉ l ∧ i ∉ m := by
  rw [List.nodup_append] at h
  refine ⟨fun hm => h.2.2 i hm i (by simp) rfl, fun hm => ?_⟩
  have := h.2.1
  rw [List.nodup_cons] at this
  exact this.1 hm

theorem left_less (hnd : π.Nodup) {L : Nat → Bool} {i : Nat} (hi : i ∈ π) (hL : L i = false) : (π.filter fun k => !(upd L i true) k).length + 1 = (π.filter fun k => !L k).length := by
  obtain ⟨x, y, rfl⟩ := List.append_of_mem hi
  obtain ⟨h1, h2⟩ := nodup_mid hnd
  have e : ∀ l : List Nat, i ∉ l → (l.filter fun k => !(upd L i true) k) = l.filter fun k => !L k := by
    intro l hl
    apply List.filter_congr
    intro k hk
    rw [upd_ne _ _ (by rintro rfl; exact hl hk)]
  rw [List.filter_append, List.filter_append, List.filter_cons_of_neg (by simp [upd_same]), List.filter_cons_of_pos (by simp [hL]), e x h1, e y h2]
  simp; omega

/-- all has been carried out -/
theorem Stage.done_all (O : OrdOk n ops A π) {L : Nat → Bool} {done rest : List Nat} {val : Nat → AV} {σ : AS} (h : Stage P G n ops A π Q a0 L done rest val σ) (hall : ∀ i ∈ π, L i = true) :
    Q .normal (afr ops val (done.filter L) a0) σ := by
  have hr : rest = [] := by
    cases rest with
    | nil => rfl
    | cons e r =>
      have := h.sub e (hall e (by rw [h.split]; simp))
      have hnd := O.nodup
      rw [h.split] at hnd
      exact absurd this (nodup_mid hnd).1
  subst hr
  obtain ⟨pl, hpl, hvc⟩ := h.vc
  simp [drawPlan] at hpl
  subst hpl
  have : done.filter L = done := List.filter_eq_self.2 fun i hi => hall i (by rw [h.split]; simp [hi])
  rw [this]
  exact hvc

/-- where nothing waits, all has been carried out -/
theorem all_of_ready (O : OrdOk n ops A π) {listed : Array Bool} (hsz : listed.size = ops.size) (hr : Region.ready .any ops listed = []) : ∀ i ∈ π, listed.getD i false = true := by
  have key : ∀ (m : Nat) (d1 d2 : List Nat), d1.length = m → π = d1 ++ d2 → ∀ k ∈ d1, listed.getD k false = true := by
    intro m
    induction m with
    | zero => intro d1 d2 hm _ k hk; rw [List.length_eq_zero_iff.1 hm] at hk; simp at hk
    | succ m ih =>
      intro d1 d2 hm hs k hk
      rcases List.eq_nil_or_concat d1 with rfl | ⟨d, z, rfl⟩
      · simp at hm
      · have hd := ih d (z :: d2) (by simpa using hm) (by rw [hs]; simp)
        simp only [List.concat_eq_append, List.mem_append, List.mem_singleton] at hk
        rcases hk with hk | rfl
        · exact hd k hk
        · cases hq : listed.getD k false with
          | true => rfl
          | false =>
            have hlt : k < ops.size := O.lt k (by rw [hs]; simp)
            have : k ∈ Region.ready .any ops listed := by
              rw [mem_ready]
              refine ⟨?_, ops[k], Array.getElem?_eq_getElem hlt, fun e he hb => ?_⟩
              · have hk' : k < listed.size := by omega
                simp only [Array.getD, hk'] at hq ⊢
                exact hq
              · exact hd _ (O.edges d k d2 _ e (by rw [hs]; simp) (Array.getElem?_eq_getElem hlt) (by simpa using he) hb)
            rw [hr] at this; simp at this
  exact key π.length π [] rfl (by simp)

end

end Go.Abs
