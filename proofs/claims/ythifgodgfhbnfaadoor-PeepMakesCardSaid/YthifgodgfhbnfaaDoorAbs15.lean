/- A region that draws its order: the main step; no condition. -/
import Derived.Test.YthifgodgfhbnfaaDoorAbs14
namespace Go.Abs
open Go

section
variable {P : Program} {G : Env} {n : Nat} {ops : Array Oper} {A : Array Nat} {π : List Nat} {Q : AQ} {a0 : Nat → AV} {D : List Deferred} {M0 : Mp} {F0 : Nat → FSt} {w0 : World}

/-- the operands, as the model reads them -/
theorem operands_VR (O : OrdOk n ops A π) {L : Nat → Bool} {done rest : List Nat} {val : Nat → AV} {σ : AS} (h : Stage P G n ops A π Q a0 L done rest val σ) {d1 d2 : List Nat} {i : Nat} {o : Oper} (hs : π = d1 ++ i :: d2) (ho : ops[i]? = some o)
    (hLi : L i = false) (hready : ∀ e ∈ o.after.toList, bindsAny e = true → L e.on = true) (hd : ∃ q, done = d1 ++ q) {M : Mp} {w : World} {ac : Act} (g : GOk P G M σ.F w) (f : Fr M σ.F w (afr ops val (done.filter L) a0) ac n) :
    (∀ x ∈ o.op.operands, VR M σ.F w (ev G (afr ops val d1 a0) x) (ac.eval x)) ∧ ∀ gd, guardOf ops o = some gd → ∀ d want, gd = some (d, want) → VR M σ.F w (afr ops val d1 a0 d) (ac.tmps.getD d undef) := by
  refine ⟨fun x hx => ?_, fun gd hg d want hgd => ?_⟩
  · rw [← ev_congr (a := afr ops val (done.filter L) a0) fun t ht => agree O h hs ho hLi hready hd (operand_slot hx ht)]
    exact ev_VR g f x
  · rw [← agree O h hs ho hLi hready hd (guard_slot hg hgd)]
    exact f.val d

theorem QEv.again {o : Oper} {a : Nat → AV} {σ σ' : AS} {v : AV} (h : QEv P G o a σ v) (hl : ∀ t x, o.op = .load t x → aload P t (ev G a x) σ' fun u => u = v) : QEv P G o a σ' v := by
  rcases h with h | ⟨t, x, ho, _⟩
  · exact .inl h
  · exact .inr ⟨t, x, ho, hl t x ho⟩

theorem again_mem {e : Nat} {a : Nat → AV} {σ : AS} : ∀ (l : List Nat), aagain P G a σ (againOf ops A e l) → ∀ j ∈ l, ∀ (o : Oper) t x d g, ops[j]? = some o → o.op = .load t x → o.dst = some d → guardOf ops o = some g → ahead A j e = false →
    acond a g (aload P t (ev G a x) σ fun v => v = a d) True := by
  intro l
  induction l with
  | nil => intro _ j hj; simp at hj
  | cons k r ih =>
    intro h j hj o t x d g ho hop hd hg hah
    rcases List.mem_cons.1 hj with rfl | hj
    · simp only [againOf, ho, hop, hd, hg, hah] at h
      exact h.1
    · refine ih ?_ j hj o t x d g ho hop hd hg hah
      simp only [againOf] at h
      split at h
      · split at h
        · split at h
          · exact h
          · exact h.2
        · exact h
      · exact h

theorem draw_step {ro : Option Nat} (O : OrdOk n ops A π) : ∀ (fuel : Nat) (listed : Array Bool) (done rest : List Nat) (val : Nat → AV) (σ : AS) (M : Mp) (w : World) (ac : Act),
    listed.size = ops.size → (π.filter fun k => !(listed.getD k false)).length = fuel → Stage P G n ops A π Q a0 (fun k => listed.getD k false) done rest val σ → headE ops rest →
    Sim M σ w → GOk P G M σ.F w → Ext M0 F0 w0 M σ.F w → Fr M σ.F w (afr ops val (done.filter fun k => listed.getD k false) a0) ac n → ac.defers = D →
    wpAnyIn (wideAt ro) 0 P .any ops (QC P G n D M0 F0 w0 Q) fuel listed ac w := by
  intro fuel
  induction fuel with
  | zero =>
    intro listed done rest val σ M w ac hsz hfu hst hhd S g E f hD
    have hall : ∀ i ∈ π, listed.getD i false = true := by
      intro i hi
      have := List.length_eq_zero_iff.1 hfu
      rw [List.filter_eq_nil_iff] at this
      simpa using this i hi
    refine ⟨?_, _, _, σ, M, hst.done_all O hall, trivial, S, g, E, f, hD⟩
    rw [List.eq_nil_iff_forall_not_mem]
    intro i hi
    rw [mem_ready] at hi
    obtain ⟨h1, o, ho, _⟩ := hi
    have hlt := (Array.getElem?_eq_some_iff.1 ho).1
    have h2 := hall i (O.all i hlt)
    have hlt' : i < listed.size := by omega
    rw [Array.getD_eq_getD_getElem?, Array.getElem?_eq_getElem hlt'] at h1 h2
    simp only [Option.getD_some] at h1 h2
    rw [h2] at h1; cases h1
  | succ fuel ih =>
    intro listed done rest val σ M w ac hsz hfu hst hhd S g E f hD
    refine ⟨fun hr => ⟨_, _, σ, M, hst.done_all O (all_of_ready O hsz hr), trivial, S, g, E, f, hD⟩, fun i hi => ?_⟩
    rw [mem_ready] at hi
    obtain ⟨h1, o, ho, hready0⟩ := hi
    have hready : ∀ e ∈ o.after.toList, bindsAny e = true → listed.getD e.on false = true := fun e he hb => hready0 e (by simpa using he) hb
    have hlt := (Array.getElem?_eq_some_iff.1 ho).1
    have hlt' : i < listed.size := by omega
    have hLi : listed.getD i false = false := by
      simp only [Array.getD, hlt'] at h1 ⊢
      exact h1
    have hLset : (fun k => (listed.setIfInBounds i true).getD k false) = upd (fun k => listed.getD k false) i true := by
      funext k
      by_cases hk : k = i
      · subst hk; rw [upd_same]; simp [Array.getD, hlt']
      · rw [upd_ne _ _ hk]
        simp only [Array.getD_eq_getD_getElem?]
        rw [Array.getElem?_setIfInBounds_ne (Ne.symm hk)]
    have hsz' : (listed.setIfInBounds i true).size = ops.size := by simpa using hsz
    have hfu' : (π.filter fun k => !((listed.setIfInBounds i true).getD k false)).length = fuel := by
      have := left_less O.nodup (L := fun k => listed.getD k false) (O.all i hlt) hLi
      have e2 : (fun k => !((listed.setIfInBounds i true).getD k false)) = fun k => !(upd (fun k => listed.getD k false) i true) k := by funext k; rw [← hLset]
      rw [e2]
      omega
    have hclosed' : ∀ j (oj : Oper), upd (fun k => listed.getD k false) i true j = true → ops[j]? = some oj → ∀ e ∈ oj.after.toList, bindsAny e = true → upd (fun k => listed.getD k false) i true e.on = true := by
      intro j oj hj hoj e he hb
      have key : listed.getD e.on false = true := by
        by_cases hji : j = i
        · subst hji; rw [ho] at hoj; cases hoj; exact hready e he hb
        · rw [upd_ne _ _ hji] at hj; exact hst.closed j oj hj hoj e he hb
      by_cases hei : e.on = i
      · rw [hei, upd_same]
      · rw [upd_ne _ _ hei]; exact key
    have hnd : (done ++ rest).Nodup := by rw [← hst.split]; exact O.nodup
    unfold wpOpIn
    rw [ho]
    simp only
    by_cases hid : i ∈ done
    · -- a quiet operation that has been looked at
      obtain ⟨d1, d2, hdone⟩ := List.append_of_mem hid
      have hs : π = d1 ++ i :: (d2 ++ rest) := by rw [hst.split, hdone]; simp
      obtain ⟨hops, hgs⟩ := operands_VR O hst hs ho hLi hready ⟨i :: d2, hdone⟩ g f
      obtain ⟨gd, hgd, hcase⟩ := hst.pend d1 i d2 o hdone ho hLi
      obtain ⟨hn1, hn2⟩ := nodup_mid (l := d1) (m := d2) (by rw [← hdone]; exact (List.nodup_append.1 hnd).1)
      -- the frame behind it
      have hfr : ∀ t, afr ops val (done.filter (upd (fun k => listed.getD k false) i true)) a0 t = put (afr ops val (done.filter fun k => listed.getD k false) a0) o.dst (val i) t := by
        intro t
        have e1 : done.filter (upd (fun k => listed.getD k false) i true) = d1.filter (fun k => listed.getD k false) ++ i :: d2.filter fun k => listed.getD k false := by
          rw [hdone, List.filter_append, List.filter_cons_of_pos (by rw [upd_same]), filter_upd hn1, filter_upd hn2]
        have e2 : done.filter (fun k => listed.getD k false) = d1.filter (fun k => listed.getD k false) ++ d2.filter fun k => listed.getD k false := by
          rw [hdone, List.filter_append, List.filter_cons_of_neg (by rw [hLi]; simp)]
        rw [e1, e2, afr_append, afr_append]
        simp only [afr, dstAt_some ho]
        by_cases ht : o.dst = some t
        · rw [afr_none, ht, put_eq, put_eq]
          intro k hk
          simp only [List.mem_filter] at hk
          refine not_written O ho (fun e => hn2 (e ▸ hk.1)) ?_ ?_ (.inr ht)
          · cases hz : ahead A k i with
            | false => rfl
            | true =>
              have hk1 := ahead_before O d1.length d1 i (d2 ++ rest) k rfl hs hz
              have := (List.nodup_append.1 hnd).1
              rw [hdone, List.nodup_append] at this
              exact absurd rfl (this.2.2 k hk1 k (by simp [hk.1]))
          · cases hz : ahead A i k with
            | false => rfl
            | true =>
              obtain ⟨x, y, hxy⟩ := split_of_mem O (O.lt k (by rw [hst.split, hdone]; simp [hk.1]))
              have hkl : k < ops.size := O.lt k (by rw [hst.split, hdone]; simp [hk.1])
              have := ahead_in O hst.closed x.length x k y i _ rfl hxy (Array.getElem?_eq_getElem hkl) (fun e he hb => hst.closed k _ hk.2 (Array.getElem?_eq_getElem hkl) e he hb) hz
              rw [hLi] at this; cases this
        · rw [put_ne ht]
          exact afr_congr _ _ _ t (put_ne ht)
      have hstage : Stage P G n ops A π Q a0 (fun k => (listed.setIfInBounds i true).getD k false) done rest val σ := by
        rw [hLset]
        refine ⟨hst.split, hclosed', fun j hj => ?_, fun j hj oj hoj hEj => ?_, fun e1 j e2 oj hs' hoj hLj => ?_, hst.vc⟩
        · by_cases hji : j = i
          · rw [hji]; exact hid
          · rw [upd_ne _ _ hji] at hj; exact hst.sub j hj
        · by_cases hji : j = i
          · rw [hji, upd_same]
          · rw [upd_ne _ _ hji]; exact hst.eL j hj oj hoj hEj
        · by_cases hji : j = i
          · rw [hji, upd_same] at hLj; cases hLj
          · rw [upd_ne _ _ hji] at hLj; exact hst.pend e1 j e2 oj hs' hoj hLj
      have hgo : ∀ (v' : Value) (M' : Mp) (w' : World), VR M' σ.F w' (val i) v' → Sim M' σ w' → Ext M σ.F w M' σ.F w' → wpAnyIn (wideAt ro) 0 P .any ops (QC P G n D M0 F0 w0 Q) fuel (listed.setIfInBounds i true) (ac.put o.dst v') w' := by
        intro v' M' w' hv S' E'
        refine ih _ done rest val σ M' w' _ hsz' hfu' hstage hhd S' (g.mono E') (E.trans E') ?_ (by rw [put_defers, hD])
        have f' := (f.mono E').put (O.dst i o ho) hv
        rw [hLset]
        exact ⟨f'.size, fun t => by rw [hfr t]; exact f'.val t⟩
      rcases hcase with ⟨hc, hq⟩ | ⟨hc, hv0⟩
      · rcases wanted_core hgd (hgs gd hgd) hc with ⟨hw, _⟩ | ⟨_, hw⟩
        · rw [if_pos hw]
          obtain ⟨v', M', w', hr, hv, E', S'⟩ := hq.run S hops
          refine ⟨fun _ _ => trivial, ?_⟩
          rw [o.semAt_eq _ _ hq.nodefer, hr, Oper.uponIn_value]
          exact hgo v' M' w' hv S' E'
        · exact hw.elim
      · rcases wanted_core hgd (hgs gd hgd) hc with ⟨_, hw⟩ | ⟨hw, _⟩
        · exact hw.elim
        · rw [if_neg (by rw [hw]; simp)]
          refine ⟨fun _ _ => trivial, ?_⟩
          exact hgo undef M w (by rw [hv0]; exact undef_VR ..) S (.refl ..)
    · -- the call or store that stands first
      have hirest : i ∈ rest := by
        have := O.all i hlt
        rw [hst.split, List.mem_append] at this
        exact this.resolve_left hid
      obtain ⟨e, r, oe, hrest, hoe, hEe⟩ : ∃ e r, ∃ oe : Oper, rest = e :: r ∧ ops[e]? = some oe ∧ isE oe = true := by
        rcases hhd with h | h
        · rw [h] at hirest; simp at hirest
        · exact h
      have hie : i = e := by
        rw [hrest] at hirest
        rcases List.mem_cons.1 hirest with h | h
        · exact h
        · exfalso
          have hah := O.late done e r oe i (by rw [hst.split, hrest]) hoe hEe h
          obtain ⟨x, y, hxy⟩ := split_of_mem O hlt
          have hLe := ahead_in O hst.closed x.length x i y e o rfl hxy ho hready hah
          have := hst.sub e hLe
          rw [hrest] at hnd
          exact (nodup_mid hnd).1 this
      subst hie
      rw [ho] at hoe; cases hoe
      subst hrest
      have hs : π = done ++ i :: r := hst.split
      obtain ⟨hops, hgs⟩ := operands_VR O hst hs ho hLi hready ⟨[], by simp⟩ g f
      obtain ⟨pl, hpl, hvc⟩ := hst.vc
      simp only [drawPlan, ho, planOf] at hpl
      cases hg : guardOf ops o with
      | none => simp [hg] at hpl
      | some gd =>
        cases hr : drawPlan ops A (done ++ [i]) r with
        | none => simp [hg, hr] at hpl
        | some pr =>
          simp [hg, hr, hEe] at hpl
          subst hpl
          simp only [aops] at hvc
          -- what goes on behind it
          have hgo : ∀ (v : AV) (v' : Value) (σ' : AS) (M' : Mp) (w' : World), aops P G Q pr (put (afr ops val done a0) o.dst v) σ' → VR M' σ'.F w' v v' → Sim M' σ' w' → GOk P G M' σ'.F w' → Ext M σ.F w M' σ'.F w' →
              (∀ d1 j d2 (oj : Oper), done = d1 ++ j :: d2 → ops[j]? = some oj → listed.getD j false = false → PEnd P G ops oj (afr ops val d1 a0) σ' (val j)) →
              wpAnyIn (wideAt ro) 0 P .any ops (QC P G n D M0 F0 w0 Q) fuel (listed.setIfInBounds i true) (ac.put o.dst v') w' := by
            intro v v' σ' M' w' hvc' hv S' g' E' hpend
            have hval : ∀ j ∈ done, val j = upd val i v j := fun j hj => (upd_ne _ _ (by rintro rfl; exact hid hj)).symm
            have hst1 : Stage P G n ops A π Q a0 (upd (fun k => listed.getD k false) i true) (done ++ [i]) r (upd val i v) σ' := by
              refine ⟨by rw [hs]; simp, hclosed', fun j hj => ?_, fun j hj oj hoj hEj => ?_, fun e1 j e2 oj hs' hoj hLj => ?_, pr, hr, ?_⟩
              · by_cases hji : j = i
                · rw [hji]; simp
                · rw [upd_ne _ _ hji] at hj; simp [hst.sub j hj]
              · rcases List.mem_append.1 hj with hj | hj
                · by_cases hji : j = i
                  · rw [hji, upd_same]
                  · rw [upd_ne _ _ hji]; exact hst.eL j hj oj hoj hEj
                · simp at hj; rw [hj, upd_same]
              · rcases List.eq_nil_or_concat e2 with rfl | ⟨e2', z, rfl⟩
                · obtain ⟨_, h2⟩ := List.append_inj' hs' (by simp)
                  simp at h2
                  rw [← h2, upd_same] at hLj; cases hLj
                · have q1 : done ++ [i] = (e1 ++ j :: e2') ++ [z] := by rw [hs']; simp
                  obtain ⟨q2, _⟩ := List.append_inj' q1 (by simp)
                  have hj1 : ∀ k ∈ e1, val k = upd val i v k := fun k hk => hval k (by rw [q2]; simp [hk])
                  rw [← afr_val e1 a0 hj1, ← hval j (by rw [q2]; simp)]
                  have hji : j ≠ i := by rintro rfl; exact hid (by rw [q2]; simp)
                  rw [upd_ne _ _ hji] at hLj
                  exact hpend e1 j e2' oj q2 hoj hLj
              · rw [afr_append, ← afr_val done a0 hval]
                simp only [afr, upd_same, dstAt_some ho]
                exact hvc'
            obtain ⟨done', rest', val', k1, k2, ⟨q, k3, k4⟩, k5⟩ := Stage.norm O r (done ++ [i]) (upd val i v) σ' hst1
            have hstage : Stage P G n ops A π Q a0 (fun k => (listed.setIfInBounds i true).getD k false) done' rest' val' σ' := by rw [hLset]; exact k1
            refine ih _ done' rest' val' σ' M' w' _ hsz' hfu' hstage k2 S' g' (E.trans E') ?_ (by rw [put_defers, hD])
            have f' := (f.mono E').put (O.dst i o ho) hv
            rw [hLset]
            have e1 : done'.filter (upd (fun k => listed.getD k false) i true) = done.filter (fun k => listed.getD k false) ++ [i] := by
              rw [k3, List.filter_append, List.filter_append, filter_upd hid, List.filter_cons_of_pos (by rw [upd_same])]
              rw [show q.filter (upd (fun k => listed.getD k false) i true) = [] from by
                rw [List.filter_eq_nil_iff]; intro j hj; rw [k4 j hj]; simp]
              simp
            have e2 : ∀ j ∈ done.filter (fun k => listed.getD k false) ++ [i], val' j = upd val i v j := by
              intro j hj
              refine k5 j ?_
              rcases List.mem_append.1 hj with hj | hj
              · exact List.mem_append.2 (.inl ((List.mem_filter.1 hj).1))
              · exact List.mem_append.2 (.inr hj)
            refine ⟨f'.size, fun t => ?_⟩
            rw [e1, afr_val _ a0 e2, afr_append]
            simp only [afr, upd_same, dstAt_some ho]
            rw [← afr_val (done.filter fun k => listed.getD k false) a0 (fun j hj => hval j ((List.mem_filter.1 hj).1))]
            exact f'.val t
          rcases wanted_core hg (hgs gd hg) hvc with ⟨hw, hop⟩ | ⟨hw, hno⟩
          · rw [if_pos hw]
            refine aop1_core hop S g E hops f.size hD fun v v' σ' M' w' hK hv S' g' E' => ?_
            refine hgo v v' σ' M' w' hK.2 hv S' g' E' fun d1 j d2 oj hdn hoj hLj => ?_
            obtain ⟨gj, hgj, hcase⟩ := hst.pend d1 j d2 oj hdn hoj hLj
            refine ⟨gj, hgj, ?_⟩
            rcases hcase with ⟨hc, hq⟩ | hc
            · refine .inl ⟨hc, hq.again fun t x hox => ?_⟩
              have hah : ahead A j i = false := by
                cases hz : ahead A j i with
                | false => rfl
                | true =>
                  have := ahead_in O hst.closed done.length done i r j o rfl hs ho hready hz
                  rw [hLj] at this; cases this
              obtain ⟨d, hdj, hkeep⟩ := O.keep d1 j d2 i r oj o t x (by rw [hs, hdn]; simp) hoj hox ho hEe hah
              have hmem := again_mem done hK.1 j (by rw [hdn]; simp) oj t x d gj hoj hox hdj hgj hah
              -- the slots are as they were
              have hslot : ∀ s ∈ slotsOf ops oj, put (afr ops val done a0) o.dst v s = afr ops val d1 a0 s := by
                intro s hs1
                rw [put_ne (by have := (hkeep i (by simp)).1 s hs1; rwa [dstAt_some ho] at this)]
                rw [hdn, afr_append]
                exact afr_none s (j :: d2) _ fun k hk => (hkeep k (by rcases List.mem_cons.1 hk with h | h <;> simp [h])).1 s hs1
              have hji : j ≠ i := by rintro rfl; exact hid (by rw [hdn]; simp)
              have hdst : put (afr ops val done a0) o.dst v d = val j := by
                rw [put_ne (by have := (hkeep i (by simp)).2 (Ne.symm hji); rwa [dstAt_some ho] at this)]
                rw [hdn, afr_append]
                simp only [afr, dstAt_some hoj, hdj]
                rw [afr_none d d2 _ fun k hk => ?_, put_eq]
                refine (hkeep k (by simp [hk])).2 ?_
                rintro rfl
                have hn := (List.nodup_append.1 hnd).1
                rw [hdn] at hn
                exact (nodup_mid hn).2 hk
              have hcc : acond (put (afr ops val done a0) o.dst v) gj True False := by
                rw [acond_congr (b := afr ops val d1 a0) fun d' w' hgw => hslot d' (guard_slot hgj hgw)]
                exact hc
              have h2 := acond_yes hcc hmem
              rw [hdst, ev_congr (b := afr ops val d1 a0) fun t' ht' => hslot t' (operand_slot (by rw [hox]; simp [Op.operands]) ht')] at h2
              exact h2
            · exact .inr hc
          · rw [if_neg (by rw [hw]; simp)]
            refine ⟨fun _ _ => trivial, ?_⟩
            exact hgo (.tuple []) undef σ M w hno (undef_VR ..) S g (.refl ..) (fun d1 j d2 oj hdn hoj hLj => hst.pend d1 j d2 oj hdn hoj hLj)

end

end Go.Abs
