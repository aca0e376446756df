/- Parts of the proof of the row BinMakes: loops, calls and stepping rules of the abstract layer; no condition. -/
import Derived.Test.YthejpoplbllcbaaGreatDoorAbsA
import Derived.Below
import Derived.RangeFuncLeaves
import Derived.Recover
set_option linter.unusedSimpArgs false
set_option linter.unusedVariables false
namespace Go.Abs
open Go
def againOf (ops : Array Oper) (A : Array Nat) (e : Nat) : List Nat → List AG
 | []=>[]
 | j :: r =>
  match ops[j]? with
  | some o=>match o.op,o.dst,guardOf ops o with
   | .load t x,some d,some g=>if ahead A j e then againOf ops A e r else ⟨g,t,x,d⟩ :: againOf ops A e r
   | _,_,_=>againOf ops A e r
  | none=>againOf ops A e r
def drawPlan (ops : Array Oper) (A : Array Nat) : List Nat → List Nat → Option (List PO)
 | _,[]=>some []
 | done,i :: r =>
  match ops[i]? with
  | some o=>(planOf ops o (if isE o then againOf ops A i done else [])).bind fun p=>(drawPlan ops A (done ++ [i]) r).map fun l=>p :: l
  | none=>none
def QEv (P : Program) (G : Env) (o : Oper) (a : Nat → AV) (σ : AS) (v : AV) : Prop :=
 (isPure o.op = true ∧ QuietOp P o (ev G a) v) ∨ ∃ t x,o.op = .load t x ∧ aload P t (ev G a x) σ fun u=>u = v
def PEnd (P : Program) (G : Env) (ops : Array Oper) (o : Oper) (a : Nat → AV) (σ : AS) (v : AV) : Prop :=
 ∃ g,guardOf ops o = some g ∧ ((acond a g True False ∧ QEv P G o a σ v) ∨ (acond a g False True ∧ v = .tuple []))
theorem acond_cases {a : Nat → AV} {g : Option (Nat × Bool)} {yes no : Prop} (h : acond a g yes no) : (acond a g True False ∧ yes) ∨ (acond a g False True ∧ no) := by
 unfold acond at *
 split at h
 ·exact .inl ⟨trivial,h⟩
 ·rename_i d want
  cases hd : a d <;> simp only [hd] at h ⊢ <;> try exact h.elim
  ·rename_i b
   by_cases e : b = want
   ·exact .inl ⟨⟨fun _=>trivial,fun h'=>h' e⟩,h.1 e⟩
   ·exact .inr ⟨⟨fun h'=>e h',fun _=>trivial⟩,h.2 e⟩
  ·rename_i vs
   cases vs with
   | nil=>exact .inr ⟨trivial,h⟩
   | cons=>exact h.elim
theorem acond_yes {a : Nat → AV} {g : Option (Nat × Bool)} {yes no : Prop} (h : acond a g True False) (hc : acond a g yes no) : yes := by
 unfold acond at *
 split at h
 ·exact hc
 ·rename_i d want
  cases hd : a d <;> simp only [hd] at h hc <;> try exact h.elim
  ·rename_i b
   by_cases e : b = want
   ·exact hc.1 e
   ·exact (h.2 e).elim
  ·rename_i vs
   cases vs with
   | nil=>exact h.elim
   | cons=>exact h.elim
theorem acond_congr {a b : Nat → AV} {g : Option (Nat × Bool)} {yes no : Prop} (h : ∀ d w,g = some (d,w) → a d = b d) : acond a g yes no = acond b g yes no := by
 unfold acond
 cases g with
 | none=>rfl
 | some p=>simp only [h p.1 p.2 rfl]
theorem ev_congr {G : Env} {a b : Nat → AV} {x : Operand} (h : ∀ t,x = .tmp t → a t = b t) : ev G a x = ev G b x := by
 cases x with
 | tmp t=>exact h t rfl
 | _=>rfl
theorem aload_ex {P : Program} {t p σ} {K : AV → Prop} (h : aload P t p σ K) : ∃ v,K v ∧ aload P t p σ fun u => u = v := by
 have part : ∀ {g n off cs} {K : AV → Prop},partOf g n off cs K → ∃ v,K v ∧ partOf g n off cs fun u=>u = v:=by
  intro g n off cs K h
  unfold partOf at *
  split at h
  ·rename_i hg; exact ⟨_,h.2,by rw [if_pos hg]; exact ⟨h.1,rfl⟩⟩
  ·rename_i hg; obtain ⟨v,h1,h2⟩:=h; exact ⟨v,h2,by rw [if_neg hg]; exact ⟨v,h1,rfl⟩⟩
 unfold aload at *
 split at h
 ·obtain ⟨cs,n,h1,h2,h3⟩:=h
  obtain ⟨v,h4,h5⟩:=part h3
  exact ⟨v,h4,cs,n,h1,h2,h5⟩
 ·obtain ⟨h1,n,h2,h3⟩:=h
  split at h3
  ·rename_i hg
   obtain ⟨cs,rfl,h4,h5⟩:=h3
   exact ⟨_,h5,h1,n,h2,by rw [if_pos hg]; exact ⟨cs,rfl,h4,rfl⟩⟩
  ·rename_i hg
   exact ⟨_,h3.2,h1,n,h2,by rw [if_neg hg]; exact ⟨h3.1,rfl⟩⟩
 ·exact h.elim
theorem quiet_ex {P : Program} {G : Env} {o : Oper} {a : Nat → AV} {σ : AS} {K : (Nat → AV) → AS → Prop} {Q : AQ} (hq : isE o = false) (h : aop1 P G o.op o.dst a σ K Q) : ∃ v,QEv P G o a σ v ∧ K (put a o.dst v) σ := by
 have hnx : nextOf o.op = none:=by
  cases hn : nextOf o.op with
  | none=>rfl
  | some x =>
   have hop : o.op = .next (.tmp x) false:=by
    unfold nextOf at hn
    split at hn
    ·rename_i y hy; cases hn; exact hy
    ·cases hn
   simp [isE,isLoad,isPure,hop] at hq
 unfold aop1 at h
 rw [hnx] at h
 simp only at h
 split at h
 ·rename_i hp
  obtain ⟨v,h1,h2⟩:=apure_sound h
  exact ⟨v,.inl ⟨hp,h2⟩,h1⟩
 ·rename_i hp
  have hp' : isPure o.op = false:=by simpa using hp
  simp only [isE,hp',Bool.not_false,Bool.true_and,Bool.not_eq_false'] at hq
  unfold isLoad at hq
  split at hq
  ·rename_i t x ho
   rw [ho] at h
   simp only [aeff] at h
   obtain ⟨v,h1,h2⟩:=aload_ex h
   exact ⟨v,.inr ⟨t,x,ho,h2⟩,h1⟩
  ·cases hq
theorem QEv.run {P : Program} {G : Env} {o : Oper} {a : Nat → AV} {σ : AS} {v : AV} (h : QEv P G o a σ v) {M w} {ρ : Operand → Value} (S : Sim M σ w) (hops : ∀ x ∈ o.op.operands,VR M σ.F w (ev G a x) (ρ x)) :
  ∃ v' M' w',(execOp ρ o).run P w = .ok (.value v') w' ∧ VR M' σ.F w' v v' ∧ Ext M σ.F w M' σ.F w' ∧ Sim M' σ w':=by
 rcases h with ⟨_,hq⟩ | ⟨t,x,ho,hl⟩
 ·obtain ⟨v',M',w',h1,h2,h3,h4⟩:=hq M σ.F w ρ S.role hops
  exact ⟨v',M',w',h1,h2,h3,h4 σ rfl S⟩
 ·obtain ⟨u,rfl,hh⟩:=aload_sound hl
  obtain ⟨v',h1,h2⟩:=hh M w (ρ x) S (hops x (by rw [ho]; simp [Op.operands]))
  refine ⟨v',M,w,?_,h2,.refl ..,S⟩
  unfold execOp; simp only [ho]; rw [Sem.run_bind,h1]; rfl
theorem QEv.nodefer {P : Program} {G : Env} {o : Oper} {a : Nat → AV} {σ : AS} {v : AV} (h : QEv P G o a σ v) : ∀ c,o.op ≠ .defer c := by
 intro c hc
 rcases h with ⟨h1,_⟩ | ⟨t,x,h1,_⟩
 ·rw [hc] at h1; cases h1
 ·rw [hc] at h1; cases h1
section
variable {P : Program} {G : Env} {n : Nat} {ops : Array Oper} {A : Array Nat} {π : List Nat} {Q : AQ} {a0 : Nat → AV}
theorem ahead_before (O : OrdOk n ops A π) : ∀ (m : Nat) (d1 : List Nat) (i : Nat) (d2 : List Nat) (k : Nat),d1.length = m → π = d1 ++ i :: d2 → ahead A k i = true → k ∈ d1 := by
 intro m
 induction m using Nat.strongRecOn with
 | _ m ih =>
  intro d1 i d2 k hm hπ hk
  have hi : i < ops.size:=O.lt i (by rw [hπ]; simp)
  obtain ⟨e,he,hb,h⟩:=mask_spec O.mask (Array.getElem?_eq_getElem hi) hk
  have hon:=O.edges d1 i d2 _ e hπ (Array.getElem?_eq_getElem hi) he hb
  rcases h with h | h
  ·rw [← h]; exact hon
  ·obtain ⟨x,y,rfl⟩:=List.append_of_mem hon
   have:=ih x.length (by rw [← hm]; simp) x e.on (y ++ i :: d2) k rfl (by rw [hπ]; simp) h
   simp [this]
theorem ahead_in (O : OrdOk n ops A π) {L : Nat → Bool} (hcl : ∀ i (o : Oper),L i = true → ops[i]? = some o → ∀ e ∈ o.after.toList,bindsAny e = true → L e.on = true) :
  ∀ (m : Nat) (d1 : List Nat) (i : Nat) (d2 : List Nat) (k : Nat) (o : Oper),d1.length = m → π = d1 ++ i :: d2 → ops[i]? = some o → (∀ e ∈ o.after.toList,bindsAny e = true → L e.on = true) → ahead A k i = true → L k = true:=by
 intro m
 induction m using Nat.strongRecOn with
 | _ m ih =>
  intro d1 i d2 k o hm hπ ho hr hk
  obtain ⟨e,he,hb,h⟩:=mask_spec O.mask ho hk
  have hon:=O.edges d1 i d2 o e hπ ho he hb
  rcases h with h | h
  ·rw [← h]; exact hr e he hb
  ·have hLe:=hr e he hb
   obtain ⟨x,y,hxy⟩:=List.append_of_mem hon
   have hlt : e.on < ops.size:=O.lt e.on (by rw [hπ,hxy]; simp)
   exact ih x.length (by rw [← hm,hxy]; simp) x e.on (y ++ i :: d2) k _ rfl (by rw [hπ,hxy]; simp) (Array.getElem?_eq_getElem hlt) (fun e' he' hb'=>hcl e.on _ hLe (Array.getElem?_eq_getElem hlt) e' he' hb') h
theorem split_of_mem (O : OrdOk n ops A π) {i : Nat} (hi : i < ops.size) : ∃ d1 d2,π = d1 ++ i :: d2 := by
 obtain ⟨d1,d2,h⟩:=List.append_of_mem (O.all i hi); exact ⟨d1,d2,h⟩
theorem dstAt_some {i : Nat} {o : Oper} (ho : ops[i]? = some o) : dstAt ops i = o.dst := by simp [dstAt,ho]
theorem not_written (O : OrdOk n ops A π) {i k : Nat} {oi : Oper} (hi : ops[i]? = some oi) (hne : k ≠ i) (h1 : ahead A k i = false) (h2 : ahead A i k = false) {t : Nat} (ht : t ∈ slotsOf ops oi ∨ oi.dst = some t) : dstAt ops k ≠ some t := by
 intro hk
 cases hok : ops[k]? with
 | none=>simp [dstAt,hok] at hk
 | some ok =>
  rw [dstAt_some hok] at hk
  rcases O.slots k i ok oi t hne hok hi hk ht with h | h
  ·rw [h] at h1; cases h1
  ·rw [h] at h2; cases h2
theorem guard_slot {o : Oper} {g : Option (Nat × Bool)} (hg : guardOf ops o = some g) {d w} (h : g = some (d,w)) : d ∈ slotsOf ops o := by
 subst h
 unfold guardOf at hg
 split at hg
 ·cases hg
 ·rename_i j want hj
  split at hg
  ·rename_i d' hd
   simp at hg
   unfold slotsOf
   rw [hj]
   simp only [hd]
   simp [hg.1]
  ·cases hg
theorem operand_slot {o : Oper} {x : Operand} (hx : x ∈ o.op.operands) {t : Nat} (h : x = .tmp t) : t ∈ slotsOf ops o := by
 subst h
 unfold slotsOf
 rw [List.mem_append,List.mem_filterMap]
 exact .inl ⟨_,by simpa using hx,rfl⟩
end
end Go.Abs
namespace Go.Abs
open Go
section
variable {P : Program} {G : Env} {n : Nat} {ops : Array Oper} {A : Array Nat} {π : List Nat} {Q : AQ} {a0 : Nat → AV}
theorem afr_val {val val' : Nat → AV} : ∀ (l : List Nat) (a : Nat → AV),(∀ i ∈ l,val i = val' i) → afr ops val l a = afr ops val' l a
 | [],_,_=>rfl
 | i :: l,a,h=>by
  simp only [afr]
  rw [h i (by simp)]
  exact afr_val l _ fun j hj=>h j (by simp [hj])
structure Stage (P : Program) (G : Env) (n : Nat) (ops : Array Oper) (A : Array Nat) (π : List Nat) (Q : AQ) (a0 : Nat → AV) (L : Nat → Bool) (done rest : List Nat) (val : Nat → AV) (σ : AS) : Prop where
 split : π = done ++ rest
 closed : ∀ i (o : Oper),L i = true → ops[i]? = some o → ∀ e ∈ o.after.toList,bindsAny e = true → L e.on = true
 sub : ∀ i,L i = true → i ∈ done
 eL : ∀ i ∈ done,∀ o : Oper,ops[i]? = some o → isE o = true → L i = true
 pend : ∀ d1 i d2 (o : Oper),done = d1 ++ i :: d2 → ops[i]? = some o → L i = false → PEnd P G ops o (afr ops val d1 a0) σ (val i)
 vc : ∃ pl,drawPlan ops A done rest = some pl ∧ aops P G Q pl (afr ops val done a0) σ
def headE (ops : Array Oper) (rest : List Nat) : Prop := rest = [] ∨ ∃ e r,∃ oe : Oper,rest = e :: r ∧ ops[e]? = some oe ∧ isE oe = true
theorem Stage.norm (O : OrdOk n ops A π) {L : Nat → Bool} : ∀ (rest done : List Nat) (val : Nat → AV) (σ : AS),Stage P G n ops A π Q a0 L done rest val σ →
  ∃ done' rest' val',Stage P G n ops A π Q a0 L done' rest' val' σ ∧ headE ops rest' ∧ (∃ q,done' = done ++ q ∧ ∀ i ∈ q,L i = false) ∧ ∀ i ∈ done,val' i = val i:=by
 intro rest
 induction rest with
 | nil=>intro done val σ h; exact ⟨done,[],val,h,.inl rfl,⟨[],by simp,by simp⟩,fun _ _=>rfl⟩
 | cons i r ih =>
  intro done val σ h
  have hi : i < ops.size:=O.lt i (by rw [h.split]; simp)
  have ho : ops[i]? = some ops[i]:=Array.getElem?_eq_getElem hi
  generalize ops[i] = o at ho
  cases hE : isE o with
  | true=>exact ⟨done,i :: r,val,h,.inr ⟨i,r,o,rfl,ho,hE⟩,⟨[],by simp,by simp⟩,fun _ _=>rfl⟩
  | false =>
   have hnd:=O.nodup
   rw [h.split] at hnd
   have hid : i ∉ done:=fun hm=>by
    rw [List.nodup_append] at hnd
    exact hnd.2.2 i hm i (by simp) rfl
   have hL : L i = false:=by
    cases hq : L i with
    | false=>rfl
    | true=>exact absurd (h.sub i hq) hid
   obtain ⟨pl,hpl,hvc⟩:=h.vc
   simp only [drawPlan,ho,hE,planOf] at hpl
   cases hg : guardOf ops o with
   | none=>simp [hg] at hpl
   | some g =>
    cases hr : drawPlan ops A (done ++ [i]) r with
    | none=>simp [hg,hr] at hpl
    | some pr =>
     simp [hg,hr] at hpl
     subst hpl
     simp only [aops] at hvc
     have key : ∃ v,PEnd P G ops o (afr ops val done a0) σ v ∧ aops P G Q pr (put (afr ops val done a0) o.dst v) σ:=by
      rcases acond_cases hvc with ⟨h1,h2⟩ | ⟨h1,h2⟩
      ·obtain ⟨v,h3,h4⟩:=quiet_ex hE h2
       exact ⟨v,⟨g,hg,.inl ⟨h1,h3⟩⟩,h4.2⟩
      ·exact ⟨_,⟨g,hg,.inr ⟨h1,rfl⟩⟩,h2⟩
     obtain ⟨v,hp,hv⟩:=key
     have hval : ∀ j ∈ done,val j = upd val i v j:=fun j hj=>(upd_ne _ _ (by rintro rfl; exact hid hj)).symm
     have hst : Stage P G n ops A π Q a0 L (done ++ [i]) r (upd val i v) σ:=by
      refine ⟨by rw [h.split]; simp,h.closed,fun j hj=>by simp [h.sub j hj],fun j hj oj hoj hEj=>?_,fun d1 j d2 oj hs hoj hLj=>?_,pr,hr,?_⟩
      ·rcases List.mem_append.1 hj with hj | hj
       ·exact h.eL j hj oj hoj hEj
       ·simp at hj; subst hj; rw [ho] at hoj; cases hoj; rw [hE] at hEj; cases hEj
      ·rcases List.eq_nil_or_concat d2 with rfl | ⟨d2',z,rfl⟩
       ·have:=List.append_inj' hs (by simp)
        obtain ⟨rfl,h2⟩:=this
        simp at h2
        subst h2
        rw [ho] at hoj; cases hoj
        rw [upd_same,← afr_val done a0 hval]
        exact hp
       ·have e1 : done ++ [i] = (d1 ++ j :: d2') ++ [z]:=by rw [hs]; simp
        have:=List.append_inj' e1 (by simp)
        obtain ⟨e2,_⟩:=this
        have hj1 : ∀ k ∈ d1,val k = upd val i v k:=fun k hk=>hval k (by rw [e2]; simp [hk])
        rw [← afr_val d1 a0 hj1,← hval j (by rw [e2]; simp)]
        exact h.pend d1 j d2' oj e2 hoj hLj
      ·rw [afr_append,← afr_val done a0 hval]
       simp only [afr,upd_same,dstAt_some ho]
       exact hv
     obtain ⟨done',rest',val',k1,k2,⟨q,k3,k4⟩,k5⟩:=ih _ _ _ hst
     refine ⟨done',rest',val',k1,k2,⟨i :: q,by rw [k3]; simp,fun j hj=>?_⟩,fun j hj=>?_⟩
     ·rcases List.mem_cons.1 hj with rfl | hj
      ·exact hL
      ·exact k4 j hj
     ·rw [k5 j (by simp [hj]),← hval j hj]
theorem agree (O : OrdOk n ops A π) {L : Nat → Bool} {done rest : List Nat} {val : Nat → AV} {σ : AS} (h : Stage P G n ops A π Q a0 L done rest val σ) {d1 d2 : List Nat} {i : Nat} {o : Oper} (hs : π = d1 ++ i :: d2) (ho : ops[i]? = some o)
  (hLi : L i = false) (hready : ∀ e ∈ o.after.toList,bindsAny e = true → L e.on = true) (hd : ∃ q,done = d1 ++ q) {t : Nat} (ht : t ∈ slotsOf ops o) :
  afr ops val (done.filter L) a0 t = afr ops val d1 a0 t:=by
 obtain ⟨q,hq⟩:=hd
 have hnd:=O.nodup
 -- none of those that are not ahead of it writes the slot
 have hin : ∀ k,ahead A k i = true → L k = true:=fun k hk=>ahead_in O h.closed d1.length d1 i d2 k o rfl hs ho hready hk
 have hik : ∀ k,L k = true → ahead A i k = false:=fun k hk=>by
  cases hq : ahead A i k with
  | false=>rfl
  | true =>
   have hkd:=h.sub k hk
   have hkl : k < ops.size:=O.lt k (by rw [h.split]; simp [hkd])
   obtain ⟨x,y,hxy⟩:=split_of_mem O hkl
   have:=ahead_in O h.closed x.length x k y i _ rfl hxy (Array.getElem?_eq_getElem hkl) (fun e he hb=>h.closed k _ hk (Array.getElem?_eq_getElem hkl) e he hb) hq
   rw [hLi] at this; cases this
 have hd1 : i ∉ d1:=fun hm=>by
  rw [hs,List.nodup_append] at hnd
  exact hnd.2.2 i hm i (by simp) rfl
 rw [hq,List.filter_append,afr_append]
 rw [afr_none t (q.filter L)]
 ·refine afr_filter t L d1 a0 fun k hk hLk=>?_
  refine not_written O ho (fun e=>hd1 (e ▸ hk)) ?_ ?_ (.inl ht)
  ·cases hz : ahead A k i with
   | false=>rfl
   | true=>rw [hin k hz] at hLk; cases hLk
  ·cases hz : ahead A i k with
   | false=>rfl
   | true =>
    obtain ⟨x,y,rfl⟩:=List.append_of_mem hk
    have:=ahead_before O x.length x k (y ++ i :: d2) i rfl (by rw [hs]; simp) hz
    exact absurd (by simp [this]) hd1
 ·intro k hk
  simp only [List.mem_filter] at hk
  have hki : k ≠ i:=fun e=>by rw [e,hLi] at hk; exact absurd hk.2 (by simp)
  refine not_written O ho hki ?_ (hik k hk.2) (.inl ht)
  cases hz : ahead A k i with
  | false=>rfl
  | true =>
   have hkd1:=ahead_before O d1.length d1 i d2 k rfl hs hz
   have hkdone : k ∈ done:=h.sub k hk.2
   have hnd2 : done.Nodup:=by have:=O.nodup; rw [h.split,List.nodup_append] at this; exact this.1
   rw [hq,List.nodup_append] at hnd2
   exact absurd rfl (hnd2.2.2 k hkd1 k hk.1)
theorem filter_upd {L : Nat → Bool} {i : Nat} {l : List Nat} (h : i ∉ l) : l.filter (upd L i true) = l.filter L := by
 apply List.filter_congr
 intro k hk
 exact upd_ne _ _ (by rintro rfl; exact h hk)
theorem nodup_mid {l m : List Nat} {i : Nat} (h : (l ++ i :: m).Nodup) : i ∉ l ∧ i ∉ m := by
 rw [List.nodup_append] at h
 refine ⟨fun hm=>h.2.2 i hm i (by simp) rfl,fun hm=>?_⟩
 have:=h.2.1
 rw [List.nodup_cons] at this
 exact this.1 hm
theorem left_less (hnd : π.Nodup) {L : Nat → Bool} {i : Nat} (hi : i ∈ π) (hL : L i = false) : (π.filter fun k => !(upd L i true) k).length + 1 = (π.filter fun k => !L k).length := by
 obtain ⟨x,y,rfl⟩:=List.append_of_mem hi
 obtain ⟨h1,h2⟩:=nodup_mid hnd
 have e : ∀ l : List Nat,i ∉ l → (l.filter fun k=>!(upd L i true) k) = l.filter fun k=>!L k:=by
  intro l hl
  apply List.filter_congr
  intro k hk
  rw [upd_ne _ _ (by rintro rfl; exact hl hk)]
 rw [List.filter_append,List.filter_append,List.filter_cons_of_neg (by simp [upd_same]),List.filter_cons_of_pos (by simp [hL]),e x h1,e y h2]
 simp; omega
theorem Stage.done_all (O : OrdOk n ops A π) {L : Nat → Bool} {done rest : List Nat} {val : Nat → AV} {σ : AS} (h : Stage P G n ops A π Q a0 L done rest val σ) (hall : ∀ i ∈ π,L i = true) :
  Q .normal (afr ops val (done.filter L) a0) σ:=by
 have hr : rest = []:=by
  cases rest with
  | nil=>rfl
  | cons e r =>
   have:=h.sub e (hall e (by rw [h.split]; simp))
   have hnd:=O.nodup
   rw [h.split] at hnd
   exact absurd this (nodup_mid hnd).1
 subst hr
 obtain ⟨pl,hpl,hvc⟩:=h.vc
 simp [drawPlan] at hpl
 subst hpl
 have : done.filter L = done:=List.filter_eq_self.2 fun i hi=>hall i (by rw [h.split]; simp [hi])
 rw [this]
 exact hvc
theorem all_of_ready (O : OrdOk n ops A π) {listed : Array Bool} (hsz : listed.size = ops.size) (hr : Region.ready .any ops listed = []) : ∀ i ∈ π,listed.getD i false = true := by
 have key : ∀ (m : Nat) (d1 d2 : List Nat),d1.length = m → π = d1 ++ d2 → ∀ k ∈ d1,listed.getD k false = true:=by
  intro m
  induction m with
  | zero=>intro d1 d2 hm _ k hk; rw [List.length_eq_zero_iff.1 hm] at hk; simp at hk
  | succ m ih =>
   intro d1 d2 hm hs k hk
   rcases List.eq_nil_or_concat d1 with rfl | ⟨d,z,rfl⟩
   ·simp at hm
   ·have hd:=ih d (z :: d2) (by simpa using hm) (by rw [hs]; simp)
    simp only [List.concat_eq_append,List.mem_append,List.mem_singleton] at hk
    rcases hk with hk | rfl
    ·exact hd k hk
    ·cases hq : listed.getD k false with
     | true=>rfl
     | false =>
      have hlt : k < ops.size:=O.lt k (by rw [hs]; simp)
      have : k ∈ Region.ready .any ops listed:=by
       rw [mem_ready]
       refine ⟨?_,ops[k],Array.getElem?_eq_getElem hlt,fun e he hb=>?_⟩
       ·have hk' : k < listed.size:=by omega
        simp only [Array.getD,hk'] at hq ⊢
        exact hq
       ·exact hd _ (O.edges d k d2 _ e (by rw [hs]; simp) (Array.getElem?_eq_getElem hlt) (by simpa using he) hb)
      rw [hr] at this; simp at this
 exact key π.length π [] rfl (by simp)
end
end Go.Abs
namespace Go.Abs
open Go
section
variable {P : Program} {G : Env} {n : Nat} {ops : Array Oper} {A : Array Nat} {π : List Nat} {Q : AQ} {a0 : Nat → AV} {D : List Deferred} {M0 : Mp} {F0 : Nat → FSt} {w0 : World}
theorem operands_VR (O : OrdOk n ops A π) {L : Nat → Bool} {done rest : List Nat} {val : Nat → AV} {σ : AS} (h : Stage P G n ops A π Q a0 L done rest val σ) {d1 d2 : List Nat} {i : Nat} {o : Oper} (hs : π = d1 ++ i :: d2) (ho : ops[i]? = some o)
  (hLi : L i = false) (hready : ∀ e ∈ o.after.toList,bindsAny e = true → L e.on = true) (hd : ∃ q,done = d1 ++ q) {M : Mp} {w : World} {ac : Act} (g : GOk P G M σ.F w) (f : Fr M σ.F w (afr ops val (done.filter L) a0) ac n) :
  (∀ x ∈ o.op.operands,VR M σ.F w (ev G (afr ops val d1 a0) x) (ac.eval x)) ∧ ∀ gd,guardOf ops o = some gd → ∀ d want,gd = some (d,want) → VR M σ.F w (afr ops val d1 a0 d) (ac.tmps.getD d undef):=by
 refine ⟨fun x hx=>?_,fun gd hg d want hgd=>?_⟩
 ·rw [← ev_congr (a:=afr ops val (done.filter L) a0) fun t ht=>agree O h hs ho hLi hready hd (operand_slot hx ht)]
  exact ev_VR g f x
 ·rw [← agree O h hs ho hLi hready hd (guard_slot hg hgd)]
  exact f.val d
theorem QEv.again {o : Oper} {a : Nat → AV} {σ σ' : AS} {v : AV} (h : QEv P G o a σ v) (hl : ∀ t x,o.op = .load t x → aload P t (ev G a x) σ' fun u => u = v) : QEv P G o a σ' v := by
 rcases h with h | ⟨t,x,ho,_⟩
 ·exact .inl h
 ·exact .inr ⟨t,x,ho,hl t x ho⟩
theorem again_mem {e : Nat} {a : Nat → AV} {σ : AS} : ∀ (l : List Nat),aagain P G a σ (againOf ops A e l) → ∀ j ∈ l,∀ (o : Oper) t x d g,ops[j]? = some o → o.op = .load t x → o.dst = some d → guardOf ops o = some g → ahead A j e = false →
  acond a g (aload P t (ev G a x) σ fun v=>v = a d) True:=by
 intro l
 induction l with
 | nil=>intro _ j hj; simp at hj
 | cons k r ih =>
  intro h j hj o t x d g ho hop hd hg hah
  rcases List.mem_cons.1 hj with rfl | hj
  ·simp only [againOf,ho,hop,hd,hg,hah] at h
   exact h.1
  ·refine ih ?_ j hj o t x d g ho hop hd hg hah
   simp only [againOf] at h
   split at h
   ·split at h
    ·split at h
     ·exact h
     ·exact h.2
    ·exact h
   ·exact h
theorem draw_step {ro : Option Nat} (O : OrdOk n ops A π) : ∀ (fuel : Nat) (listed : Array Bool) (done rest : List Nat) (val : Nat → AV) (σ : AS) (M : Mp) (w : World) (ac : Act),
  listed.size = ops.size → (π.filter fun k=>!(listed.getD k false)).length = fuel → Stage P G n ops A π Q a0 (fun k=>listed.getD k false) done rest val σ → headE ops rest →
  Sim M σ w → GOk P G M σ.F w → Ext M0 F0 w0 M σ.F w → Fr M σ.F w (afr ops val (done.filter fun k=>listed.getD k false) a0) ac n → ac.defers = D →
  wpAnyIn (wideAt ro) 0 P .any ops (QC P G n D M0 F0 w0 Q) fuel listed ac w:=by
 intro fuel
 induction fuel with
 | zero =>
  intro listed done rest val σ M w ac hsz hfu hst hhd S g E f hD
  have hall : ∀ i ∈ π,listed.getD i false = true:=by
   intro i hi
   have:=List.length_eq_zero_iff.1 hfu
   rw [List.filter_eq_nil_iff] at this
   simpa using this i hi
  refine ⟨?_,_,_,σ,M,hst.done_all O hall,trivial,S,g,E,f,hD⟩
  rw [List.eq_nil_iff_forall_not_mem]
  intro i hi
  rw [mem_ready] at hi
  obtain ⟨h1,o,ho,_⟩:=hi
  have hlt:=(Array.getElem?_eq_some_iff.1 ho).1
  have h2:=hall i (O.all i hlt)
  have hlt' : i < listed.size:=by omega
  rw [Array.getD_eq_getD_getElem?,Array.getElem?_eq_getElem hlt'] at h1 h2
  simp only [Option.getD_some] at h1 h2
  rw [h2] at h1; cases h1
 | succ fuel ih =>
  intro listed done rest val σ M w ac hsz hfu hst hhd S g E f hD
  refine ⟨fun hr=>⟨_,_,σ,M,hst.done_all O (all_of_ready O hsz hr),trivial,S,g,E,f,hD⟩,fun i hi=>?_⟩
  rw [mem_ready] at hi
  obtain ⟨h1,o,ho,hready0⟩:=hi
  have hready : ∀ e ∈ o.after.toList,bindsAny e = true → listed.getD e.on false = true:=fun e he hb=>hready0 e (by simpa using he) hb
  have hlt:=(Array.getElem?_eq_some_iff.1 ho).1
  have hlt' : i < listed.size:=by omega
  have hLi : listed.getD i false = false:=by
   simp only [Array.getD,hlt'] at h1 ⊢
   exact h1
  have hLset : (fun k=>(listed.setIfInBounds i true).getD k false) = upd (fun k=>listed.getD k false) i true:=by
   funext k
   by_cases hk : k = i
   ·subst hk; rw [upd_same]; simp [Array.getD,hlt']
   ·rw [upd_ne _ _ hk]
    simp only [Array.getD_eq_getD_getElem?]
    rw [Array.getElem?_setIfInBounds_ne (Ne.symm hk)]
  have hsz' : (listed.setIfInBounds i true).size = ops.size:=by simpa using hsz
  have hfu' : (π.filter fun k=>!((listed.setIfInBounds i true).getD k false)).length = fuel:=by
   have:=left_less O.nodup (L:=fun k=>listed.getD k false) (O.all i hlt) hLi
   have e2 : (fun k=>!((listed.setIfInBounds i true).getD k false)) = fun k=>!(upd (fun k=>listed.getD k false) i true) k:=by funext k; rw [← hLset]
   rw [e2]
   omega
  have hclosed' : ∀ j (oj : Oper),upd (fun k=>listed.getD k false) i true j = true → ops[j]? = some oj → ∀ e ∈ oj.after.toList,bindsAny e = true → upd (fun k=>listed.getD k false) i true e.on = true:=by
   intro j oj hj hoj e he hb
   have key : listed.getD e.on false = true:=by
    by_cases hji : j = i
    ·subst hji; rw [ho] at hoj; cases hoj; exact hready e he hb
    ·rw [upd_ne _ _ hji] at hj; exact hst.closed j oj hj hoj e he hb
   by_cases hei : e.on = i
   ·rw [hei,upd_same]
   ·rw [upd_ne _ _ hei]; exact key
  have hnd : (done ++ rest).Nodup:=by rw [← hst.split]; exact O.nodup
  unfold wpOpIn
  rw [ho]
  simp only
  by_cases hid : i ∈ done
  · -- a quiet operation that has been looked at
   obtain ⟨d1,d2,hdone⟩:=List.append_of_mem hid
   have hs : π = d1 ++ i :: (d2 ++ rest):=by rw [hst.split,hdone]; simp
   obtain ⟨hops,hgs⟩:=operands_VR O hst hs ho hLi hready ⟨i :: d2,hdone⟩ g f
   obtain ⟨gd,hgd,hcase⟩:=hst.pend d1 i d2 o hdone ho hLi
   obtain ⟨hn1,hn2⟩:=nodup_mid (l:=d1) (m:=d2) (by rw [← hdone]; exact (List.nodup_append.1 hnd).1)
   -- the frame behind it
   have hfr : ∀ t,afr ops val (done.filter (upd (fun k=>listed.getD k false) i true)) a0 t = put (afr ops val (done.filter fun k=>listed.getD k false) a0) o.dst (val i) t:=by
    intro t
    have e1 : done.filter (upd (fun k=>listed.getD k false) i true) = d1.filter (fun k=>listed.getD k false) ++ i :: d2.filter fun k=>listed.getD k false:=by
     rw [hdone,List.filter_append,List.filter_cons_of_pos (by rw [upd_same]),filter_upd hn1,filter_upd hn2]
    have e2 : done.filter (fun k=>listed.getD k false) = d1.filter (fun k=>listed.getD k false) ++ d2.filter fun k=>listed.getD k false:=by
     rw [hdone,List.filter_append,List.filter_cons_of_neg (by rw [hLi]; simp)]
    rw [e1,e2,afr_append,afr_append]
    simp only [afr,dstAt_some ho]
    by_cases ht : o.dst = some t
    ·rw [afr_none,ht,put_eq,put_eq]
     intro k hk
     simp only [List.mem_filter] at hk
     refine not_written O ho (fun e=>hn2 (e ▸ hk.1)) ?_ ?_ (.inr ht)
     ·cases hz : ahead A k i with
      | false=>rfl
      | true =>
       have hk1:=ahead_before O d1.length d1 i (d2 ++ rest) k rfl hs hz
       have:=(List.nodup_append.1 hnd).1
       rw [hdone,List.nodup_append] at this
       exact absurd rfl (this.2.2 k hk1 k (by simp [hk.1]))
     ·cases hz : ahead A i k with
      | false=>rfl
      | true =>
       obtain ⟨x,y,hxy⟩:=split_of_mem O (O.lt k (by rw [hst.split,hdone]; simp [hk.1]))
       have hkl : k < ops.size:=O.lt k (by rw [hst.split,hdone]; simp [hk.1])
       have:=ahead_in O hst.closed x.length x k y i _ rfl hxy (Array.getElem?_eq_getElem hkl) (fun e he hb=>hst.closed k _ hk.2 (Array.getElem?_eq_getElem hkl) e he hb) hz
       rw [hLi] at this; cases this
    ·rw [put_ne ht]
     exact afr_congr _ _ _ t (put_ne ht)
   have hstage : Stage P G n ops A π Q a0 (fun k=>(listed.setIfInBounds i true).getD k false) done rest val σ:=by
    rw [hLset]
    refine ⟨hst.split,hclosed',fun j hj=>?_,fun j hj oj hoj hEj=>?_,fun e1 j e2 oj hs' hoj hLj=>?_,hst.vc⟩
    ·by_cases hji : j = i
     ·rw [hji]; exact hid
     ·rw [upd_ne _ _ hji] at hj; exact hst.sub j hj
    ·by_cases hji : j = i
     ·rw [hji,upd_same]
     ·rw [upd_ne _ _ hji]; exact hst.eL j hj oj hoj hEj
    ·by_cases hji : j = i
     ·rw [hji,upd_same] at hLj; cases hLj
     ·rw [upd_ne _ _ hji] at hLj; exact hst.pend e1 j e2 oj hs' hoj hLj
   have hgo : ∀ (v' : Value) (M' : Mp) (w' : World),VR M' σ.F w' (val i) v' → Sim M' σ w' → Ext M σ.F w M' σ.F w' → wpAnyIn (wideAt ro) 0 P .any ops (QC P G n D M0 F0 w0 Q) fuel (listed.setIfInBounds i true) (ac.put o.dst v') w':=by
    intro v' M' w' hv S' E'
    refine ih _ done rest val σ M' w' _ hsz' hfu' hstage hhd S' (g.mono E') (E.trans E') ?_ (by rw [put_defers,hD])
    have f':=(f.mono E').put (O.dst i o ho) hv
    rw [hLset]
    exact ⟨f'.size,fun t=>by rw [hfr t]; exact f'.val t⟩
   rcases hcase with ⟨hc,hq⟩ | ⟨hc,hv0⟩
   ·rcases wanted_core hgd (hgs gd hgd) hc with ⟨hw,_⟩ | ⟨_,hw⟩
    ·rw [if_pos hw]
     obtain ⟨v',M',w',hr,hv,E',S'⟩:=hq.run S hops
     refine ⟨fun _ _=>trivial,?_⟩
     rw [o.semAt_eq _ _ hq.nodefer,hr,Oper.uponIn_value]
     exact hgo v' M' w' hv S' E'
    ·exact hw.elim
   ·rcases wanted_core hgd (hgs gd hgd) hc with ⟨_,hw⟩ | ⟨hw,_⟩
    ·exact hw.elim
    ·rw [if_neg (by rw [hw]; simp)]
     refine ⟨fun _ _=>trivial,?_⟩
     exact hgo undef M w (by rw [hv0]; exact undef_VR ..) S (.refl ..)
  · -- the call or store that stands first
   have hirest : i ∈ rest:=by
    have:=O.all i hlt
    rw [hst.split,List.mem_append] at this
    exact this.resolve_left hid
   obtain ⟨e,r,oe,hrest,hoe,hEe⟩ : ∃ e r,∃ oe : Oper,rest = e :: r ∧ ops[e]? = some oe ∧ isE oe = true:=by
    rcases hhd with h | h
    ·rw [h] at hirest; simp at hirest
    ·exact h
   have hie : i = e:=by
    rw [hrest] at hirest
    rcases List.mem_cons.1 hirest with h | h
    ·exact h
    ·exfalso
     have hah:=O.late done e r oe i (by rw [hst.split,hrest]) hoe hEe h
     obtain ⟨x,y,hxy⟩:=split_of_mem O hlt
     have hLe:=ahead_in O hst.closed x.length x i y e o rfl hxy ho hready hah
     have:=hst.sub e hLe
     rw [hrest] at hnd
     exact (nodup_mid hnd).1 this
   subst hie
   rw [ho] at hoe; cases hoe
   subst hrest
   have hs : π = done ++ i :: r:=hst.split
   obtain ⟨hops,hgs⟩:=operands_VR O hst hs ho hLi hready ⟨[],by simp⟩ g f
   obtain ⟨pl,hpl,hvc⟩:=hst.vc
   simp only [drawPlan,ho,planOf] at hpl
   cases hg : guardOf ops o with
   | none=>simp [hg] at hpl
   | some gd =>
    cases hr : drawPlan ops A (done ++ [i]) r with
    | none=>simp [hg,hr] at hpl
    | some pr =>
     simp [hg,hr,hEe] at hpl
     subst hpl
     simp only [aops] at hvc
     -- what goes on behind it
     have hgo : ∀ (v : AV) (v' : Value) (σ' : AS) (M' : Mp) (w' : World),aops P G Q pr (put (afr ops val done a0) o.dst v) σ' → VR M' σ'.F w' v v' → Sim M' σ' w' → GOk P G M' σ'.F w' → Ext M σ.F w M' σ'.F w' →
       (∀ d1 j d2 (oj : Oper),done = d1 ++ j :: d2 → ops[j]? = some oj → listed.getD j false = false → PEnd P G ops oj (afr ops val d1 a0) σ' (val j)) →
       wpAnyIn (wideAt ro) 0 P .any ops (QC P G n D M0 F0 w0 Q) fuel (listed.setIfInBounds i true) (ac.put o.dst v') w':=by
      intro v v' σ' M' w' hvc' hv S' g' E' hpend
      have hval : ∀ j ∈ done,val j = upd val i v j:=fun j hj=>(upd_ne _ _ (by rintro rfl; exact hid hj)).symm
      have hst1 : Stage P G n ops A π Q a0 (upd (fun k=>listed.getD k false) i true) (done ++ [i]) r (upd val i v) σ':=by
       refine ⟨by rw [hs]; simp,hclosed',fun j hj=>?_,fun j hj oj hoj hEj=>?_,fun e1 j e2 oj hs' hoj hLj=>?_,pr,hr,?_⟩
       ·by_cases hji : j = i
        ·rw [hji]; simp
        ·rw [upd_ne _ _ hji] at hj; simp [hst.sub j hj]
       ·rcases List.mem_append.1 hj with hj | hj
        ·by_cases hji : j = i
         ·rw [hji,upd_same]
         ·rw [upd_ne _ _ hji]; exact hst.eL j hj oj hoj hEj
        ·simp at hj; rw [hj,upd_same]
       ·rcases List.eq_nil_or_concat e2 with rfl | ⟨e2',z,rfl⟩
        ·obtain ⟨_,h2⟩:=List.append_inj' hs' (by simp)
         simp at h2
         rw [← h2,upd_same] at hLj; cases hLj
        ·have q1 : done ++ [i] = (e1 ++ j :: e2') ++ [z]:=by rw [hs']; simp
         obtain ⟨q2,_⟩:=List.append_inj' q1 (by simp)
         have hj1 : ∀ k ∈ e1,val k = upd val i v k:=fun k hk=>hval k (by rw [q2]; simp [hk])
         rw [← afr_val e1 a0 hj1,← hval j (by rw [q2]; simp)]
         have hji : j ≠ i:=by rintro rfl; exact hid (by rw [q2]; simp)
         rw [upd_ne _ _ hji] at hLj
         exact hpend e1 j e2' oj q2 hoj hLj
       ·rw [afr_append,← afr_val done a0 hval]
        simp only [afr,upd_same,dstAt_some ho]
        exact hvc'
      obtain ⟨done',rest',val',k1,k2,⟨q,k3,k4⟩,k5⟩:=Stage.norm O r (done ++ [i]) (upd val i v) σ' hst1
      have hstage : Stage P G n ops A π Q a0 (fun k=>(listed.setIfInBounds i true).getD k false) done' rest' val' σ':=by rw [hLset]; exact k1
      refine ih _ done' rest' val' σ' M' w' _ hsz' hfu' hstage k2 S' g' (E.trans E') ?_ (by rw [put_defers,hD])
      have f':=(f.mono E').put (O.dst i o ho) hv
      rw [hLset]
      have e1 : done'.filter (upd (fun k=>listed.getD k false) i true) = done.filter (fun k=>listed.getD k false) ++ [i]:=by
       rw [k3,List.filter_append,List.filter_append,filter_upd hid,List.filter_cons_of_pos (by rw [upd_same])]
       rw [show q.filter (upd (fun k=>listed.getD k false) i true) = [] from by
        rw [List.filter_eq_nil_iff]; intro j hj; rw [k4 j hj]; simp]
       simp
      have e2 : ∀ j ∈ done.filter (fun k=>listed.getD k false) ++ [i],val' j = upd val i v j:=by
       intro j hj
       refine k5 j ?_
       rcases List.mem_append.1 hj with hj | hj
       ·exact List.mem_append.2 (.inl ((List.mem_filter.1 hj).1))
       ·exact List.mem_append.2 (.inr hj)
      refine ⟨f'.size,fun t=>?_⟩
      rw [e1,afr_val _ a0 e2,afr_append]
      simp only [afr,upd_same,dstAt_some ho]
      rw [← afr_val (done.filter fun k=>listed.getD k false) a0 (fun j hj=>hval j ((List.mem_filter.1 hj).1))]
      exact f'.val t
     rcases wanted_core hg (hgs gd hg) hvc with ⟨hw,hop⟩ | ⟨hw,hno⟩
     ·rw [if_pos hw]
      refine aop1_core (O.nx i o ho) hop S g E hops f.size hD fun v v' σ' M' w' hK hv S' g' E'=>?_
      refine hgo v v' σ' M' w' hK.2 hv S' g' E' fun d1 j d2 oj hdn hoj hLj=>?_
      obtain ⟨gj,hgj,hcase⟩:=hst.pend d1 j d2 oj hdn hoj hLj
      refine ⟨gj,hgj,?_⟩
      rcases hcase with ⟨hc,hq⟩ | hc
      ·refine .inl ⟨hc,hq.again fun t x hox=>?_⟩
       have hah : ahead A j i = false:=by
        cases hz : ahead A j i with
        | false=>rfl
        | true =>
         have:=ahead_in O hst.closed done.length done i r j o rfl hs ho hready hz
         rw [hLj] at this; cases this
       obtain ⟨d,hdj,hkeep⟩:=O.keep d1 j d2 i r oj o t x (by rw [hs,hdn]; simp) hoj hox ho hEe hah
       have hmem:=again_mem done hK.1 j (by rw [hdn]; simp) oj t x d gj hoj hox hdj hgj hah
       -- the slots are as they were
       have hslot : ∀ s ∈ slotsOf ops oj,put (afr ops val done a0) o.dst v s = afr ops val d1 a0 s:=by
        intro s hs1
        rw [put_ne (by have:=(hkeep i (by simp)).1 s hs1; rwa [dstAt_some ho] at this)]
        rw [hdn,afr_append]
        exact afr_none s (j :: d2) _ fun k hk=>(hkeep k (by rcases List.mem_cons.1 hk with h | h <;> simp [h])).1 s hs1
       have hji : j ≠ i:=by rintro rfl; exact hid (by rw [hdn]; simp)
       have hdst : put (afr ops val done a0) o.dst v d = val j:=by
        rw [put_ne (by have:=(hkeep i (by simp)).2 (Ne.symm hji); rwa [dstAt_some ho] at this)]
        rw [hdn,afr_append]
        simp only [afr,dstAt_some hoj,hdj]
        rw [afr_none d d2 _ fun k hk=>?_,put_eq]
        refine (hkeep k (by simp [hk])).2 ?_
        rintro rfl
        have hn:=(List.nodup_append.1 hnd).1
        rw [hdn] at hn
        exact (nodup_mid hn).2 hk
       have hcc : acond (put (afr ops val done a0) o.dst v) gj True False:=by
        rw [acond_congr (b:=afr ops val d1 a0) fun d' w' hgw=>hslot d' (guard_slot hgj hgw)]
        exact hc
       have h2:=acond_yes hcc hmem
       rw [hdst,ev_congr (b:=afr ops val d1 a0) fun t' ht'=>hslot t' (operand_slot (by rw [hox]; simp [Op.operands]) ht')] at h2
       exact h2
      ·exact .inr hc
     ·rw [if_neg (by rw [hw]; simp)]
      refine ⟨fun _ _=>trivial,?_⟩
      exact hgo (.tuple []) undef σ M w hno (undef_VR ..) S g (.refl ..) (fun d1 j d2 oj hdn hoj hLj=>hst.pend d1 j d2 oj hdn hoj hLj)
end
end Go.Abs
set_option linter.unusedSimpArgs false
set_option linter.unusedVariables false
namespace Go.Abs
open Go
def edgesB (ops : Array Oper) : List Nat → List Nat → Bool
  | _,[]=>true
  | done,i :: r =>
    (match ops[i]? with
     | some o=>o.after.toList.all fun e=>!(bindsAny e) || done.elem e.on
     | none=>true) && edgesB ops (done ++ [i]) r
theorem edgesB_spec {ops : Array Oper} : ∀ (rest done : List Nat),edgesB ops done rest = true → ∀ d1 i d2 (o : Oper) (e : Edge),rest = d1 ++ i :: d2 → ops[i]? = some o → e ∈ o.after.toList → bindsAny e = true → e.on ∈ done ++ d1
 | [],_,_,d1,i,d2,_,_,hs,_,_,_=>by simp at hs
 | x :: r,done,h,d1,i,d2,o,e,hs,ho,he,hb=>by
  simp only [edgesB,Bool.and_eq_true] at h
  cases d1 with
  | nil =>
   simp at hs
   obtain ⟨rfl,rfl⟩:=hs
   rw [ho] at h
   have:=List.all_eq_true.1 h.1 e he
   rw [hb] at this
   simp at this
   simpa using this
  | cons y d1 =>
   simp at hs
   obtain ⟨rfl,hs⟩:=hs
   have:=edgesB_spec r (done ++ [x]) h.2 d1 i d2 o e hs ho he hb
   simpa using this
def lateB (ops : Array Oper) (A : Array Nat) : List Nat → Bool
  | []=>true
  | e :: r =>
    (match ops[e]? with
     | some o=>!(isE o) || r.all fun i=>ahead A e i
     | none=>true) && lateB ops A r
theorem lateB_spec {ops : Array Oper} {A : Array Nat} : ∀ (l : List Nat),lateB ops A l = true → ∀ d1 e d2 (oe : Oper) i,l = d1 ++ e :: d2 → ops[e]? = some oe → isE oe = true → i ∈ d2 → ahead A e i = true
 | [],_,d1,e,d2,_,_,hs,_,_,_=>by simp at hs
 | x :: r,h,d1,e,d2,oe,i,hs,ho,hE,hi=>by
  simp only [lateB,Bool.and_eq_true] at h
  cases d1 with
  | nil =>
   simp at hs
   obtain ⟨rfl,rfl⟩:=hs
   have h1:=h.1
   rw [ho] at h1
   simp only [hE,Bool.not_true,Bool.false_or] at h1
   exact List.all_eq_true.1 h1 i hi
  | cons y d1 =>
   simp at hs
   obtain ⟨rfl,hs⟩:=hs
   exact lateB_spec r h.2 d1 e d2 oe i hs ho hE hi
def keepJ (ops : Array Oper) (A : Array Nat) (e : Nat) : List Nat → Bool
  | []=>true
  | j :: r =>
    (match ops[j]? with
     | some o=>!(isLoad o.op) || ahead A j e ||
        (match o.dst with
         | some d=>(j :: (r ++ [e])).all fun k=>(match dstAt ops k with | some s=>!((slotsOf ops o).elem s) && (k == j || !(s == d)) | none=>true)
         | none=>false)
     | none=>true) && keepJ ops A e r
theorem keepJ_spec {ops : Array Oper} {A : Array Nat} {e : Nat} : ∀ (l : List Nat),keepJ ops A e l = true → ∀ d1 j d2 (oj : Oper) t x,l = d1 ++ j :: d2 → ops[j]? = some oj → oj.op = .load t x → ahead A j e = false →
  ∃ d,oj.dst = some d ∧ ∀ k ∈ j :: (d2 ++ [e]),(∀ s ∈ slotsOf ops oj,dstAt ops k ≠ some s) ∧ (k ≠ j → dstAt ops k ≠ some d)
 | [],_,d1,j,d2,_,_,_,hs,_,_,_=>by simp at hs
 | y :: r,h,d1,j,d2,oj,t,x,hs,ho,hop,hah=>by
  simp only [keepJ,Bool.and_eq_true] at h
  cases d1 with
  | nil =>
   simp at hs
   obtain ⟨rfl,rfl⟩:=hs
   have h1:=h.1
   rw [ho] at h1
   simp only [hop,isLoad,hah,Bool.not_true,Bool.false_or] at h1
   cases hd : oj.dst with
   | none=>rw [hd] at h1; cases h1
   | some d =>
    rw [hd] at h1
    refine ⟨d,rfl,fun k hk=>?_⟩
    have:=List.all_eq_true.1 h1 k hk
    cases hdk : dstAt ops k with
    | none=>exact ⟨(fun _ _ h=>by cases h),(fun _ h=>by cases h)⟩
    | some s =>
     rw [hdk] at this
     simp only [Bool.and_eq_true,Bool.not_eq_true',Bool.or_eq_true,beq_iff_eq] at this
     refine ⟨fun s' hs' h=>?_,fun hkj h=>?_⟩
     ·cases h
      rw [List.elem_eq_contains] at this
      have:=this.1
      simp [hs'] at this
     ·cases h
      rcases this.2 with h | h
      ·exact hkj h
      ·simp at h
  | cons z d1 =>
   simp at hs
   obtain ⟨rfl,hs⟩:=hs
   exact keepJ_spec r h.2 d1 j d2 oj t x hs ho hop hah
def keepB (ops : Array Oper) (A : Array Nat) : List Nat → List Nat → Bool
  | _,[]=>true
  | done,e :: r =>
    (match ops[e]? with
     | some o=>!(isE o) || keepJ ops A e done
     | none=>true) && keepB ops A (done ++ [e]) r
theorem keepB_spec {ops : Array Oper} {A : Array Nat} : ∀ (rest done : List Nat),keepB ops A done rest = true → ∀ d1 e d3 (oe : Oper),rest = d1 ++ e :: d3 → ops[e]? = some oe → isE oe = true → keepJ ops A e (done ++ d1) = true
 | [],_,_,d1,e,d3,_,hs,_,_=>by simp at hs
 | x :: r,done,h,d1,e,d3,oe,hs,ho,hE=>by
  simp only [keepB,Bool.and_eq_true] at h
  cases d1 with
  | nil =>
   simp at hs
   obtain ⟨rfl,rfl⟩:=hs
   have h1:=h.1
   rw [ho] at h1
   simpa [hE] using h1
  | cons y d1 =>
   simp at hs
   obtain ⟨rfl,hs⟩:=hs
   have:=keepB_spec r (done ++ [x]) h.2 d1 e d3 oe hs ho hE
   simpa using this
def slotsB (ops : Array Oper) (A : Array Nat) : Bool :=
 (List.range ops.size).all fun i =>
  match dstAt ops i with
  | some t=>(List.range ops.size).all fun j=>(i == j) || (match ops[j]? with | some oj=>!((slotsOf ops oj).elem t || oj.dst == some t) || ahead A i j || ahead A j i | none=>true)
  | none=>true
def nodupB : List Nat → Bool
 | []=>true
 | x :: r=>!(r.elem x) && nodupB r
theorem nodupB_spec : ∀ (l : List Nat),nodupB l = true → l.Nodup
 | [],_=>List.nodup_nil
 | x :: r,h=>by
  simp only [nodupB,Bool.and_eq_true,Bool.not_eq_true'] at h
  rw [List.nodup_cons]
  refine ⟨fun hm=>?_,nodupB_spec r h.2⟩
  rw [List.elem_eq_contains] at h
  simp [hm] at h
def ordB (n : Nat) (ops : Array Oper) (A : Array Nat) (π : List Nat) : Bool :=
 maskOk ops A && nodupB π && (List.range ops.size).all (fun i=>π.elem i) && π.all (fun i=>decide (i < ops.size)) && edgesB ops [] π && slotsB ops A && lateB ops A π && keepB ops A [] π &&
 (ops.toList.all fun o=>dstIn n o.dst && (nextOf o.op).isNone) && Region.noSelect ops
theorem ordB_spec {n : Nat} {ops : Array Oper} {A : Array Nat} {π : List Nat} (h : ordB n ops A π = true) : OrdOk n ops A π := by
 simp only [ordB,Bool.and_eq_true] at h
 obtain ⟨⟨⟨⟨⟨⟨⟨⟨⟨h1,h2⟩,h3⟩,h4⟩,h5⟩,h6⟩,h7⟩,h8⟩,h9⟩,h10⟩:=h
 refine ⟨h1,nodupB_spec π h2,fun i hi=>?_,fun i hi=>?_,fun d1 i d2 o e hs ho he hb=>?_,fun i j oi oj t hne hoi hoj hd ht=>?_,lateB_spec π h7,fun i o ho=>?_,fun i o ho=>?_,fun d1 j d2 e d3 oj oe t x hs hoj hop hoe hE hah=>?_,h10⟩
 ·have:=List.all_eq_true.1 h3 i (by simpa using hi)
  simpa using this
 ·have:=List.all_eq_true.1 h4 i hi
  simpa using this
 ·have:=edgesB_spec π [] h5 d1 i d2 o e hs ho he hb
  simpa using this
 ·have hi : i < ops.size:=(Array.getElem?_eq_some_iff.1 hoi).1
  have hj : j < ops.size:=(Array.getElem?_eq_some_iff.1 hoj).1
  have:=List.all_eq_true.1 h6 i (by simpa using hi)
  rw [show dstAt ops i = some t by simp [dstAt,hoi,hd]] at this
  have:=List.all_eq_true.1 this j (by simpa using hj)
  rw [hoj] at this
  simp only [Bool.or_eq_true,Bool.not_eq_true',beq_iff_eq] at this
  rcases this with h | h
  ·exact absurd h hne
  ·rcases h with (h | h) | h
   ·exfalso
    rw [Bool.or_eq_false_iff] at h
    rcases ht with ht | ht
    ·rw [List.elem_eq_contains] at h
     simp [ht] at h
    ·rw [ht] at h; simp at h
   ·exact .inl h
   ·exact .inr h
 ·have:=List.all_eq_true.1 h9 o (by
   obtain ⟨hi,he⟩:=Array.getElem?_eq_some_iff.1 ho
   rw [← he]; simp)
  exact (Bool.and_eq_true _ _ ▸ this).1
 ·have:=List.all_eq_true.1 h9 o (by
   obtain ⟨hi,he⟩:=Array.getElem?_eq_some_iff.1 ho
   rw [← he]; simp)
  exact Option.isNone_iff_eq_none.1 (Bool.and_eq_true _ _ ▸ this).2
 ·have:=keepB_spec π [] h8 (d1 ++ j :: d2) e d3 oe (by rw [hs]; simp) hoe hE
  exact keepJ_spec _ (by simpa using this) d1 j d2 oj t x rfl hoj hop hah
def mkOrder (ops : Array Oper) (A : Array Nat) : List Nat :=
 let es0:=(List.range ops.size).filter fun i=>match ops[i]? with | some o=>isE o | none=>false
 let qs:=(List.range ops.size).filter fun i=>match ops[i]? with | some o=>!(isE o) | none=>false
 let lev (i : Nat) : Nat:=(es0.filter fun e=>ahead A e i).length
 let es:=(List.range es0.length).flatMap fun k=>es0.filter fun e=>lev e == k
 (List.range (es.length + 1)).flatMap fun k=>(qs.filter fun i=>lev i == k) ++ (es[k]?).toList
def maskPass (ops : Array Oper) (A : Array Nat) : Array Nat := ((List.range ops.size).map fun i => match ops[i]? with
 | some o=>o.after.toList.foldl (fun s e=>if bindsAny e then s ||| 2 ^ e.on ||| A.getD e.on 0 else s) 0
 | none=>0).toArray
def masks (ops : Array Oper) : Array Nat := if maskOk ops (Region.before ops) then Region.before ops else maskPass ops (maskPass ops (maskPass ops (Region.before ops)))
def mkPlan (n : Nat) (ops : Array Oper) (draw : Bool) : Option (List PO) :=
 if draw then
  let A:=masks ops
  let π:=mkOrder ops A
  if ordB n ops A π then drawPlan ops A [] π else none
 else plainPlan n ops ops.toList
theorem drawPlan_dst {ops : Array Oper} {A : Array Nat} : ∀ (π done : List Nat) (pl : List PO),drawPlan ops A done π = some pl → ∀ i ∈ π,∀ o : Oper,ops[i]? = some o → ∀ t,o.dst = some t → (pl.any fun o => o.dst == some t) = true
 | [],_,_,_,i,hi,_,_,_,_=>by cases hi
 | x :: π,done,pl,hp,i,hi,o,ho,t,ht=>by
  simp only [drawPlan] at hp
  split at hp
  ·rename_i ox hox
   simp only [planOf,Option.bind_eq_some_iff,Option.map_eq_some_iff] at hp
   obtain ⟨p,⟨gd,hgd,rfl⟩,pr,hpr,rfl⟩:=hp
   rcases List.mem_cons.1 hi with rfl | hi
   ·rw [ho] at hox; cases hox
    simp [ht]
   ·have:=drawPlan_dst π _ pr hpr i hi o ho t ht
    simp only [List.any_cons,this,Bool.or_true]
  ·cases hp
theorem region_draw_any {P : Program} {G : Env} {n : Nat} {ops : Array Oper} (hm : P.follows .mixedOrders = true) {A : Array Nat} {π : List Nat} (O : OrdOk n ops A π) {pl : List PO} (hp : drawPlan ops A [] π = some pl) {Q : AQ} {a σ}
  (h : aops P G (withPf (hide pl a) Q) pl a σ) : ∀ {ro : Option Nat} {D : List Deferred} {M : Mp} {w : World} {ac : Act},Sim M σ w → GOk P G M σ.F w → Fr M σ.F w a ac n → ac.defers = D →
   wpAnyIn (wideAt ro) 0 P .any ops (QKept (fun t=>pl.any fun o=>o.dst == some t) ac (QC P G n D M σ.F w (withPf (hide pl a) Q))) ops.size (Array.replicate ops.size false) ac { w with drawn:=w.drawn + 1 }:=by
 intro ro D M w ac S g f hD
 have h0 : ∀ k,(Array.replicate ops.size false).getD k false = false:=by
  intro k; rw [Array.getD_eq_getD_getElem?,Array.getElem?_replicate]; split <;> rfl
 have hst : Stage P G n ops A π (withPf (hide pl a) Q) a (fun k=>(Array.replicate ops.size false).getD k false) [] π (fun _=>.undef) σ:=by
  refine ⟨rfl,fun i o hi=>?_,fun i hi=>?_,fun i hi=>by simp at hi,fun d1 i d2 o hs=>by simp at hs,pl,hp,h⟩
  ·rw [h0] at hi; cases hi
  ·simp only [h0] at hi; cases hi
 obtain ⟨done,rest,val,k1,k2,⟨q,k3,k4⟩,k5⟩:=Stage.norm O π [] _ σ hst
 have hE : Ext M σ.F w M σ.F { w with drawn:=w.drawn + 1 }:=.of_heap rfl ⟨rfl,rfl,rfl⟩
 refine wpAnyIn_kept (W:=fun t=>pl.any fun o=>o.dst == some t) (a0:=ac) (fun i o ho t ht=>drawPlan_dst _ _ _ hp i (O.all i (Array.getElem?_eq_some_iff.1 ho).1) o ho t ht) _ _ _ _ (KeptB.refl _ _) (draw_step O ops.size _ done rest val σ M { w with drawn:=w.drawn + 1 } ac (by simp) ?_ k1 k2 (S.of_heap rfl ⟨rfl,rfl,rfl⟩) (g.mono hE) (M0:=M) (F0:=σ.F) (w0:=w) hE ?_ hD)
 ·have : (π.filter fun k=>!((Array.replicate ops.size false).getD k false)) = π:=List.filter_eq_self.2 fun i _=>by rw [h0]; rfl
  rw [this]
  have hp1 : π.Perm (List.range ops.size):=by
   refine (List.perm_ext_iff_of_nodup O.nodup List.nodup_range).2 fun i=>⟨fun hi=>by simpa using O.lt i hi,fun hi=>O.all i (by simpa using hi)⟩
  simpa using hp1.length_eq
 ·have : (done.filter fun k=>(Array.replicate ops.size false).getD k false) = []:=List.filter_eq_nil_iff.2 fun i _=>by rw [h0]; simp
  rw [this]
  exact ⟨f.size,fun t=>(f.val t).mono hE⟩
theorem region_draw {P : Program} {G : Env} {n id : Nat} {ops : Array Oper} (hm : P.follows .mixedOrders = true) {A : Array Nat} {π : List Nat} (O : OrdOk n ops A π) {pl : List PO} (hp : drawPlan ops A [] π = some pl) {Q : AQ} {a σ}
  (h : aops P G (withPf (hide pl a) Q) pl a σ) : AWp P G n (.region id ops true) Q a σ:=by
 intro ro D M0 F0 w0 M w ac S g E f hD
 exact wpIn_mono (wpIn_region_any hm (region_draw_any hm O hp h S g f hD)) fun _ _ _ hq=>QC_pf E f hq
theorem region_sound {P : Program} {G : Env} {n id : Nat} {ops : Array Oper} {draw : Bool} (hm : P.follows .mixedOrders = true) {pl : List PO} (hp : mkPlan n ops draw = some pl) {Q : AQ} {a σ} (h : aops P G (withPf (hide pl a) Q) pl a σ) :
  AWp P G n (.region id ops draw) Q a σ:=by
 unfold mkPlan at hp
 cases draw with
 | true =>
  simp only [if_true] at hp
  split at hp
  ·exact region_draw hm (ordB_spec ‹_›) hp h
  ·cases hp
 | false=>exact region_plain hp h
def addEdge (ops : Array Oper) (c a : Nat) : Array Oper := ops.modify c fun o => { o with after := o.after.push ⟨a,.chain⟩ }
theorem addEdge_size (ops c a) : (addEdge ops c a).size = ops.size := by simp [addEdge]
theorem addEdge_get (ops : Array Oper) (c a j : Nat) : (addEdge ops c a)[j]? = (ops[j]?).map fun o => if j = c then { o with after := o.after.push ⟨a,.chain⟩ } else o := by
 unfold addEdge
 rw [Array.getElem?_modify]
 by_cases h : c = j
 ·subst h; simp
 ·rw [if_neg h]
  have : ¬ j = c:=fun e=>h e.symm
  simp [this]
def PathN (ops : Array Oper) : Nat → Array Bool → List Nat → Prop
 | 0,_,L=>L = []
 | f + 1,listed,L=>(Region.ready .any ops listed = [] ∧ L = []) ∨ ∃ i rest,L = i :: rest ∧ i ∈ Region.ready .any ops listed ∧ PathN ops f (listed.setIfInBounds i true) rest
theorem go_path {ops : Array Oper} : ∀ (fuel t : Nat) (listed : Array Bool),PathN ops fuel listed (Region.linearise.go .any ops fuel t listed [])
 | 0,t,listed=>by simp [PathN,Region.linearise.go]
 | fuel + 1,t,listed=>by
  simp only [Region.linearise.go]
  change PathN ops (fuel + 1) listed (match (Region.ready .any ops listed)[t % (Region.ready .any ops listed).length]? with
   | some i=>Region.linearise.go .any ops fuel (t / (Region.ready .any ops listed).length) (listed.setIfInBounds i true) [i]
   | none=>[].reverse)
  cases hi : (Region.ready .any ops listed)[t % (Region.ready .any ops listed).length]? with
  | none =>
   refine .inl ⟨?_,rfl⟩
   cases hr : Region.ready .any ops listed with
   | nil=>rfl
   | cons x xs =>
    rw [hr] at hi
    have hlt : t % (x :: xs).length < (x :: xs).length:=Nat.mod_lt _ (by simp)
    simp at hi
    simp at hlt
    omega
  | some i =>
   simp only []
   rw [linearise_go_acc,List.reverse_singleton,List.singleton_append]
   exact .inr ⟨i,_,rfl,List.mem_of_getElem? hi,go_path fuel _ _⟩
theorem any_path {F : Fence} {n : Nat} {P : Program} {ops : Array Oper} {Q : Exit → Act → World → Prop} : ∀ (fuel : Nat) (listed : Array Bool) (L : List Nat) (a : Act) (w : World),wpAnyIn F n P .any ops Q fuel listed a w → PathN ops fuel listed L → wpOpsIn F n P ops Q L a w
 | 0,listed,L,a,w,h,hp=>by
  simp only [PathN] at hp
  subst hp
  exact h.2
 | fuel + 1,listed,L,a,w,h,hp=>by
  rcases hp with ⟨h0,rfl⟩ | ⟨i,rest,rfl,hi,hr⟩
  ·exact h.1 h0
  ·rw [wpOpsIn_cons]
   exact wpOpIn_mono (fun a w h=>any_path fuel _ rest a w h hr) (h.2 i hi)
theorem ready_add {ops : Array Oper} {c a j : Nat} {listed : Array Bool} (h : j ∈ Region.ready .any ops listed) (hj : j = c → listed.getD a false = true) : j ∈ Region.ready .any (addEdge ops c a) listed := by
 rw [mem_ready] at h ⊢
 obtain ⟨h1,o,ho,h2⟩:=h
 refine ⟨h1,if j = c then { o with after:=o.after.push ⟨a,.chain⟩ } else o,by rw [addEdge_get,ho]; rfl,?_⟩
 intro e he hb
 by_cases hc : j = c
 ·rw [if_pos hc] at he
  rcases Array.mem_push.1 he with he | he
  ·exact h2 e he hb
  ·subst he; exact hj hc
 ·rw [if_neg hc] at he
  exact h2 e he hb
theorem ready_sub {ops : Array Oper} {c a j : Nat} {listed : Array Bool} (h : j ∈ Region.ready .any (addEdge ops c a) listed) : j ∈ Region.ready .any ops listed := by
 rw [mem_ready] at h ⊢
 obtain ⟨h1,o,ho,h2⟩:=h
 rw [addEdge_get] at ho
 obtain ⟨o',ho',rfl⟩:=Option.map_eq_some_iff.1 ho
 refine ⟨h1,o',ho',fun e he hb=>h2 e ?_ hb⟩
 by_cases hc : j = c
 ·rw [if_pos hc]; exact Array.mem_push.2 (.inl he)
 ·rw [if_neg hc]; exact he
theorem nil_add {ops : Array Oper} {c a : Nat} {listed : Array Bool} (h : Region.ready .any ops listed = []) : Region.ready .any (addEdge ops c a) listed = [] := by
 rw [List.eq_nil_iff_forall_not_mem] at h ⊢
 exact fun j hj=>h j (ready_sub hj)
theorem listed_set {listed : Array Bool} {i j : Nat} (h : listed.getD j false = true) : (listed.setIfInBounds i true).getD j false = true := by
 rw [Array.getD_eq_getD_getElem?] at h ⊢
 rw [Array.getElem?_setIfInBounds]
 split
 ·split
  ·rfl
  ·rename_i h1 h2
   rw [Array.getElem?_eq_none (by omega)] at h; simp at h
 ·exact h
theorem path_after {ops : Array Oper} {c a : Nat} : ∀ (f : Nat) (listed : Array Bool) (L : List Nat),listed.getD a false = true → PathN ops f listed L → PathN (addEdge ops c a) f listed L
 | 0,_,_,_,h=>h
 | f + 1,listed,L,ha,h=>by
  rcases h with ⟨h0,rfl⟩ | ⟨i,rest,rfl,hi,hr⟩
  ·exact .inl ⟨nil_add h0,rfl⟩
  ·exact .inr ⟨i,rest,rfl,ready_add hi fun _=>ha,path_after f _ rest (listed_set ha) hr⟩
theorem listed_now {ops : Array Oper} {i : Nat} {listed : Array Bool} (hs : listed.size = ops.size) (h : i ∈ Region.ready .any ops listed) : (listed.setIfInBounds i true).getD i false = true := by
 rw [mem_ready] at h
 obtain ⟨_,o,ho,_⟩:=h
 have:=(Array.getElem?_eq_some_iff.1 ho).1
 rw [Array.getD_eq_getD_getElem?,Array.getElem?_setIfInBounds,if_pos rfl,if_pos (by omega)]; rfl
theorem path_split {ops : Array Oper} {c a : Nat} (hca : c ≠ a) : ∀ (f : Nat) (listed : Array Bool) (L : List Nat),listed.size = ops.size → PathN ops f listed L → PathN (addEdge ops c a) f listed L ∨ PathN (addEdge ops a c) f listed L
 | 0,_,_,_,h=>.inl h
 | f + 1,listed,L,hs,h=>by
  rcases h with ⟨h0,rfl⟩ | ⟨i,rest,rfl,hi,hr⟩
  ·exact .inl (.inl ⟨nil_add h0,rfl⟩)
  ·by_cases h1 : i = a
   ·subst h1
    exact .inl (.inr ⟨i,rest,rfl,ready_add hi fun e=>absurd e.symm hca,path_after f _ rest (listed_now hs hi) hr⟩)
   ·by_cases h2 : i = c
    ·subst h2
     exact .inr (.inr ⟨i,rest,rfl,ready_add hi fun e=>absurd e hca,path_after f _ rest (listed_now hs hi) hr⟩)
    ·rcases path_split hca f _ rest (by simpa using hs) hr with k | k
     ·exact .inl (.inr ⟨i,rest,rfl,ready_add hi fun e=>absurd e h2,k⟩)
     ·exact .inr (.inr ⟨i,rest,rfl,ready_add hi fun e=>absurd e h1,k⟩)
theorem yielded_add (ops : Array Oper) (c a : Nat) (tmps : Array Value) : yielded (addEdge ops c a) tmps = yielded ops tmps := by
 funext j
 unfold yielded
 have : ((addEdge ops c a)[j]?).bind (·.dst) = (ops[j]?).bind (·.dst):=by
  rw [addEdge_get]
  cases ops[j]? with
  | none=>rfl
  | some o=>simp only [Option.map_some,Option.bind_some]; split <;> rfl
 rw [this]
theorem ops_add {F : Fence} {n : Nat} {P : Program} {ops : Array Oper} {c a : Nat} {Q : Exit → Act → World → Prop} : ∀ (L : List Nat) (ac : Act) (w : World),wpOpsIn F n P (addEdge ops c a) Q L ac w → wpOpsIn F n P ops Q L ac w
 | [],_,_,h=>h
 | i :: L,ac,w,h=>by
  simp only [wpOpsIn] at h ⊢
  rw [addEdge_get,yielded_add] at h
  cases ho : ops[i]? with
  | none=>rw [ho] at h; exact ops_add L ac w h
  | some o =>
   rw [ho] at h
   simp only [Option.map_some] at h ⊢
   have e1 : ∀ y,Region.wanted (if i = c then { o with after:=o.after.push ⟨a,.chain⟩ } else o) y = Region.wanted o y:=fun y=>by split <;> rfl
   have e2 : ∀ K,(if i = c then { o with after:=o.after.push ⟨a,.chain⟩ } else o : Oper).wpIn F n P ac w K Q = o.wpIn F n P ac w K Q:=fun K=>by split <;> rfl
   have e3 : (if i = c then { o with after:=o.after.push ⟨a,.chain⟩ } else o : Oper).about P w ac.eval = o.about P w ac.eval:=by split <;> rfl
   have e4 : (if i = c then { o with after:=o.after.push ⟨a,.chain⟩ } else o : Oper).dst = o.dst:=by split <;> rfl
   rw [e1,e2,e3,e4] at h
   split at h
   ·rename_i hw
    rw [if_pos hw]
    exact Oper.wpIn_mono (fun a w h=>ops_add L a w h) h
   ·rename_i hw
    rw [if_neg hw]
    exact ⟨h.1,ops_add L _ w h.2⟩
theorem wpIn_region_each {F : Fence} {n : Nat} {P : Program} {id : Nat} {ops : Array Oper} {Q : Exit → Act → World → Prop} {a : Act} {w : World}
  (h : ∀ t,∃ Q' : Exit → Act → World → Prop,(∀ e a w,Q' e a w → Q e a w) ∧ wpOpsIn F n P ops Q' (Region.schedule (P.follows .mixedOrders) ops t) a { w with drawn:=w.drawn + 1 }) : (Code.region id ops true).wpIn F n P Q a w :=
 fun b k cs hro hb hr=>let ⟨_,hm,hq⟩:=h _; let ⟨e,a',w',q,r⟩:=wp_opsIn _ a _ hq b k cs hro hb hr; ⟨e,a',w',hm _ _ _ q,.of_steps (.one (fenced_calm hb hr rfl) stepR_region_draw) r⟩
def loosePair (ops : Array Oper) (A : Array Nat) : Option (Nat × Nat) :=
 let es:=(List.range ops.size).filter fun i=>match ops[i]? with | some o=>isE o | none=>false
 (es.flatMap fun i=>es.map fun j=>(i,j)).find? fun p=>decide (p.1 < p.2) && !(ahead A p.1 p.2) && !(ahead A p.2 p.1)
def mkAlts (n : Nat) : Nat → Array Oper → Option (List (List PO))
 | 0,ops=>(mkPlan n ops true).map fun l=>[l]
 | k + 1,ops=>match mkPlan n ops true with
  | some l=>some [l]
  | none=>match loosePair ops (masks ops) with
   | none=>none
   | some (i,j)=>if i = j then none else
    match mkAlts n k (addEdge ops j i),mkAlts n k (addEdge ops i j) with
    | some l1,some l2=>some (l1 ++ l2)
    | _,_=>none
def mkBoth (n : Nat) (ops : Array Oper) (draw : Bool) : Option (List (List PO)) := if draw then mkAlts n 4 ops else none
def aalts (P : Program) (G : Env) (Q : AQ) (a : Nat → AV) (σ : AS) : List (List PO) → Prop
 | []=>True
 | l :: r=>aops P G (withPf (hide l a) Q) l a σ ∧ aalts P G Q a σ r
theorem aalts_append {P : Program} {G : Env} {Q : AQ} {a σ} : ∀ {l r : List (List PO)},aalts P G Q a σ (l ++ r) → aalts P G Q a σ l ∧ aalts P G Q a σ r
 | [],_,h=>⟨trivial,h⟩
 | _ :: _,_,h=>⟨⟨h.1,(aalts_append h.2).1⟩,(aalts_append h.2).2⟩
theorem plan_path {P : Program} {G : Env} {n : Nat} {ops : Array Oper} (hm : P.follows .mixedOrders = true) {l : List PO} (hp : mkPlan n ops true = some l) {Q : AQ} {a σ} (h : aops P G (withPf (hide l a) Q) l a σ) {ro : Option Nat} {D : List Deferred} {M0 : Mp} {F0 : Nat → FSt} {w0 : World} {M : Mp} {w : World} {ac : Act} (S : Sim M σ w) (g : GOk P G M σ.F w)
  (E : Ext M0 F0 w0 M σ.F w) (f : Fr M σ.F w a ac n) (hD : ac.defers = D) {L : List Nat} (hL : PathN ops ops.size (Array.replicate ops.size false) L) :
  ∃ Q' : Exit → Act → World → Prop,(∀ e a w,Q' e a w → QC P G n D M0 F0 w0 Q e a w) ∧ wpOpsIn (wideAt ro) 0 P ops Q' L ac { w with drawn:=w.drawn + 1 }:=by
 unfold mkPlan at hp
 simp only [if_true] at hp
 split at hp
 ·exact ⟨_,fun _ _ _ hq=>QC_pf E f hq,any_path _ _ _ _ _ (region_draw_any hm (ordB_spec ‹_›) hp h (ro:=ro) S g f hD) hL⟩
 ·cases hp
theorem alts_path {P : Program} {G : Env} {n : Nat} (hm : P.follows .mixedOrders = true) {Q : AQ} {a σ} {ro : Option Nat} {D : List Deferred} {M0 : Mp} {F0 : Nat → FSt} {w0 : World} {M : Mp} {w : World} {ac : Act} (S : Sim M σ w) (g : GOk P G M σ.F w)
  (E : Ext M0 F0 w0 M σ.F w) (f : Fr M σ.F w a ac n) (hD : ac.defers = D) : ∀ (k : Nat) (ops : Array Oper) (ls : List (List PO)),mkAlts n k ops = some ls → aalts P G Q a σ ls → ∀ L : List Nat,PathN ops ops.size (Array.replicate ops.size false) L →
  ∃ Q' : Exit → Act → World → Prop,(∀ e a w,Q' e a w → QC P G n D M0 F0 w0 Q e a w) ∧ wpOpsIn (wideAt ro) 0 P ops Q' L ac { w with drawn:=w.drawn + 1 }
 | 0,ops,ls,hp,h,L,hL=>by
  simp only [mkAlts,Option.map_eq_some_iff] at hp
  obtain ⟨l,hl,rfl⟩:=hp
  exact plan_path hm hl h.1 S g E f hD hL
 | k + 1,ops,ls,hp,h,L,hL=>by
  simp only [mkAlts] at hp
  split at hp
  ·rename_i l hl
   cases hp
   exact plan_path hm hl h.1 S g E f hD hL
  ·split at hp
   ·cases hp
   ·rename_i i j _
    split at hp
    ·cases hp
    ·rename_i hij
     split at hp
     ·rename_i l1 l2 e1 e2
      cases hp
      obtain ⟨h1,h2⟩:=aalts_append h
      rcases path_split (ops:=ops) (c:=j) (a:=i) (fun e=>hij e.symm) ops.size (Array.replicate ops.size false) L (by simp) hL with q | q
      ·obtain ⟨Q',q1,q2⟩:=alts_path hm (ro:=ro) S g E f hD k _ _ e1 h1 L (by rw [addEdge_size]; exact q)
       exact ⟨Q',q1,ops_add _ _ _ q2⟩
      ·obtain ⟨Q',q1,q2⟩:=alts_path hm (ro:=ro) S g E f hD k _ _ e2 h2 L (by rw [addEdge_size]; exact q)
       exact ⟨Q',q1,ops_add _ _ _ q2⟩
     ·cases hp
theorem both_sound {P : Program} {G : Env} {n id : Nat} {ops : Array Oper} {draw : Bool} (hm : P.follows .mixedOrders = true) {ls : List (List PO)} (hp : mkBoth n ops draw = some ls) {Q : AQ} {a σ} (h : aalts P G Q a σ ls) :
  AWp P G n (.region id ops draw) Q a σ:=by
 unfold mkBoth at hp
 cases draw with
 | false=>simp at hp
 | true =>
  simp only [if_true] at hp
  intro ro D M0 F0 w0 M w ac S g E f hD
  refine wpIn_region_each fun t=>?_
  simp only [Region.schedule,hm,Bool.true_or,if_true]
  exact alts_path hm S g E f hD 4 ops ls hp h _ (go_path ops.size t (Array.replicate ops.size false))
end Go.Abs
namespace Go.Abs
open Go
inductive PC where
 | skip
 | ops (l : List PO)
 | both (ls : List (List PO))
 | seq (x y : PC)
 | cond (c : Operand) (x y : PC)
 | block (id : Nat) (c : PC)
 | loop (c : PC)
 | exit (id : Nat)
 | ret
def plan (n : Nat) : Code → Option PC
 | .skip=>some .skip
 | .region _ ops draw=>match mkPlan n ops draw with
  | some l=>some (.ops l)
  | none=>(mkBoth n ops draw).map .both
 | .seq x y=>(plan n x).bind fun p=>(plan n y).map fun q=>.seq p q
 | .cond c x y=>(plan n x).bind fun p=>(plan n y).map fun q=>.cond c p q
 | .block id c=>(plan n c).map (.block id)
 | .loop c=>(plan n c).map .loop
 | .exit id=>some (.exit id)
 | .ret=>some .ret
 | _=>none
def ALoop (P : Program) (G : Env) (n : Nat) (p : PC) (Q : AQ) (a : Nat → AV) (σ : AS) : Prop :=
 P.follows .mixedOrders = true → ∀ c,plan n c = some p → AWp P G n (.loop c) Q a σ
def avc (P : Program) (G : Env) (n : Nat) : PC → AQ → (Nat → AV) → AS → Prop
 | .skip,Q,a,σ=>Q .normal a σ
 | .ops l,Q,a,σ=>aops P G (withPf (hide l a) Q) l a σ
 | .both ls,Q,a,σ=>aalts P G Q a σ ls
 | .seq x y,Q,a,σ=>avc P G n x (athen (avc P G n y Q) Q) a σ
 | .cond c x y,Q,a,σ =>
  match ev G a c with
  | .bool b=>(b = true → avc P G n x Q a σ) ∧ (b = false → avc P G n y Q a σ)
  | _=>False
 | .block id c,Q,a,σ=>avc P G n c (ablock id Q) a σ
 | .loop c,Q,a,σ=>ALoop P G n c Q a σ
 | .exit id,Q,a,σ=>Q (.exit id) a σ
 | .ret,Q,a,σ=>Q .ret a σ
theorem avc_sound {P : Program} {G : Env} {n : Nat} (hm : P.follows .mixedOrders = true) : ∀ (c : Code) (p : PC),plan n c = some p → ∀ (Q : AQ) a σ,avc P G n p Q a σ → AWp P G n c Q a σ := by
 intro c
 induction c with
 | skip=>intro p hp Q a σ h; simp [plan] at hp; subst hp; exact fun ro D M0 F0 w0 M w ac S g E f hD=>wpIn_skip ⟨.normal,a,σ,M,h,trivial,S,g,E,f,hD⟩
 | region id ops draw =>
  intro p hp Q a σ h
  simp only [plan] at hp
  split at hp
  ·rename_i l hl
   cases hp
   exact region_sound hm hl h
  ·obtain ⟨ls,hl,rfl⟩:=Option.map_eq_some_iff.1 hp
   exact both_sound hm hl h
 | seq x y ihx ihy =>
  intro p hp Q a σ h
  simp only [plan,Option.bind_eq_some_iff,Option.map_eq_some_iff] at hp
  obtain ⟨p1,h1,p2,h2,rfl⟩:=hp
  have hx:=ihx p1 h1 _ a σ h
  intro ro D M0 F0 w0 M w ac S g E f hD
  refine wpIn_seq (wpIn_mono (hx ro D M0 F0 w0 M w ac S g E f hD) fun e ac' w' hq=>?_)
  obtain ⟨e',a',σ',M',q,r,S',g',E',f',hD'⟩:=hq
  cases e' with
  | normal=>cases e <;> simp only [ERel] at r; exact ihy p2 h2 Q a' σ' q ro D M0 F0 w0 M' w' ac' S' g' E' f' hD'
  | exit i=>cases e <;> simp only [ERel] at r; exact ⟨.exit i,a',σ',M',q,r,S',g',E',f',hD'⟩
  | ret=>cases e <;> simp only [ERel] at r; exact ⟨.ret,a',σ',M',q,trivial,S',g',E',f',hD'⟩
  | panic v=>cases e <;> simp only [ERel] at r; exact ⟨.panic v,a',σ',M',q,r,S',g',E',f',hD'⟩
 | cond c x y ihx ihy =>
  intro p hp Q a σ h
  simp only [plan,Option.bind_eq_some_iff,Option.map_eq_some_iff] at hp
  obtain ⟨p1,h1,p2,h2,rfl⟩:=hp
  simp only [avc] at h
  intro ro D M0 F0 w0 M w ac S g E f hD
  split at h
  ·rename_i b hb
   have hv:=ev_VR g f c
   rw [hb] at hv
   refine wpIn_cond_split hv.bool_inv (fun hb'=>?_) (fun hb'=>?_)
   ·exact ihx p1 h1 Q a σ (h.1 hb') ro D M0 F0 w0 M w ac S g E f hD
   ·exact ihy p2 h2 Q a σ (h.2 hb') ro D M0 F0 w0 M w ac S g E f hD
  ·exact h.elim
 | block id c ih =>
  intro p hp Q a σ h
  simp only [plan,Option.map_eq_some_iff] at hp
  obtain ⟨p1,h1,rfl⟩:=hp
  have hx:=ih p1 h1 _ a σ h
  intro ro D M0 F0 w0 M w ac S g E f hD
  refine wpIn_block (wpIn_mono (hx ro D M0 F0 w0 M w ac S g E f hD) fun e ac' w' hq=>?_)
  obtain ⟨e',a',σ',M',q,r,S',g',E',f',hD'⟩:=hq
  cases e' with
  | normal=>cases e <;> simp only [ERel] at r; exact ⟨.normal,a',σ',M',q,trivial,S',g',E',f',hD'⟩
  | exit i =>
   cases e <;> simp only [ERel] at r
   subst r
   simp only [ablock] at q
   simp only [Exit.inBlock]
   split at q
   ·rename_i hi; rw [if_pos hi]; exact ⟨.normal,a',σ',M',q,trivial,S',g',E',f',hD'⟩
   ·rename_i hi; rw [if_neg hi]; exact ⟨.exit _,a',σ',M',q,rfl,S',g',E',f',hD'⟩
  | ret=>cases e <;> simp only [ERel] at r; exact ⟨.ret,a',σ',M',q,trivial,S',g',E',f',hD'⟩
  | panic v=>cases e <;> simp only [ERel] at r; exact ⟨.panic v,a',σ',M',q,r,S',g',E',f',hD'⟩
 | loop c ih =>
  intro p hp Q a σ h
  simp only [plan,Option.map_eq_some_iff] at hp
  obtain ⟨p1,h1,rfl⟩:=hp
  exact h hm c h1
 | exit id=>intro p hp Q a σ h; simp [plan] at hp; subst hp; exact fun ro D M0 F0 w0 M w ac S g E f hD=>wpIn_exit ⟨.exit id,a,σ,M,h,rfl,S,g,E,f,hD⟩
 | ret=>intro p hp Q a σ h; simp [plan] at hp; subst hp; exact fun ro D M0 F0 w0 M w ac S g E f hD=>wpIn_ret ⟨.ret,a,σ,M,h,trivial,S,g,E,f,hD⟩
 | rangeFunc=>intro p hp; simp [plan] at hp
 | scope=>intro p hp; simp [plan] at hp
 | label=>intro p hp; simp [plan] at hp
 | goto=>intro p hp; simp [plan] at hp
 | refuse=>intro p hp; simp [plan] at hp
theorem aloop {P : Program} {G : Env} {n : Nat} {p : PC} {Q : AQ} {a : Nat → AV} {σ : AS} (I : (Nat → AV) → AS → Prop) (μ : (Nat → AV) → AS → Nat) (h0 : I a σ)
  (round : ∀ a σ,I a σ → avc P G n p (athen (fun a' σ'=>I a' σ' ∧ μ a' σ' < μ a σ) Q) a σ) : ALoop P G n p Q a σ:=by
 intro hm c hc ro D M0 F0 w0 M w ac S g E f hD
 have key : ∀ (m : Nat) (a : Nat → AV) (σ : AS) (M : Mp) (w : World) (ac : Act),μ a σ < m → I a σ → Sim M σ w → GOk P G M σ.F w → Ext M0 F0 w0 M σ.F w → Fr M σ.F w a ac n → ac.defers = D →
   Code.roundsIn (wideAt ro) 0 P c (QC P G n D M0 F0 w0 Q) m ac w:=by
  intro m
  induction m with
  | zero=>intro a σ M w ac h; omega
  | succ m ih =>
   intro a σ M w ac hlt hI S g E f hD
   rw [roundsIn_succ]
   refine wpIn_mono (avc_sound hm c p hc _ a σ (round a σ hI) ro D M0 F0 w0 M w ac S g E f hD) fun e ac' w' hq=>?_
   obtain ⟨e',a',σ',M',q,r,S',g',E',f',hD'⟩:=hq
   cases e' with
   | normal=>cases e <;> simp only [ERel] at r; exact ih a' σ' M' w' ac' (by have:=q.2; omega) q.1 S' g' E' f' hD'
   | exit i=>cases e <;> simp only [ERel] at r; exact ⟨.exit i,a',σ',M',q,r,S',g',E',f',hD'⟩
   | ret=>cases e <;> simp only [ERel] at r; exact ⟨.ret,a',σ',M',q,trivial,S',g',E',f',hD'⟩
   | panic v=>cases e <;> simp only [ERel] at r; exact ⟨.panic v,a',σ',M',q,r,S',g',E',f',hD'⟩
 exact wpIn_loop_rounds (μ a σ + 1) (key _ a σ M w ac (by omega) h0 S g E f hD)
def frame0 (args : List AV) : Nat → AV := fun t => (args[t]?).getD (.tuple [])
def ares (P : Program) : List ResultVar → (Nat → AV) → AS → (List AV → Prop) → Prop
 | [],_,_,K=>K []
 | .tmp t :: r,a,σ,K=>ares P r a σ fun vs=>K (a t :: vs)
 | .cell t ty :: r,a,σ,K=>aload P ty (a t) σ fun v=>ares P r a σ fun vs=>K (v :: vs)
def tup : List AV → AV
 | [v]=>v
 | vs=>.tuple vs
def afin (P : Program) (res : List ResultVar) (R : Out → AS → Prop) : AQ
 | .normal,a,σ | .ret,a,σ=>ares P res a σ fun vs=>R (.ret (tup vs)) σ
 | .panic v,_,σ=>R (.panic v) σ
 | _,_,_=>False
theorem ares_sound {P : Program} {M : Mp} {σ : AS} {w : World} (S : Sim M σ w) {a : Nat → AV} {tmps : Array Value} (f : ∀ t,VR M σ.F w (a t) (tmps.getD t undef)) {g : ResultVar → Sem Value}
  (g1 : ∀ t,(g (.tmp t)).run P w = .ok (tmps.getD t undef) w) (g2 : ∀ t ty q v,tmps.getD t undef = .pointer (some q) → (loadVar ty q).run P w = .ok v w → (g (.cell t ty)).run P w = .ok v w) :
  ∀ (l : List ResultVar) (K : List AV → Prop),ares P l a σ K → ∃ (vs : List AV) (cs : List Value),K vs ∧ (l.mapM g).run P w = .ok cs w ∧ Cells M σ.F w vs cs.toArray:=by
 intro l
 induction l with
 | nil=>intro K h; exact ⟨[],[],h,by simp,⟨by simp,by simp⟩⟩
 | cons r l ih =>
  intro K h
  have app : ∀ {v c vs cs},VR M σ.F w v c → Cells M σ.F w vs (cs : List Value).toArray → Cells M σ.F w (v :: vs) (c :: cs).toArray:=by
   intro v c vs cs hv hc
   refine ⟨by have:=hc.1; simpa using this,fun j x hj=>?_⟩
   cases j with
   | zero=>simp at hj; subst hj; exact ⟨c,by simp,hv⟩
   | succ j =>
    simp at hj
    obtain ⟨y,h1,h2⟩:=hc.2 j x hj
    exact ⟨y,by simpa using h1,h2⟩
  cases r with
  | tmp t =>
   simp only [ares] at h
   obtain ⟨vs,cs,hK,hr,hc⟩:=ih _ h
   exact ⟨_,_,hK,by rw [List.mapM_cons,Sem.run_bind,g1]; simp [hr],app (f t) hc⟩
  | cell t ty =>
   simp only [ares] at h
   obtain ⟨v,hK,hh⟩:=aload_sound h
   obtain ⟨v',h1,h2⟩:=hh M w _ S (f t)
   obtain ⟨vs,cs,hK,hr,hc⟩:=ih _ hK
   refine ⟨_,v' :: cs,hK,?_,app h2 hc⟩
   have h3 : (g (.cell t ty)).run P w = .ok v' w:=by
    generalize hq : tmps.getD t undef = p at h1
    cases p with
    | pointer q =>
     cases q with
     | none=>simp [Instr.loadAt,Instr.sureAddr] at h1
     | some q=>exact g2 t ty q v' hq (by simpa [Instr.loadAt,Instr.sureAddr] using h1)
    | _=>simp [Instr.loadAt,Instr.sureAddr] at h1
   rw [List.mapM_cons,Sem.run_bind,h3]
   simp [hr]
theorem acalls {P : Program} {G : Env} {f : FuncId} {fn : Func} {c : Code} {p : PC} {args : List AV} {σ : AS} {R : Out → AS → Prop} (hm : P.follows .mixedOrders = true) (hf : P.funcs[f]? = some fn) (hb : fn.body = some c)
  (hp : plan fn.ntmps c = some p) (hn : args.length ≤ fn.ntmps) (h : avc P G fn.ntmps p (afin P fn.results.toList R) (frame0 args) σ) : ACalls P G f args σ R:=by
 intro M w cargs S g hc
 refine calls_of_wp hf hb (wpIn_wide.1 (wpIn_mono (avc_sound hm c p hp _ _ σ h none [] M σ.F w M w _ S g (.refl ..) ⟨?_,fun t=>?_⟩ rfl) fun e ac' w' hq=>?_))
 ·have:=hc.1
  simp only [Array.size_append,Array.size_replicate]; omega
 ·unfold frame0
  rw [Array.getD_eq_getD_getElem?]
  by_cases ht : t < args.length
  ·obtain ⟨x,h1,h2⟩:=hc.2 t _ (List.getElem?_eq_getElem ht)
   rw [Array.getElem?_append_left (by rw [hc.1]; exact ht),h1,List.getElem?_eq_getElem ht]
   exact h2
  ·rw [Array.getElem?_append_right (show cargs.size ≤ t by rw [hc.1]; omega),List.getElem?_eq_none (by omega),Array.getElem?_replicate]
   split <;> exact undef_VR ..
 ·obtain ⟨e',a',σ',M',q,r,S',g',E',f',hD'⟩:=hq
  have fin : ares P fn.results.toList a' σ' (fun vs=>R (.ret (tup vs)) σ') →
    ∃ v,(results fn ac'.tmps).run P w' = .ok v w' ∧ ∃ out σ' M',R out σ' ∧ OutRel M' σ'.F w' out (.returned v) ∧ Sim M' σ' w' ∧ Ext M σ.F w M' σ'.F w':=by
   intro hq
   have key : ∀ g : ResultVar → Sem Value,(∀ t,(g (.tmp t)).run P w' = .ok (ac'.tmps.getD t undef) w') → (∀ t ty q v,ac'.tmps.getD t undef = .pointer (some q) → (loadVar ty q).run P w' = .ok v w' → (g (.cell t ty)).run P w' = .ok v w') →
     ∃ v,((((List.mapM g fn.results.toList).run P w').andThen fun a w'=>.ok a.toArray w').andThen fun vs w=>(pure (if h : vs.size = 1 then vs[0] else .tuple vs) : Sem Value).run P w) = .ok v w' ∧
      ∃ out σ' M',R out σ' ∧ OutRel M' σ'.F w' out (.returned v) ∧ Sim M' σ' w' ∧ Ext M σ.F w M' σ'.F w':=by
    intro g g1 g2
    obtain ⟨vs,cs,hK,hr,hcc⟩:=ares_sound S' f'.val g1 g2 _ _ hq
    rw [hr]
    simp only [Result.andThen_ok,Sem.run_pure]
    refine ⟨_,rfl,.ret (tup vs),σ',M',hK,?_,S',E'⟩
    have hl:=hcc.1
    simp only [OutRel]
    have hget:=hcc.get
    split
    ·rename_i h1
     cases vs with
     | nil=>rw [h1] at hl; simp at hl
     | cons v r =>
      cases r with
      | nil=>exact hget 0 (by simp) (by rw [h1]; exact Nat.one_pos)
      | cons _ _=>rw [h1] at hl; simp at hl
    ·rename_i h1
     have : tup vs = .tuple vs:=by
      cases vs with
      | nil=>rfl
      | cons v r =>
       cases r with
       | nil=>exact absurd (by simpa using hl) h1
       | cons _ _=>rfl
     rw [this]
     exact .tuple _ _ hl hget
   unfold results
   rw [Sem.run_bind,Array.mapM_eq_mapM_toList,Sem.run_map]
   exact key _ (fun _=>rfl) (fun t ty q v h1 h2=>by
    simp only [h1,asAddr,Sem.run_bind,Sem.run_pure,Result.andThen_ok,h2])
  cases e' with
  | normal=>cases e <;> simp only [ERel] at r; exact ⟨hD',fin q⟩
  | ret=>cases e <;> simp only [ERel] at r; exact ⟨hD',fin q⟩
  | exit i=>exact q.elim
  | panic v =>
   cases e <;> simp only [ERel] at r
   obtain ⟨v',rfl,hv⟩:=r
   exact ⟨hD',.panic v,σ',M',q,⟨v',rfl,hv⟩,S',E'⟩
theorem acalls' {P : Program} {G : Env} {f n : Nat} {fn : Func} {p : PC} {l : List ResultVar} {args : List AV} {σ : AS} {R : Out → AS → Prop} (hm : P.follows .mixedOrders = true) (hf : P.funcs[f]? = some fn) (hn : fn.ntmps = n)
  (hl : fn.results.toList = l) (hp : fn.body.bind (plan fn.ntmps) = some p) (ha : args.length ≤ n) (h : avc P G n p (afin P l R) (frame0 args) σ) : ACalls P G f args σ R:=by
 subst hn; subst hl
 obtain ⟨c,hc,hp⟩:=Option.bind_eq_some_iff.1 hp
 exact acalls hm hf hc hp ha h
end Go.Abs
namespace Go.Abs
open Go
def blk : Prop := True
@[simp] theorem blk_eq : blk = True := propext ⟨fun _ => trivial,fun _ => trivial⟩
def bindO {α : Type} (o : Option α) (K : α → Prop) : Prop := ∃ x,o = some x ∧ K x
@[simp] theorem bindO_some {α : Type} (x : α) (K : α → Prop) : bindO (some x) K = K x := by simp [bindO]
@[simp] theorem bindO_none {α : Type} (K : α → Prop) : bindO none K = False := by simp [bindO]
@[congr] theorem bindO_congr {dd : Prop} (_ : blk = dd) {α : Type} {o o' : Option α} {K : α → Prop} (h : o = o') : bindO o K = bindO o' K := by rw [h]
def ifB (b : Bool) (yes no : Prop) : Prop := if b then yes else no
@[simp] theorem ifB_true (yes no : Prop) : ifB true yes no = yes := by simp [ifB]
@[simp] theorem ifB_false (yes no : Prop) : ifB false yes no = no := by simp [ifB]
@[congr] theorem ifB_congr {dd : Prop} (_ : blk = dd) {b b' : Bool} {yes no : Prop} (h : b = b') : ifB b yes no = ifB b' yes no := by rw [h]
def condV (v : AV) (yes no : Prop) : Prop := match v with
 | .bool b=>ifB b yes no
 | _=>False
@[simp] theorem condV_bool (b : Bool) (yes no : Prop) : condV (.bool b) yes no = ifB b yes no := Eq.trans rfl rfl
@[congr] theorem condV_congr {dd : Prop} (_ : blk = dd) {v v' : AV} {yes no : Prop} (h : v = v') : condV v yes no = condV v' yes no := by rw [h]
def gateV (v : AV) (want : Bool) (yes no : Prop) : Prop := match v with
 | .bool b=>ifB (b == want) yes no
 | .tuple []=>no
 | _=>False
@[simp] theorem gateV_bool (b want : Bool) (yes no : Prop) : gateV (.bool b) want yes no = ifB (b == want) yes no := Eq.trans rfl rfl
@[simp] theorem gateV_unit (want : Bool) (yes no : Prop) : gateV (.tuple []) want yes no = no := Eq.trans rfl rfl
@[congr] theorem gateV_congr {dd : Prop} (_ : blk = dd) {v v' : AV} {want : Bool} {yes no : Prop} (h : v = v') : gateV v want yes no = gateV v' want yes no := by rw [h]
@[simp] theorem acond_none (a : Nat → AV) (yes no : Prop) : acond a none yes no = yes := Eq.trans rfl rfl
@[simp] theorem acond_some (a : Nat → AV) (d : Nat) (want : Bool) (yes no : Prop) : acond a (some (d,want)) yes no = gateV (a d) want yes no := by
 unfold acond gateV
 simp only
 cases a d with
 | bool b=>cases b <;> cases want <;> simp [ifB]
 | tuple l=>cases l <;> rfl
 | _=>rfl
@[congr] theorem acond_congr1 {dd : Prop} (_ : blk = dd) {a a' : Nat → AV} {g : Option (Nat × Bool)} {yes no : Prop} (h : a = a') : acond a g yes no = acond a' g yes no := by rw [h]
section
variable {P : Program} {G : Env} {n : Nat}
@[congr] theorem avc_congr {dd : Prop} (_ : blk = dd) {p p' : PC} {Q : AQ} {a a' : Nat → AV} {σ σ' : AS} (h : a = a') (h2 : σ = σ') (h3 : p = p') : avc P G n p Q a σ = avc P G n p' Q a' σ' := by rw [h,h2,h3]
@[simp] theorem avc_skip (Q : AQ) (a σ) : avc P G n .skip Q a σ = Q .normal a σ := Eq.trans rfl rfl
@[simp] theorem avc_ops (l : List PO) (Q : AQ) (a σ) : avc P G n (.ops l) Q a σ = aops P G (withPf (hide l a) Q) l a σ := Eq.trans rfl rfl
@[simp] theorem avc_both (ls : List (List PO)) (Q : AQ) (a σ) : avc P G n (.both ls) Q a σ = aalts P G Q a σ ls := Eq.trans rfl rfl
@[congr] theorem aalts_congr {dd : Prop} (_ : blk = dd) {Q : AQ} {a a' : Nat → AV} {σ σ' : AS} {ls : List (List PO)} (h : a = a') (h2 : σ = σ') : aalts P G Q a σ ls = aalts P G Q a' σ' ls := by rw [h,h2]
@[simp] theorem aalts_nil (Q : AQ) (a σ) : aalts P G Q a σ [] = True := Eq.trans rfl rfl
@[simp] theorem aalts_cons (Q : AQ) (a σ) (l : List PO) (r : List (List PO)) : aalts P G Q a σ (l :: r) = (aops P G (withPf (hide l a) Q) l a σ ∧ aalts P G Q a σ r) := Eq.trans rfl rfl
@[simp] theorem withPf_normal (pf) (Q : AQ) (a σ) : withPf pf Q .normal a σ = Q .normal a σ := Eq.trans rfl rfl
@[simp] theorem withPf_exit (pf) (Q : AQ) (i a σ) : withPf pf Q (.exit i) a σ = Q (.exit i) a σ := Eq.trans rfl rfl
@[simp] theorem withPf_ret (pf) (Q : AQ) (a σ) : withPf pf Q .ret a σ = Q .ret a σ := Eq.trans rfl rfl
@[simp] theorem withPf_panic (pf) (Q : AQ) (v a σ) : withPf pf Q (.panic v) a σ = Q (.panic v) pf σ := Eq.trans rfl rfl
@[congr] theorem withPf_congr {dd : Prop} (_ : blk = dd) {pf : Nat → AV} {Q : AQ} {e : AExit} {a a' : Nat → AV} {σ σ' : AS} (h : a = a') (h2 : σ = σ') : withPf pf Q e a σ = withPf pf Q e a' σ' := by rw [h,h2]
@[simp] theorem avc_seq (x y : PC) (Q : AQ) (a σ) : avc P G n (.seq x y) Q a σ = avc P G n x (athen (avc P G n y Q) Q) a σ := Eq.trans rfl rfl
@[simp] theorem avc_cond (c : Operand) (x y : PC) (Q : AQ) (a σ) : avc P G n (.cond c x y) Q a σ = condV (ev G a c) (avc P G n x Q a σ) (avc P G n y Q a σ) := by
 simp only [avc,condV]
 cases ev G a c with
 | bool b=>cases b <;> simp [ifB]
 | _=>rfl
@[simp] theorem avc_block (id : Nat) (c : PC) (Q : AQ) (a σ) : avc P G n (.block id c) Q a σ = avc P G n c (ablock id Q) a σ := Eq.trans rfl rfl
@[simp] theorem avc_loop (c : PC) (Q : AQ) (a σ) : avc P G n (.loop c) Q a σ = ALoop P G n c Q a σ := Eq.trans rfl rfl
@[simp] theorem avc_exit (i : Nat) (Q : AQ) (a σ) : avc P G n (.exit i) Q a σ = Q (.exit i) a σ := Eq.trans rfl rfl
@[simp] theorem avc_ret (Q : AQ) (a σ) : avc P G n .ret Q a σ = Q .ret a σ := Eq.trans rfl rfl
@[congr] theorem ALoop_congr {dd : Prop} (_ : blk = dd) {p : PC} {Q : AQ} {a a' : Nat → AV} {σ σ' : AS} (h : a = a') (h2 : σ = σ') : ALoop P G n p Q a σ = ALoop P G n p Q a' σ' := by rw [h,h2]
@[congr] theorem ACalls_congr {dd : Prop} (_ : blk = dd) {f : FuncId} {l l' : List AV} {σ σ' : AS} {R : Out → AS → Prop} (h : l = l') (h2 : σ = σ') : ACalls P G f l σ R = ACalls P G f l' σ' R := by rw [h,h2]
@[simp] theorem athen_normal (K : (Nat → AV) → AS → Prop) (Q : AQ) (a σ) : athen K Q .normal a σ = K a σ := Eq.trans rfl rfl
@[simp] theorem athen_exit (K : (Nat → AV) → AS → Prop) (Q : AQ) (i a σ) : athen K Q (.exit i) a σ = Q (.exit i) a σ := Eq.trans rfl rfl
@[simp] theorem athen_ret (K : (Nat → AV) → AS → Prop) (Q : AQ) (a σ) : athen K Q .ret a σ = Q .ret a σ := Eq.trans rfl rfl
@[simp] theorem athen_panic (K : (Nat → AV) → AS → Prop) (Q : AQ) (v a σ) : athen K Q (.panic v) a σ = Q (.panic v) a σ := Eq.trans rfl rfl
@[congr] theorem athen_congr {dd : Prop} (_ : blk = dd) {K : (Nat → AV) → AS → Prop} {Q : AQ} {e : AExit} {a a' : Nat → AV} {σ σ' : AS} (h : a = a') (h2 : σ = σ') : athen K Q e a σ = athen K Q e a' σ' := by rw [h,h2]
@[simp] theorem ablock_normal (id : Nat) (Q : AQ) (a σ) : ablock id Q .normal a σ = Q .normal a σ := Eq.trans rfl rfl
@[simp] theorem ablock_exit (id : Nat) (Q : AQ) (i a σ) : ablock id Q (.exit i) a σ = ifB (i == id) (Q .normal a σ) (Q (.exit i) a σ) := by
 simp only [ablock,ifB,beq_iff_eq]
@[simp] theorem ablock_ret (id : Nat) (Q : AQ) (a σ) : ablock id Q .ret a σ = Q .ret a σ := Eq.trans rfl rfl
@[simp] theorem ablock_panic (id : Nat) (Q : AQ) (v a σ) : ablock id Q (.panic v) a σ = Q (.panic v) a σ := Eq.trans rfl rfl
@[congr] theorem ablock_congr {dd : Prop} (_ : blk = dd) {id : Nat} {Q : AQ} {e : AExit} {a a' : Nat → AV} {σ σ' : AS} (h : a = a') (h2 : σ = σ') : ablock id Q e a σ = ablock id Q e a' σ' := by rw [h,h2]
@[congr] theorem aops_congr {dd : Prop} (_ : blk = dd) {Q : AQ} {l : List PO} {a a' : Nat → AV} {σ σ' : AS} (h : a = a') (h2 : σ = σ') : aops P G Q l a σ = aops P G Q l a' σ' := by rw [h,h2]
@[simp] theorem aops_nil (Q : AQ) (a σ) : aops P G Q [] a σ = Q .normal a σ := Eq.trans rfl rfl
@[simp] theorem aops_cons (Q : AQ) (d op g) (l : List PO) (a σ) : aops P G Q (⟨d,op,g,[]⟩ :: l) a σ =
  acond a g (aop1 P G op d a σ (aops P G Q l) Q) (aops P G Q l (put a d (.tuple [])) σ):=by
 show acond a g (aop1 P G op d a σ (fun a' σ'=>aagain P G a' σ' [] ∧ aops P G Q l a' σ') Q) _ = _
 rw [show (fun a' σ'=>aagain P G a' σ' [] ∧ aops P G Q l a' σ') = aops P G Q l from by funext a' σ'; simp [aagain]]
@[simp] theorem aops_cons1 (Q : AQ) (d op g x y) (l : List PO) (a σ) : aops P G Q (⟨d,op,g,x :: y⟩ :: l) a σ =
  acond a g (aop1 P G op d a σ (fun a' σ'=>aagain P G a' σ' (x :: y) ∧ aops P G Q l a' σ') Q) (aops P G Q l (put a d (.tuple [])) σ):=Eq.trans rfl rfl
@[simp] theorem aagain_nil (a σ) : aagain P G a σ [] = True := Eq.trans rfl rfl
@[simp] theorem aagain_cons (a σ) (g t x d) (r : List AG) : aagain P G a σ (⟨g,t,x,d⟩ :: r) = (acond a g (aload P t (ev G a x) σ fun v => v = a d) True ∧ aagain P G a σ r) := Eq.trans rfl rfl
@[congr] theorem aop1_congr {dd : Prop} (_ : blk = dd) {op : Op} {d : Option Nat} {a a' : Nat → AV} {σ σ' : AS} {K : (Nat → AV) → AS → Prop} {Q : AQ} (h : a = a') (h2 : σ = σ') : aop1 P G op d a σ K Q = aop1 P G op d a' σ' K Q := by rw [h,h2]
@[simp] theorem put_some (a : Nat → AV) (d : Nat) (v : AV) : put a (some d) v = upd a d v := Eq.trans rfl rfl
@[simp] theorem put_none (a : Nat → AV) (v : AV) : put a none v = a := Eq.trans rfl rfl
@[simp] theorem upd_at {α : Type} (f : Nat → α) (i : Nat) (x : α) (j : Nat) : upd f i x j = if j = i then x else f j := Eq.trans rfl rfl
@[simp] theorem frame0_at (l : List AV) (t : Nat) : frame0 l t = (l[t]?).getD (.tuple []) := Eq.trans rfl rfl
@[simp] theorem ev_tmp (a : Nat → AV) (t : Nat) : ev G a (.tmp t) = a t := Eq.trans rfl rfl
@[simp] theorem ev_func (a : Nat → AV) (f : Nat) : ev G a (.func f) = .fn (.func f) [] [] := Eq.trans rfl rfl
@[simp] theorem ev_global (a : Nat → AV) (g : Nat) : ev G a (.global g) = G.g g := Eq.trans rfl rfl
@[simp] theorem ev_int (a : Nat → AV) (k n) : ev G a (.const (.int k n)) = .int k n := Eq.trans rfl rfl
@[simp] theorem ev_bool (a : Nat → AV) (b) : ev G a (.const (.bool b)) = .bool b := Eq.trans rfl rfl
@[simp] theorem ev_nilsl (a : Nat → AV) : ev G a (.const (.slice none 0 0)) = .nilsl := Eq.trans rfl rfl
@[simp] theorem ev_nilp (a : Nat → AV) : ev G a (.const (.pointer none)) = .nilp := Eq.trans rfl rfl
@[simp] theorem ev_nilif (a : Nat → AV) : ev G a (.const .nilIface) = .nilif := Eq.trans rfl rfl
@[simp] theorem ev_nilfn (a : Nat → AV) : ev G a (.const .nilFunc) = .nilfn := Eq.trans rfl rfl
@[simp] theorem ev_str (a : Nat → AV) (l) : ev G a (.const (.string ⟨l⟩)) = .str l.toList := Eq.trans rfl rfl
variable {a : Nat → AV} {σ : AS} {K : (Nat → AV) → AS → Prop} {Q : AQ} {d : Option Nat}
@[simp] theorem aop1_move (x) : aop1 P G (.move x) d a σ K Q = K (put a d (ev G a x)) σ := Eq.trans rfl rfl
@[simp] theorem aop1_assign (x) : aop1 P G (.assign x) d a σ K Q = K (put a d (ev G a x)) σ := Eq.trans rfl rfl
def pickV (v x y : AV) (K : AV → Prop) : Prop := match v with
 | .bool b=>K (if b then x else y)
 | _=>False
@[simp] theorem pickV_bool (b x y) (K : AV → Prop) : pickV (.bool b) x y K = K (if b then x else y) := Eq.trans rfl rfl
@[congr] theorem pickV_congr {dd : Prop} (_ : blk = dd) {v v' x x' y y' : AV} {K : AV → Prop} (h : v = v') (h1 : x = x') (h2 : y = y') : pickV v x y K = pickV v' x' y' K := by rw [h,h1,h2]
@[simp] theorem aop1_pick (c x y) : aop1 P G (.pick c x y) d a σ K Q = pickV (ev G a c) (ev G a x) (ev G a y) fun v => K (put a d v) σ := by
 simp only [aop1,nextOf,isPure,if_pos,apure,pickV]
 cases ev G a c with
 | bool b=>simp
 | _=>simp
def nilV (v : AV) (K : AV → Prop) : Prop := match v with
 | .ptr _ _ | .pv _ _ | .fn (.func _) _ _=>K v
 | _=>False
@[simp] theorem nilV_ptr (o f) (K : AV → Prop) : nilV (.ptr o f) K = K (.ptr o f) := Eq.trans rfl rfl
@[simp] theorem nilV_pv (o f) (K : AV → Prop) : nilV (.pv o f) K = K (.pv o f) := Eq.trans rfl rfl
@[simp] theorem nilV_fn (f l c) (K : AV → Prop) : nilV (.fn (.func f) l c) K = K (.fn (.func f) l c) := Eq.trans rfl rfl
@[congr] theorem nilV_congr {dd : Prop} (_ : blk = dd) {v v' : AV} {K : AV → Prop} (h : v = v') : nilV v K = nilV v' K := by rw [h]
@[simp] theorem aop1_nilCheck (x) : aop1 P G (.nilCheck x) d a σ K Q = nilV (ev G a x) fun v => K (put a d v) σ := Eq.trans rfl rfl
@[simp] theorem aop1_binOp (op t x y u) : aop1 P G (.binOp op t x y u) d a σ K Q = abin P op t (ev G a x) (ev G a y) fun v => K (put a d v) σ := Eq.trans rfl rfl
@[simp] theorem aop1_unOp (op t x) : aop1 P G (.unOp op t x) d a σ K Q = aun op (ev G a x) fun v => K (put a d v) σ := Eq.trans rfl rfl
@[simp] theorem aop1_makeInterface (t x) : aop1 P G (.makeInterface t x) d a σ K Q = (isIface P t = some false ∧ K (put a d (.iface t (ev G a x))) σ) := Eq.trans rfl rfl
@[simp] theorem aop1_makeFunc (f u v) : aop1 P G (.makeFunc f u v) d a σ K Q = K (put a d (.fn f (u.toList.map (ev G a)) (v.toList.map (ev G a)))) σ := Eq.trans rfl rfl
@[simp] theorem aop1_fieldAddr (t x i) : aop1 P G (.fieldAddr t x i) d a σ K Q = afieldAddr P t (ev G a x) i fun v => K (put a d v) σ := Eq.trans rfl rfl
@[simp] theorem aop1_field (t x i) : aop1 P G (.field t x i) d a σ K Q = afield P t (ev G a x) i fun v => K (put a d v) σ := Eq.trans rfl rfl
@[simp] theorem aop1_indexAddr (t x i) : aop1 P G (.indexAddr t x i) d a σ K Q = aindexAddr P t (ev G a x) (ev G a i) fun v => K (put a d v) σ := Eq.trans rfl rfl
@[simp] theorem aop1_index (t x i) : aop1 P G (.index t x i) d a σ K Q = aindex P t (ev G a x) (ev G a i) fun v => K (put a d v) σ := Eq.trans rfl rfl
def partV (v : AV) (i : Nat) (K : AV → Prop) : Prop := match v with
 | .tuple vs=>bindO vs[i]? K
 | _=>False
@[simp] theorem partV_tuple (vs i) (K : AV → Prop) : partV (.tuple vs) i K = bindO vs[i]? K := Eq.trans rfl rfl
@[congr] theorem partV_congr {dd : Prop} (_ : blk = dd) {v v' : AV} {i : Nat} {K : AV → Prop} (h : v = v') : partV v i K = partV v' i K := by rw [h]
@[simp] theorem aop1_extract (x i) : aop1 P G (.extract x i) d a σ K Q = partV (ev G a x) i fun v => K (put a d v) σ := by
 simp only [aop1,nextOf,isPure,if_pos,apure,partV,bindO]
 cases ev G a x <;> rfl
@[simp] theorem aop1_build (t ps) : aop1 P G (.build t ps) d a σ K Q = abuild P t (ev G a) ps.toList fun v => K (put a d v) σ := Eq.trans rfl rfl
@[simp] theorem aop1_buildSlice (t n ps) (ho : (ps.toList.length == 108) = false) : aop1 P G (.buildSlice t n ps) d a σ K Q = if blitSl t ps.toList = true then abuildLit P t n (ev G a) ps.toList fun v => K (put a d v) σ else abuildSlice P t n (ev G a) ps.toList fun v => K (put a d v) σ := by
 have e : isPure (.buildSlice t n ps) = true:=by simp only [isPure,objSl,ho]; rfl
 simp only [aop1,nextOf,e,aeff,apure,if_true,Bool.false_eq_true,if_false]
@[simp] theorem aop1_len (t x) : aop1 P G (.call ⟨.builtin .len,#[x],#[t]⟩) d a σ K Q = alen P t (ev G a x) fun v => K (put a d v) σ := Eq.trans rfl rfl
@[simp] theorem aop1_cap (t x) : aop1 P G (.call ⟨.builtin .cap,#[x],#[t]⟩) d a σ K Q = acap P t (ev G a x) fun v => K (put a d v) σ := Eq.trans rfl rfl
@[congr] theorem acap_congr {dd : Prop} (_ : blk = dd) {t} {x x' : AV} {K : AV → Prop} (h : x = x') : acap P t x K = acap P t x' K := by rw [h]
@[simp] theorem acap_nilsl (t) (K : AV → Prop) : acap P t .nilsl K = ((elOf P t).isSome = true ∧ K (.int .i64 0)) := Eq.trans rfl rfl
@[simp] theorem acap_sl (t φ z xs) (K : AV → Prop) : acap P t (.sl φ z xs) K = ((elOf P t).isSome = true ∧ φ.full = true ∧ K (.int .i64 xs.length)) := Eq.trans rfl rfl
def assertV (P : Program) (t : TypeId) (ok : Bool) (v : AV) (K : AV → Prop) : Prop := match v with
 | .iface u v=>isIface P t = some false ∧ u = t ∧ K (if ok then .tuple [v,.bool true] else v)
 | _=>False
@[simp] theorem assertV_iface (t ok u v) (K : AV → Prop) : assertV P t ok (.iface u v) K = (isIface P t = some false ∧ u = t ∧ K (if ok then .tuple [v,.bool true] else v)) := Eq.trans rfl rfl
@[congr] theorem assertV_congr {dd : Prop} (_ : blk = dd) {t ok} {v v' : AV} {K : AV → Prop} (h : v = v') : assertV P t ok v K = assertV P t ok v' K := by rw [h]
@[simp] theorem aop1_typeAssert (x xt t ok) : aop1 P G (.typeAssert x xt t ok) d a σ K Q = assertV P t ok (ev G a x) fun v => K (put a d v) σ := Eq.trans rfl rfl
@[simp] theorem aop1_slice (t x lo hi mx) : aop1 P G (.slice t x lo hi mx) d a σ K Q = aslice P (ev G a) t (ev G a x) lo hi mx fun v => K (put a d v) σ := Eq.trans rfl rfl
def minV (f : Int → Int → Int) (x y : AV) (K : AV → Prop) : Prop := match x,y with
 | .int k m,.int k' n=>k = k' ∧ K (.int k (f m n))
 | _,_=>False
@[simp] theorem minV_int (f k m k' n) (K : AV → Prop) : minV f (.int k m) (.int k' n) K = (k = k' ∧ K (.int k (f m n))) := Eq.trans rfl rfl
@[congr] theorem minV_congr {dd : Prop} (_ : blk = dd) {f} {x x' y y' : AV} {K : AV → Prop} (h1 : x = x') (h2 : y = y') : minV f x y K = minV f x' y' K := by rw [h1,h2]
@[simp] theorem aop1_min (x y ts) : aop1 P G (.call ⟨.builtin .min,#[x,y],ts⟩) d a σ K Q = minV min (ev G a x) (ev G a y) fun v => K (put a d v) σ := Eq.trans rfl rfl
@[simp] theorem aop1_max (x y ts) : aop1 P G (.call ⟨.builtin .max,#[x,y],ts⟩) d a σ K Q = minV max (ev G a x) (ev G a y) fun v => K (put a d v) σ := Eq.trans rfl rfl
@[simp] theorem aop1_load (t x) : aop1 P G (.load t x) d a σ K Q = aload P t (ev G a x) σ fun v => K (put a d v) σ := Eq.trans rfl rfl
@[simp] theorem aop1_store (t p x) : aop1 P G (.store t p x) d a σ K Q = astore P t (ev G a p) (ev G a x) σ fun σ' => K (put a d (.tuple [])) σ' := Eq.trans rfl rfl
@[simp] theorem aop1_alloc (t) : aop1 P G (.alloc t) d a σ K Q = bindO (zeroOf P t) fun z => z.known = true ∧ K (put a d (.ptr σ.no 0)) (σ.newO z.cells) := Eq.trans rfl rfl
@[simp] theorem aop1_box (t x) : aop1 P G (.box t x) d a σ K Q = ((ev G a x).known = true ∧ K (put a d (.ptr σ.no 0)) (σ.newO (ev G a x).cells)) := Eq.trans rfl rfl
@[simp] theorem aop1_make (t l c) : aop1 P G (.makeSlice t l c) d a σ K Q = amake P t (ev G a l) (ev G a c) σ fun v σ' => K (put a d v) σ' := Eq.trans rfl rfl
@[simp] theorem aop1_append (t u s x) : aop1 P G (.call ⟨.builtin .append,#[s,x],#[t,u]⟩) d a σ K Q = aappend P t u (ev G a s) (ev G a x) σ fun v σ' => K (put a d v) σ' := Eq.trans rfl rfl
@[simp] theorem aop1_copy (t u s x) : aop1 P G (.call ⟨.builtin .copy,#[s,x],#[t,u]⟩) d a σ K Q = acopy P t (ev G a s) (ev G a x) σ fun v σ' => K (put a d v) σ' := Eq.trans rfl rfl
@[simp] theorem aop1_call (f args ts) : aop1 P G (.call ⟨.value f,args,ts⟩) d a σ K Q =
  acall P G (ev G a f) (args.toList.map (ev G a)) σ (fun v σ'=>K (put a d v) σ') (fun v σ'=>Q (.panic v) anyFrame σ'):=Eq.trans rfl rfl
def panicV (v : AV) (K : AV → Prop) : Prop := match v with
 | .iface t v=>K (.iface t v)
 | _=>False
@[simp] theorem panicV_iface (t v) (K : AV → Prop) : panicV (.iface t v) K = K (.iface t v) := Eq.trans rfl rfl
@[congr] theorem panicV_congr {dd : Prop} (_ : blk = dd) {v v' : AV} {K : AV → Prop} (h : v = v') : panicV v K = panicV v' K := by rw [h]
@[simp] theorem aop1_panic (x) : aop1 P G (.panic x) d a σ K Q = panicV (ev G a x) fun v => Q (.panic v) anyFrame σ := by
 simp only [aop1,nextOf,isPure,aeff,panicV]
 cases ev G a x <;> simp
end
end Go.Abs
namespace Go.Abs
open Go
section
variable {P : Program} {K : AV → Prop}
theorem List.beq_dec (x y : List UInt8) : (x == y) = decide (x = y) := by
 by_cases h : x = y <;> simp [h]
@[congr] theorem abin_congr {dd : Prop} (_ : blk = dd) {op t} {x x' y y' : AV} (h : x = x') (h2 : y = y') : abin P op t x y K = abin P op t x' y' K := by rw [h,h2]
@[simp] theorem abin_add (t k) (m n : Int) : abin P .add t (.int k m) (.int k n) K = K (.int k (k.wrap (m + n))) := by simp [abin,intBin]
@[simp] theorem abin_sub (t k) (m n : Int) : abin P .sub t (.int k m) (.int k n) K = K (.int k (k.wrap (m - n))) := by simp [abin,intBin]
@[simp] theorem abin_mul (t k) (m n : Int) : abin P .mul t (.int k m) (.int k n) K = K (.int k (k.wrap (m * n))) := by simp [abin,intBin]
@[simp] theorem abin_eql (t k) (m n : Int) : abin P .eql t (.int k m) (.int k n) K = K (.bool (decide (m = n))) := by simp [abin,intBin]
@[simp] theorem abin_neq (t k) (m n : Int) : abin P .neq t (.int k m) (.int k n) K = K (.bool (!decide (m = n))) := by simp [abin,intBin]
@[simp] theorem abin_lss (t k) (m n : Int) : abin P .lss t (.int k m) (.int k n) K = K (.bool (decide (m < n))) := by simp [abin,intBin]
@[simp] theorem abin_leq (t k) (m n : Int) : abin P .leq t (.int k m) (.int k n) K = K (.bool (decide (m ≤ n))) := by simp [abin,intBin]
@[simp] theorem abin_gtr (t k) (m n : Int) : abin P .gtr t (.int k m) (.int k n) K = K (.bool (decide (n < m))) := by simp [abin,intBin]
@[simp] theorem abin_geq (t k) (m n : Int) : abin P .geq t (.int k m) (.int k n) K = K (.bool (decide (n ≤ m))) := by simp [abin,intBin]
@[simp] theorem abin_eql_str (t) (x y) : abin P .eql t (.str x) (.str y) K = K (.bool (decide (x = y))) := by simp only [abin,strCmp,List.beq_dec]
@[simp] theorem abin_neq_str (t) (x y) : abin P .neq t (.str x) (.str y) K = K (.bool (!decide (x = y))) := by simp only [abin,strCmp,List.beq_dec]
@[simp] theorem aeq1_int (k0 k a b) : aeq1 (.int k0) (.int k a) (.int k b) = some (decide (a = b)) := by simp only [aeq1,if_true]; rfl
@[simp] theorem aeq1_str (a b) : aeq1 .string (.str a) (.str b) = some (decide (a = b)) := by simp only [aeq1,Bool.beq_eq_decide_eq]
@[simp] theorem aeq1_if (ms t v) : aeq1 (.interface ms) (.iface t v) .nilif = some false := Eq.trans rfl rfl
@[simp] theorem aeq1_fi (ms t v) : aeq1 (.interface ms) .nilif (.iface t v) = some false := Eq.trans rfl rfl
@[simp] theorem aeq1_nn (ms) : aeq1 (.interface ms) .nilif .nilif = if ms.isEmpty then some true else none := Eq.trans rfl rfl
@[simp] theorem aeq1_bool (a b) : aeq1 .bool (.bool a) (.bool b) = some (decide (a = b)) := by simp only [aeq1,Bool.beq_eq_decide_eq]
@[simp] theorem aeq1_sl_nil (e a b c) : aeq1 (.slice e) (.sl a b c) .nilsl = some false := rfl
@[simp] theorem aeq1_slm_nil (e a b c d) : aeq1 (.slice e) (.slm a b c d) .nilsl = some false := rfl
@[simp] theorem aeq1_nil_nil (e) : aeq1 (.slice e) .nilsl .nilsl = some true := rfl
@[simp] theorem abin_eql_agg (t) (x y) : abin P .eql t (.agg x) (.agg y) K = bindO (aeq P t (.agg x) (.agg y)) fun r => K (.bool r) := by simp [abin,bindO]
@[simp] theorem abin_neq_agg (t) (x y) : abin P .neq t (.agg x) (.agg y) K = bindO (aeq P t (.agg x) (.agg y)) fun r => K (.bool !r) := by simp [abin,bindO]
@[simp] theorem abin_eql_nil (t) (y) : abin P .eql t y .nilsl K = bindO (aeq P t y .nilsl) fun r => K (.bool r) := by cases y <;> simp [abin,bindO]
@[simp] theorem abin_neq_nil (t) (y) : abin P .neq t y .nilsl K = bindO (aeq P t y .nilsl) fun r => K (.bool !r) := by cases y <;> simp [abin,bindO]
@[simp] theorem abin_eql_bool (t) (x y) : abin P .eql t (.bool x) (.bool y) K = bindO (aeq P t (.bool x) (.bool y)) fun r => K (.bool r) := by simp [abin,bindO]
@[congr] theorem aun_congr {dd : Prop} (_ : blk = dd) {op} {x x' : AV} (h : x = x') : aun op x K = aun op x' K := by rw [h]
@[simp] theorem aun_not (b) : aun .not (.bool b) K = K (.bool !b) := Eq.trans rfl rfl
@[simp] theorem aun_xor (k n) : aun .xor (.int k n) K = K (.int k (bits2 k (· ^^^ ·) (if k.signed then -1 else k.max) n)) := Eq.trans rfl rfl
@[simp] theorem aun_neg (k n) : aun .neg (.int k n) K = K (.int k (k.wrap (-n))) := Eq.trans rfl rfl
@[simp] theorem partOf_true (n off cs) : partOf true n off cs K = (off + n ≤ cs.length ∧ K (.agg ((cs.drop off).take n))) := Eq.trans rfl rfl
@[simp] theorem partOf_false (n off cs) : partOf false n off cs K = bindO cs[off]? K := Eq.trans rfl rfl
@[congr] theorem partOf_congr {dd : Prop} (_ : blk = dd) {g g' n off off'} {cs cs' : List AV} (h : cs = cs') (h2 : off = off') (h3 : g = g') : partOf g n off cs K = partOf g' n off' cs' K := by rw [h,h2,h3]
@[congr] theorem afieldAddr_congr {dd : Prop} (_ : blk = dd) {t f} {x x' : AV} (h : x = x') : afieldAddr P t x f K = afieldAddr P t x' f K := by rw [h]
@[simp] theorem afieldAddr_ptr (t f o off) : afieldAddr P t (.ptr o off) f K = bindO (fiOf P t f) fun i => K (.ptr o (off + i.off)) := Eq.trans rfl rfl
@[simp] theorem afieldAddr_pv (t f φ cs) : afieldAddr P t (.pv φ (.agg cs)) f K = bindO (fiOf P t f) fun i => partOf i.agg i.size i.off cs fun v => fits i.agg i.size v ∧ K (.pv φ v) := Eq.trans rfl rfl
@[simp] theorem fits_true (n v) : fits true n v = (v.cells.length = n) := Eq.trans rfl rfl
@[simp] theorem fits_false (n v) : fits false n v = (v.cells = [v]) := Eq.trans rfl rfl
@[congr] theorem afield_congr {dd : Prop} (_ : blk = dd) {t f} {x x' : AV} (h : x = x') : afield P t x f K = afield P t x' f K := by rw [h]
@[simp] theorem afield_agg (t f cs) : afield P t (.agg cs) f K = bindO (fiOf P t f) fun i => partOf i.agg i.size i.off cs K := Eq.trans rfl rfl
@[congr] theorem aindexAddr_congr {dd : Prop} (_ : blk = dd) {t} {x x' i i' : AV} (h : x = x') (h2 : i = i') : aindexAddr P t x i K = aindexAddr P t x' i' K := by rw [h,h2]
@[simp] theorem aindexAddr_sl (t φ sz xs k n) : aindexAddr P t (.sl φ sz xs) (.int k n) K = (elOf P t = some sz ∧ 0 ≤ n ∧ bindO xs[n.toNat]? fun v => K (.pv φ v)) := Eq.trans rfl rfl
@[simp] theorem aindexAddr_slm (t o off sz len k n) : aindexAddr P t (.slm o off sz len) (.int k n) K = (elOf P t = some sz ∧ 0 ≤ n ∧ n < len ∧ K (.ptr o (off + n.toNat * sz))) := Eq.trans rfl rfl
@[congr] theorem aindex_congr {dd : Prop} (_ : blk = dd) {t} {x x' i i' : AV} (h : x = x') (h2 : i = i') : aindex P t x i K = aindex P t x' i' K := by rw [h,h2]
@[simp] theorem aindex_str (t s k n) : aindex P t (.str s) (.int k n) K = (isStr P t = true ∧ 0 ≤ n ∧ bindO s[n.toNat]? fun b => K (.int .u8 b.toNat)) := Eq.trans rfl rfl
@[congr] theorem alen_congr {dd : Prop} (_ : blk = dd) {t} {x x' : AV} (h : x = x') : alen P t x K = alen P t x' K := by rw [h]
@[simp] theorem alen_str (t s) : alen P t (.str s) K = (isStr P t = true ∧ K (.int .i64 s.length)) := Eq.trans rfl rfl
@[simp] theorem alen_nilsl (t) : alen P t .nilsl K = ((elOf P t).isSome = true ∧ K (.int .i64 0)) := Eq.trans rfl rfl
@[simp] theorem alen_sl (t φ sz xs) : alen P t (.sl φ sz xs) K = ((elOf P t).isSome = true ∧ K (.int .i64 xs.length)) := Eq.trans rfl rfl
@[simp] theorem alen_slm (t o off sz len) : alen P t (.slm o off sz len) K = ((elOf P t).isSome = true ∧ K (.int .i64 len)) := Eq.trans rfl rfl
variable {a : Operand → AV}
def fillS1 (P : Program) (t : TypeId) (i : Nat) (v : AV) (cs : List AV) (K : List AV → Prop) : Prop :=
 bindO (fiOf P t i) fun f=>v.known = true ∧ v.cells.length = f.size ∧ f.off + f.size ≤ cs.length ∧ K (splice cs f.off v.cells)
@[congr] theorem fillS1_congr {dd : Prop} (_ : blk = dd) {t i} {v v' : AV} {cs cs'} {K : List AV → Prop} (h : v = v') (h2 : cs = cs') : fillS1 P t i v cs K = fillS1 P t i v' cs' K := by rw [h,h2]
@[simp] theorem fillS1_eq (t i v cs) (K : List AV → Prop) : fillS1 P t i v cs K = bindO (fiOf P t i) fun f => v.known = true ∧ v.cells.length = f.size ∧ f.off + f.size ≤ cs.length ∧ K (splice cs f.off v.cells) := Eq.trans rfl rfl
@[congr] theorem fillS_congr {dd : Prop} (_ : blk = dd) {t} {a a' : Operand → AV} {l} {cs cs'} {K : List AV → Prop} (h2 : cs = cs') (h : a = a') : fillS P t a l cs K = fillS P t a' l cs' K := by rw [h,h2]
@[simp] theorem fillS_nil (t cs) (K : List AV → Prop) : fillS P t a [] cs K = K cs := Eq.trans rfl rfl
@[simp] theorem fillS_cons (t i x r cs) (K : List AV → Prop) : fillS P t a ((i,x) :: r) cs K = fillS1 P t i (a x) cs fun cs => fillS P t a r cs K := Eq.trans rfl rfl
@[congr] theorem fillA_congr {dd : Prop} (_ : blk = dd) {n sz} {a a' : Operand → AV} {l} {cs cs'} {K : List AV → Prop} (h2 : cs = cs') (h : a = a') : fillA n sz a l cs K = fillA n sz a' l cs' K := by rw [h,h2]
@[simp] theorem fillA_nil (n sz cs) (K : List AV → Prop) : fillA n sz a [] cs K = K cs := Eq.trans rfl rfl
@[simp] theorem fillA_cons (n sz i x r cs) (K : List AV → Prop) : fillA n sz a ((i,x) :: r) cs K = (i < n ∧ (a x).known = true ∧ (a x).cells.length = sz ∧ fillA n sz a r (cs.set i (a x)) K) := Eq.trans rfl rfl
@[congr] theorem abuild_congr {dd : Prop} (_ : blk = dd) {t} {a a' : Operand → AV} {l l'} (h : a = a') (h2 : l = l') : abuild P t a l K = abuild P t a' l' K := by rw [h,h2]
@[simp] theorem abuild_eq (t l) : abuild P t a l K = ((isStruct P t = true ∧ sized P t = true) ∧ bindO (zeroOf P t) fun z => z.known = true ∧ fillS P t a l z.cells fun cs => K (.agg cs)) := Eq.trans rfl rfl
@[congr] theorem abuildSlice_congr {dd : Prop} (_ : blk = dd) {t n} {a a' : Operand → AV} {l l'} (h : a = a') (h2 : l = l') : abuildSlice P t n a l K = abuildSlice P t n a' l' K := by rw [h,h2]
@[simp] theorem abuildSlice_eq (t n l) : abuildSlice P t n a l K = bindO (elOf P t) fun sz => bindO (elZero P t) fun z => z.cells.length = sz ∧ 0 < sz ∧ n * sz ≤ 2 ^ 24 ∧ fillA n sz a l (List.replicate n z) fun xs => K (.sl (.stat true) sz xs) := by
 simp [abuildSlice,bindO]
@[congr] theorem abuildFam_congr {dd : Prop} (_ : blk = dd) {t n} {a a' : Operand → AV} {l l'} {σ σ' : AS} {K : AV → AS → Prop} (h : a = a') (h2 : l = l') (h3 : σ = σ') : abuildFam P t n a l σ K = abuildFam P t n a' l' σ' K := by rw [h,h2,h3]
@[simp] theorem abuildFam_eq (t n l) (σ : AS) (K : AV → AS → Prop) : abuildFam P t n a l σ K = bindO (elOf P t) fun sz => bindO (elZero P t) fun z => z.known = true ∧ z.cells.length = sz ∧ 0 < sz ∧ n * sz ≤ 2 ^ 24 ∧ fillA n sz a l (List.replicate n z) fun xs => K (.sl (.fam σ.nf true) sz xs) σ.newF := by
 simp [abuildFam,bindO]
@[congr] theorem bounds_congr {dd : Prop} (_ : blk = dd) {a a' : Operand → AV} {n n' lo hi mx} {K : Nat → Nat → Nat → Prop} (h : a = a') (h2 : n = n') : bounds a n lo hi mx K = bounds a' n' lo hi mx K := by rw [h,h2]
@[simp] theorem bounds_eq (n lo hi mx) (K : Nat → Nat → Nat → Prop) : bounds a n lo hi mx K = bindO (optInt a 0 lo) fun l => bindO (optInt a n hi) fun h => bindO (optInt a n mx) fun m =>
  0 ≤ l ∧ l ≤ h ∧ h ≤ m ∧ m ≤ n ∧ (mx.isSome → hi.isSome) ∧ K l.toNat h.toNat m.toNat:=by simp [bounds,bindO]
def intV (v : AV) : Option Int := match v with
 | .int _ n=>some n
 | _=>none
@[simp] theorem intV_int (k n) : intV (.int k n) = some n := Eq.trans rfl rfl
@[simp] theorem optInt_none (d) : optInt a d none = some d := Eq.trans rfl rfl
@[simp] theorem optInt_some1 (d x) : optInt a d (some x) = intV (a x) := Eq.trans rfl rfl
@[congr] theorem aslice_congr {dd : Prop} (_ : blk = dd) {a a' : Operand → AV} {t x x' lo hi mx} (h : a = a') (h2 : x = x') : aslice P a t x lo hi mx K = aslice P a' t x' lo hi mx K := by rw [h,h2]
@[simp] theorem aslice_str (t s lo hi mx) : aslice P a t (.str s) lo hi mx K = (isStr P t = true ∧ mx = none ∧ bounds a s.length lo hi none fun l h _ => K (.str ((s.take h).drop l))) := Eq.trans rfl rfl
@[simp] theorem aslice_nil (t lo hi mx) : aslice P a t .nilsl lo hi mx K = ((elOf P t).isSome = true ∧ bounds a 0 lo hi mx fun _ _ _ => K .nilsl) := Eq.trans rfl rfl
@[simp] theorem aslice_sl (t φ sz xs lo hi mx) : aslice P a t (.sl φ sz xs) lo hi mx K = (elOf P t = some sz ∧ bounds a xs.length lo hi mx fun l h m => K (.sl (cut φ (if mx.isSome then decide (m = h) else φ.full && decide (h = xs.length))) sz ((xs.take h).drop l))) := Eq.trans rfl rfl
@[simp] theorem aslice_slm (t o off sz len lo hi mx) : aslice P a t (.slm o off sz len) lo hi mx K = (elOf P t = some sz ∧ mx = none ∧ bounds a len lo hi none fun l h _ => (l < len ∨ l = 0) ∧ K (.slm o (off + l * sz) sz (h - l))) := Eq.trans rfl rfl
@[simp] theorem cut_stat (b f) : cut (.stat b) f = .stat f := Eq.trans rfl rfl
@[simp] theorem cut_fam (g b f) : cut (.fam g b) f = .fam g f := Eq.trans rfl rfl
@[simp] theorem full_stat (f) : Own.full (.stat f) = f := Eq.trans rfl rfl
@[simp] theorem full_fam (g f) : Own.full (.fam g f) = f := Eq.trans rfl rfl
@[simp] theorem readable_stat (F f) : Readable F (.stat f) = True := Eq.trans rfl rfl
@[simp] theorem readable_fam (F g f) : Readable F (.fam g f) = (F g = .alive) := Eq.trans rfl rfl
@[simp] theorem cells_agg (l) : (AV.agg l).cells = l := Eq.trans rfl rfl
@[simp] theorem cells_int (k n) : (AV.int k n).cells = [.int k n] := Eq.trans rfl rfl
@[simp] theorem cells_bool (b) : (AV.bool b).cells = [.bool b] := Eq.trans rfl rfl
@[simp] theorem cells_str (b) : (AV.str b).cells = [.str b] := Eq.trans rfl rfl
@[simp] theorem cells_nilp : AV.nilp.cells = [.nilp] := Eq.trans rfl rfl
@[simp] theorem cells_nilsl : AV.nilsl.cells = [.nilsl] := Eq.trans rfl rfl
@[simp] theorem cells_ptr (o f) : (AV.ptr o f).cells = [.ptr o f] := Eq.trans rfl rfl
@[simp] theorem cells_sl (o f x) : (AV.sl o f x).cells = [.sl o f x] := Eq.trans rfl rfl
@[simp] theorem cells_slm (o f x y) : (AV.slm o f x y).cells = [.slm o f x y] := Eq.trans rfl rfl
@[simp] theorem cells_iface (t v) : (AV.iface t v).cells = [.iface t v] := Eq.trans rfl rfl
@[simp] theorem cells_fn (t v c) : (AV.fn t v c).cells = [.fn t v c] := Eq.trans rfl rfl
@[simp] theorem cells_nilif : AV.nilif.cells = [.nilif] := Eq.trans rfl rfl
@[simp] theorem cells_nilfn : AV.nilfn.cells = [.nilfn] := Eq.trans rfl rfl
@[simp] theorem cells_pv (φ v) : (AV.pv φ v).cells = [.pv φ v] := Eq.trans rfl rfl
variable {σ : AS}
@[simp] theorem newO_objs (cs) : (σ.newO cs).objs = upd σ.objs σ.no (some cs) := Eq.trans rfl rfl
@[simp] theorem newO_no (cs) : (σ.newO cs).no = σ.no + 1 := Eq.trans rfl rfl
@[simp] theorem newO_F (cs) : (σ.newO cs).F = σ.F := Eq.trans rfl rfl
@[simp] theorem newO_nf (cs) : (σ.newO cs).nf = σ.nf := Eq.trans rfl rfl
@[simp] theorem setO_objs (o cs) : (σ.setO o cs).objs = upd σ.objs o (some cs) := Eq.trans rfl rfl
@[simp] theorem setO_no (o cs) : (σ.setO o cs).no = σ.no := Eq.trans rfl rfl
@[simp] theorem setO_F (o cs) : (σ.setO o cs).F = σ.F := Eq.trans rfl rfl
@[simp] theorem setO_nf (o cs) : (σ.setO o cs).nf = σ.nf := Eq.trans rfl rfl
@[simp] theorem newF_objs : σ.newF.objs = σ.objs := Eq.trans rfl rfl
@[simp] theorem newF_no : σ.newF.no = σ.no := Eq.trans rfl rfl
@[simp] theorem newF_F : σ.newF.F = upd σ.F σ.nf .alive := Eq.trans rfl rfl
@[simp] theorem newF_nf : σ.newF.nf = σ.nf + 1 := Eq.trans rfl rfl
@[simp] theorem setF_objs (f s) : (σ.setF f s).objs = σ.objs := Eq.trans rfl rfl
@[simp] theorem setF_no (f s) : (σ.setF f s).no = σ.no := Eq.trans rfl rfl
@[simp] theorem setF_F (f s) : (σ.setF f s).F = upd σ.F f s := Eq.trans rfl rfl
@[simp] theorem setF_nf (f s) : (σ.setF f s).nf = σ.nf := Eq.trans rfl rfl
@[congr] theorem aload_congr {dd : Prop} (_ : blk = dd) {t} {p p' : AV} {σ σ' : AS} (h : p = p') (h2 : σ = σ') : aload P t p σ K = aload P t p' σ' K := by rw [h,h2]
@[simp] theorem aload_ptr (t o off) : aload P t (.ptr o off) σ K = bindO (σ.objs o) fun cs => bindO (szOf P t) fun n => partOf (aggOf P t) n off cs K := by simp [aload,bindO]
def whole (g : Bool) (n : Nat) (v : AV) (K : AV → Prop) : Prop := if g then ∃ cs,v = .agg cs ∧ cs.length = n ∧ K v else v.cells = [v] ∧ K v
@[congr] theorem whole_congr {dd : Prop} (_ : blk = dd) {g g' n} {v v' : AV} (h : v = v') (h2 : g = g') : whole g n v K = whole g' n v' K := by rw [h,h2]
@[simp] theorem whole_agg (n cs) : whole true n (.agg cs) K = (cs.length = n ∧ K (.agg cs)) := by simp [whole]
@[simp] theorem whole_one (n v) : whole false n v K = (v.cells = [v] ∧ K v) := by simp [whole]
@[simp] theorem aload_pv (t φ v) : aload P t (.pv φ v) σ K = (Readable σ.F φ ∧ bindO (szOf P t) fun n => whole (aggOf P t) n v K) := by simp [aload,bindO,whole]
@[congr] theorem astore_congr {dd : Prop} (_ : blk = dd) {t} {p p' v v' : AV} {σ σ' : AS} {K : AS → Prop} (h : p = p') (h1 : v = v') (h2 : σ = σ') : astore P t p v σ K = astore P t p' v' σ' K := by rw [h,h1,h2]
@[simp] theorem astore_ptr (t o off v) (K : AS → Prop) : astore P t (.ptr o off) v σ K = bindO (σ.objs o) fun cs => v.known = true ∧ szOf P t = some v.cells.length ∧ off + v.cells.length ≤ cs.length ∧ (∀ c ∈ v.cells,c.one = true) ∧ K (σ.setO o (splice cs off v.cells)) := Eq.trans rfl rfl
@[simp] theorem astore_pv (t f b u v) (K : AS → Prop) : astore P t (.pv (.fam f b) u) v σ K = (σ.F f ≠ .dead ∧ v.known = true ∧ szOf P t = some v.cells.length ∧ u.cells.length = v.cells.length ∧ (∀ c ∈ v.cells,c.one = true) ∧ K (σ.setF f .spoiled)) := Eq.trans rfl rfl
@[congr] theorem asource_congr {dd : Prop} (_ : blk = dd) {t z sz} {x x' : AV} {F F' : Nat → FSt} {K : List AV → Prop} (h : x = x') (h2 : F = F') : asource P t z sz x F K = asource P t z sz x' F' K := by rw [h,h2]
variable {F : Nat → FSt}
@[simp] theorem asource_nil (t z sz) (K : List AV → Prop) : asource P t z sz .nilsl F K = ((elOf P t).isSome = true ∧ K []) := Eq.trans rfl rfl
@[simp] theorem asource_sl (t z sz φ s ys) (K : List AV → Prop) : asource P t z sz (.sl φ s ys) F K = (elOf P t = some s ∧ s = sz ∧ Readable F φ ∧ K ys) := Eq.trans rfl rfl
@[simp] theorem asource_str (t z sz bs) (K : List AV → Prop) : asource P t z sz (.str bs) F K = (isStr P t = true ∧ sz = 1 ∧ K (bs.map fun b => .int .u8 b.toNat)) := Eq.trans rfl rfl
@[simp] theorem asource_int (t z sz k n) (K : List AV → Prop) : asource P t z sz (.int k n) F K = ((intOf? P t).isSome = true ∧ 0 ≤ n ∧ n < 2 ^ 40 ∧ K (List.replicate n.toNat z)) := Eq.trans rfl rfl
def grown (bs sz : Nat) (s : AV) (ys : List AV) (σ : AS) (K : AV → AS → Prop) : Prop :=
 match s with
 | .nilsl=>ys.length * bs ≤ 2 ^ 47 ∧ (ys = [] → K .nilsl σ) ∧ (ys ≠ [] → K (.sl (.fam σ.nf false) sz ys) σ.newF)
 | .sl (.stat true) s' xs=>s' = sz ∧ (xs.length + ys.length) * bs ≤ 2 ^ 47 ∧ (ys = [] → K (.sl (.stat true) s' xs) σ) ∧ (ys ≠ [] → K (.sl (.fam σ.nf false) sz (xs ++ ys)) σ.newF)
 | .sl (.fam f true) s' xs=>s' = sz ∧ (xs.length + ys.length) * bs ≤ 2 ^ 47 ∧ σ.F f = .alive ∧ (ys = [] → K (.sl (.fam f true) s' xs) σ) ∧ (ys ≠ [] → K (.sl (.fam σ.nf false) sz (xs ++ ys)) σ.newF)
 | .sl (.fam f false) s' xs=>s' = sz ∧ (xs.length + ys.length) * bs ≤ 2 ^ 47 ∧ σ.F f = .alive ∧ K (.sl (.fam σ.nf false) sz (xs ++ ys)) (σ.setF f .dead).newF
 | .sl (.stat false) s' xs=>ys = [] ∧ K (.sl (.stat false) s' xs) σ
 | .slm o off s' len=>s' = sz ∧ off = 0 ∧ (len + ys.length) * bs ≤ 2 ^ 47 ∧ ∃ cs,σ.objs o = some cs ∧ len * sz ≤ cs.length ∧ K (.slm σ.no 0 sz (len + ys.length)) (σ.moveO o (cs.take (len * sz) ++ flat ys))
 | .lit bl=>1 = sz ∧ (bl.length + ys.length) * bs ≤ 2 ^ 47 ∧ ys ≠ [] ∧ K (.sl (.fam σ.nf false) sz (B bl ++ ys)) σ.newF
 | _=>False
@[congr] theorem grown_congr {dd : Prop} (_ : blk = dd) {bs sz} {s s' : AV} {ys ys' : List AV} {σ σ' : AS} {K : AV → AS → Prop} (h : s = s') (h1 : ys = ys') (h2 : σ = σ') : grown bs sz s ys σ K = grown bs sz s' ys' σ' K := by rw [h,h1,h2]
variable {KS : AV → AS → Prop}
@[simp] theorem grown_nil_nil (bs sz) : grown bs sz .nilsl [] σ KS = KS .nilsl σ := by simp [grown]
@[simp] theorem grown_nil_cons (bs sz y ys) : grown bs sz .nilsl (y :: ys) σ KS = ((y :: ys).length * bs ≤ 2 ^ 47 ∧ KS (.sl (.fam σ.nf false) sz (y :: ys)) σ.newF) := by simp [grown]
@[simp] theorem grown_fam (bs sz f s' xs ys) : grown bs sz (.sl (.fam f false) s' xs) ys σ KS = (s' = sz ∧ (xs.length + ys.length) * bs ≤ 2 ^ 47 ∧ σ.F f = .alive ∧ KS (.sl (.fam σ.nf false) sz (xs ++ ys)) (σ.setF f .dead).newF) := Eq.trans rfl rfl
@[simp] theorem grown_full_nil (bs sz f s' xs) : grown bs sz (.sl (.fam f true) s' xs) [] σ KS = (s' = sz ∧ xs.length * bs ≤ 2 ^ 47 ∧ σ.F f = .alive ∧ KS (.sl (.fam f true) s' xs) σ) := by simp [grown]
@[simp] theorem grown_full_cons (bs sz f s' xs y ys) : grown bs sz (.sl (.fam f true) s' xs) (y :: ys) σ KS = (s' = sz ∧ (xs.length + (y :: ys).length) * bs ≤ 2 ^ 47 ∧ σ.F f = .alive ∧ KS (.sl (.fam σ.nf false) sz (xs ++ y :: ys)) σ.newF) := by simp [grown]
@[simp] theorem grown_slm (bs sz o off s' len ys) : grown bs sz (.slm o off s' len) ys σ KS = (s' = sz ∧ off = 0 ∧ (len + ys.length) * bs ≤ 2 ^ 47 ∧ bindO (σ.objs o) fun cs => len * sz ≤ cs.length ∧ KS (.slm σ.no 0 sz (len + ys.length)) (σ.moveO o (cs.take (len * sz) ++ flat ys))) := Eq.trans rfl rfl
@[simp] theorem grown_lit (bs sz bl ys) : grown bs sz (.lit bl) ys σ KS = (1 = sz ∧ (bl.length + ys.length) * bs ≤ 2 ^ 47 ∧ ys ≠ [] ∧ KS (.sl (.fam σ.nf false) sz (B bl ++ ys)) σ.newF) := Eq.trans rfl rfl
@[simp] theorem grown_stat_nil (bs sz s' xs) : grown bs sz (.sl (.stat true) s' xs) [] σ KS = (s' = sz ∧ xs.length * bs ≤ 2 ^ 47 ∧ KS (.sl (.stat true) s' xs) σ) := by simp [grown]
@[simp] theorem grown_stat_cons (bs sz s' xs y ys) : grown bs sz (.sl (.stat true) s' xs) (y :: ys) σ KS = (s' = sz ∧ (xs.length + (y :: ys).length) * bs ≤ 2 ^ 47 ∧ KS (.sl (.fam σ.nf false) sz (xs ++ y :: ys)) σ.newF) := by simp [grown]
@[congr] theorem aappend_congr {dd : Prop} (_ : blk = dd) {t u} {s s' x x' : AV} {σ σ' : AS} {K : AV → AS → Prop} (h : s = s') (h1 : x = x') (h2 : σ = σ') : aappend P t u s x σ K = aappend P t u s' x' σ' K := by rw [h,h1,h2]
@[simp] theorem aappend_eq (t u s x) : aappend P t u s x σ KS = bindO (elOf P t) fun sz => bindO (elBytes P t) fun bs => 0 < bs ∧ bindO (elZero P t) fun z => z.known = true ∧ z.cells.length = sz ∧ 0 < sz ∧
  asource P u z sz x σ.F fun ys=>(∀ y ∈ ys,y.cells.length = sz ∧ ∀ c ∈ y.cells,c.one = true) ∧ grown bs sz s ys σ KS:=by
 simp only [aappend,bindO,grown]
 apply propext
 constructor
 ·rintro ⟨sz,bs,z,h1,h2,h3,h4,h5,h6,h7,h8⟩
  exact ⟨sz,h1,bs,h2,h3,z,h4,h5,h6,h7,h8⟩
 ·rintro ⟨sz,h1,bs,h2,h3,z,h4,h5,h6,h7,h8⟩
  exact ⟨sz,bs,z,h1,h2,h3,h4,h5,h6,h7,h8⟩
def ends (K PK : AV → AS → Prop) : Out → AS → Prop := fun o σ' => match o with
 | .ret v=>K v σ'
 | .panic v=>PK v σ'
@[simp] theorem ends_ret (K PK : AV → AS → Prop) (v σ') : ends K PK (.ret v) σ' = K v σ' := Eq.trans rfl rfl
@[simp] theorem ends_panic (K PK : AV → AS → Prop) (v σ') : ends K PK (.panic v) σ' = PK v σ' := Eq.trans rfl rfl
@[congr] theorem acall_congr {dd : Prop} (_ : blk = dd) {G} {f f' : AV} {l l' : List AV} {σ σ' : AS} {K PK : AV → AS → Prop} (h : f = f') (h1 : l = l') (h2 : σ = σ') : acall P G f l σ K PK = acall P G f' l' σ' K PK := by rw [h,h1,h2]
@[simp] theorem acall_eq (G n first cap l) (K PK : AV → AS → Prop) : acall P G (.fn (.func n) first cap) l σ K PK = (callable P n = true ∧ ACalls P G n (first ++ l ++ cap) σ (ends K PK)) := by
 rfl
@[congr] theorem ends_congr {dd : Prop} (_ : blk = dd) {K PK : AV → AS → Prop} {o o' : Out} {σ σ' : AS} (h : o = o') (h1 : σ = σ') : ends K PK o σ = ends K PK o' σ' := by rw [h,h1]
@[congr] theorem ares_congr {dd : Prop} (_ : blk = dd) {l} {a a' : Nat → AV} {σ σ' : AS} {K : List AV → Prop} (h : a = a') (h2 : σ = σ') : ares P l a σ K = ares P l a' σ' K := by rw [h,h2]
@[simp] theorem ares_nil (a σ) (K : List AV → Prop) : ares P [] a σ K = K [] := Eq.trans rfl rfl
@[simp] theorem ares_tmp (t r a σ) (K : List AV → Prop) : ares P (.tmp t :: r) a σ K = ares P r a σ fun vs => K (a t :: vs) := Eq.trans rfl rfl
@[simp] theorem ares_cell (t ty r a σ) (K : List AV → Prop) : ares P (.cell t ty :: r) a σ K = aload P ty (a t) σ fun v => ares P r a σ fun vs => K (v :: vs) := Eq.trans rfl rfl
@[congr] theorem afin_congr {dd : Prop} (_ : blk = dd) {l} {R : Out → AS → Prop} {e : AExit} {a a' : Nat → AV} {σ σ' : AS} (h : a = a') (h2 : σ = σ') : afin P l R e a σ = afin P l R e a' σ' := by rw [h,h2]
@[simp] theorem afin_normal (l) (R : Out → AS → Prop) (a σ) : afin P l R .normal a σ = ares P l a σ fun vs => R (.ret (tup vs)) σ := Eq.trans rfl rfl
@[simp] theorem afin_ret (l) (R : Out → AS → Prop) (a σ) : afin P l R .ret a σ = ares P l a σ fun vs => R (.ret (tup vs)) σ := Eq.trans rfl rfl
@[simp] theorem afin_panic (l) (R : Out → AS → Prop) (v a σ) : afin P l R (.panic v) a σ = R (.panic v) σ := Eq.trans rfl rfl
@[simp] theorem tup_one (v) : tup [v] = v := Eq.trans rfl rfl
@[simp] theorem tup_nil : tup [] = .tuple [] := Eq.trans rfl rfl
@[simp] theorem tup_two (v w l) : tup (v :: w :: l) = .tuple (v :: w :: l) := Eq.trans rfl rfl
@[simp] theorem known_bool (b) : (AV.bool b).known = true := Eq.trans rfl rfl
@[simp] theorem one_bool (b) : (AV.bool b).one = true := Eq.trans rfl rfl
@[simp] theorem known_int (k n) : (AV.int k n).known = true := Eq.trans rfl rfl
@[simp] theorem one_int (k n) : (AV.int k n).one = true := Eq.trans rfl rfl
@[simp] theorem known_str (s) : (AV.str s).known = true := Eq.trans rfl rfl
@[simp] theorem one_str (s) : (AV.str s).one = true := Eq.trans rfl rfl
@[simp] theorem known_nilp : AV.nilp.known = true := Eq.trans rfl rfl
@[simp] theorem one_nilp : AV.nilp.one = true := Eq.trans rfl rfl
@[simp] theorem known_ptr (o i) : (AV.ptr o i).known = true := Eq.trans rfl rfl
@[simp] theorem one_ptr (o i) : (AV.ptr o i).one = true := Eq.trans rfl rfl
@[simp] theorem known_pv (φ v) : (AV.pv φ v).known = true := Eq.trans rfl rfl
@[simp] theorem one_pv (φ v) : (AV.pv φ v).one = true := Eq.trans rfl rfl
@[simp] theorem known_nilsl : AV.nilsl.known = true := Eq.trans rfl rfl
@[simp] theorem one_nilsl : AV.nilsl.one = true := Eq.trans rfl rfl
@[simp] theorem known_sl (φ z l) : (AV.sl φ z l).known = true := Eq.trans rfl rfl
@[simp] theorem one_sl (φ z l) : (AV.sl φ z l).one = true := Eq.trans rfl rfl
@[simp] theorem known_slm (o i z l) : (AV.slm o i z l).known = true := Eq.trans rfl rfl
@[simp] theorem one_slm (o i z l) : (AV.slm o i z l).one = true := Eq.trans rfl rfl
@[simp] theorem known_fn (f l c) : (AV.fn f l c).known = true := Eq.trans rfl rfl
@[simp] theorem one_fn (f l c) : (AV.fn f l c).one = true := Eq.trans rfl rfl
@[simp] theorem known_nilfn : AV.nilfn.known = true := Eq.trans rfl rfl
@[simp] theorem one_nilfn : AV.nilfn.one = true := Eq.trans rfl rfl
@[simp] theorem known_iface (t v) : (AV.iface t v).known = true := Eq.trans rfl rfl
@[simp] theorem one_iface (t v) : (AV.iface t v).one = true := Eq.trans rfl rfl
@[simp] theorem known_nilif : AV.nilif.known = true := Eq.trans rfl rfl
@[simp] theorem one_nilif : AV.nilif.one = true := Eq.trans rfl rfl
@[simp] theorem known_agg (l) : (AV.agg l).known = true := Eq.trans rfl rfl
@[simp] theorem one_agg (l) : (AV.agg l).one = false := Eq.trans rfl rfl
@[simp] theorem known_tuple (l) : (AV.tuple l).known = true := Eq.trans rfl rfl
@[simp] theorem one_tuple (l) : (AV.tuple l).one = false := Eq.trans rfl rfl
theorem wrap_i64 {n : Int} (h : -2 ^ 63 ≤ n) (h2 : n < 2 ^ 63) : IntKind.wrap .i64 n = n := by
 unfold IntKind.wrap
 simp [IntKind.bits,IntKind.signed]
 omega
end
end Go.Abs
namespace Go.Abs
open Go
mutual
def frz (f : Nat) : AV → AV
 | .sl φ sz xs=>match φ with
  | .fam g b=>if g = f then .sl (.stat b) sz (frzL f xs) else .sl (.fam g b) sz (frzL f xs)
  | .stat b=>.sl (.stat b) sz (frzL f xs)
 | .agg cs=>.agg (frzL f cs)
 | .tuple vs=>.tuple (frzL f vs)
 | .iface t v=>.iface t (frz f v)
 | v=>v
def frzL (f : Nat) : List AV → List AV
 | []=>[]
 | v :: vs=>frz f v :: frzL f vs
end
theorem frzL_eq (f : Nat) : ∀ l,frzL f l = l.map (frz f)
 | []=>by simp [frzL]
 | v :: l=>by simp [frzL,frzL_eq f l]
@[simp] theorem frz_sl_fam (f g b sz xs) : frz f (.sl (.fam g b) sz xs) = .sl (if g = f then .stat b else .fam g b) sz (xs.map (frz f)) := by
 by_cases h : g = f <;> simp [frz,frzL_eq,h]
@[simp] theorem frz_sl_stat (f b sz xs) : frz f (.sl (.stat b) sz xs) = .sl (.stat b) sz (xs.map (frz f)) := by simp [frz,frzL_eq]
@[simp] theorem frz_agg (f cs) : frz f (.agg cs) = .agg (cs.map (frz f)) := by simp [frz,frzL_eq]
@[simp] theorem frz_tuple (f cs) : frz f (.tuple cs) = .tuple (cs.map (frz f)) := by simp [frz,frzL_eq]
@[simp] theorem frz_iface (f t v) : frz f (.iface t v) = .iface t (frz f v) := by simp [frz]
@[simp] theorem frz_int (f k n) : frz f (.int k n) = .int k n := by simp [frz]
@[simp] theorem frz_bool (f b) : frz f (.bool b) = .bool b := by simp [frz]
@[simp] theorem frz_str (f b) : frz f (.str b) = .str b := by simp [frz]
@[simp] theorem frz_nilsl (f) : frz f .nilsl = .nilsl := by simp [frz]
@[simp] theorem frz_nilp (f) : frz f .nilp = .nilp := by simp [frz]
@[simp] theorem frz_nilif (f) : frz f .nilif = .nilif := by simp [frz]
@[simp] theorem frz_ptr (f o i) : frz f (.ptr o i) = .ptr o i := by simp [frz]
theorem frz_cells_length (f : Nat) (v : AV) : (frz f v).cells.length = v.cells.length := by
 cases v with
 | agg cs=>simp [frz,frzL_eq]
 | sl φ sz xs=>cases φ <;> simp [frz] ; split <;> simp
 | _=>simp [frz,AV.cells]
theorem frz_cells (f : Nat) (v : AV) : (frz f v).cells = v.cells.map (frz f) := by
 cases v with
 | agg cs=>simp [frz,frzL_eq]
 | sl φ sz xs=>cases φ <;> simp [frz] ; split <;> simp
 | _=>simp [frz,AV.cells]
theorem flat_frz (f : Nat) (l : List AV) : flat (l.map (frz f)) = (flat l).map (frz f) := by
 simp [flat,List.flatMap_map,List.map_flatMap,frz_cells]
open Classical in
noncomputable def Mp.frz (M : Mp) (f : Nat) : Mp := { M with role := fun B => if M.role B = some (.fam f) then some .stat else M.role B }
def frzF (F : Nat → FSt) (f : Nat) : Nat → FSt := upd F f .dead
theorem ext_frz {M : Mp} {F : Nat → FSt} {w : World} {f : Nat} (h : F f = .alive) : Ext M F w (M.frz f) (frzF F f) w where
 io:=.refl _
 no:=Nat.le_refl _
 nf:=Nat.le_refl _
 obj _ _:=rfl
 dead g _ hd:=by simp only [frzF,upd_at]; split <;> simp_all
 spoil g _ hs:=by simp only [frzF,upd_at]; split <;> simp_all
 size:=Nat.le_refl _
 shape _ _ _ _ h:=.same h rfl
 stat B _ hB:=⟨by simp [Mp.frz,hB],.inl rfl⟩
 free B _ hB:=⟨by simp [Mp.frz,hB],rfl⟩
 famr B g _ hB hd:=by
  have hg : g ≠ f:=by intro e; subst e; simp [frzF] at hd
  exact (if_neg (by rw [hB]; simpa using hg)).trans hB
 famc _ _ _ _ _:=rfl
theorem VR.frz {M : Mp} {F : Nat → FSt} {w : World} {f : Nat} (ha : F f = .alive) {v : AV} {c : Value} (h : VR M F w v c) : VR (M.frz f) (frzF F f) w (frz f v) c := by
 have E:=ext_frz (M:=M) (w:=w) ha
 induction h with
 | slz b sz a=>rw [frz_sl_stat]; exact .slz b sz a
 | sl φ sz xs B off cap cs hcap hlit hsz hm hc hv ih =>
  have hrd : Readable (frzF F f) φ → Readable F φ:=fun h=>(hm.readable E h).1
  have hl : (xs.map (Go.Abs.frz f)).length = xs.length:=by simp
  have key : ∀ φ' : Own,φ'.full = φ.full → Mem (M.frz f) (frzF F f) w φ' B off (cap * sz) → (Readable (frzF F f) φ' → Readable F φ) →
    VR (M.frz f) (frzF F f) w (.sl φ' sz (xs.map (Go.Abs.frz f))) (.slice (some ⟨B,off,none⟩) xs.length cap):=by
   intro φ' hfull hm' hr'
   have:=VR.sl (M:=M.frz f) (F:=frzF F f) (w:=w) φ' sz (xs.map (Go.Abs.frz f)) B off cap cs (by simpa using hcap) (fun h=>by rw [hl]; exact hlit (by rw [← hfull]; exact h))
    (fun x hx=>by simp at hx; obtain ⟨y,hy,rfl⟩:=hx; rw [frz_cells_length]; exact hsz y hy) hm' (fun hr j hj=>hc (hr' hr) j (by rw [flat_frz] at hj; simpa using hj))
    (fun hr j hj=>by
     have hj' : j < (flat xs).length:=by rw [flat_frz] at hj; simpa using hj
     have:=ih (hr' hr) j hj'
     simp only [flat_frz,List.getElem_map]
     exact this)
   rw [hl] at this
   exact this
  cases φ with
  | stat b=>rw [frz_sl_stat]; exact key _ rfl (hm.mono E) hrd
  | fam g b =>
   rw [frz_sl_fam]
   by_cases hg : g = f
   ·subst hg
    rw [if_pos rfl]
    refine key _ rfl ?_ (fun _=>ha)
    refine ⟨false,?_⟩
    show (M.frz g).role B = some .stat
    simp [Mp.frz,(hm.2 (by rw [ha]; simp)).1]
   ·rw [if_neg hg]; exact key _ rfl (hm.mono E) hrd
 | agg cs A hA va ih=>rw [frz_agg]; exact .agg _ _ (by simpa using hA) (fun j h h'=>by simpa using ih j (by simpa using h) h')
 | tuple cs A hA va ih=>rw [frz_tuple]; exact .tuple _ _ (by simpa using hA) (fun j h h'=>by simpa using ih j (by simpa using h) h')
 | iface t v c h ih=>rw [frz_iface]; exact .iface t _ _ ih
 | undef c=>simpa [Go.Abs.frz] using VR.undef c
 | bool b=>simpa using VR.bool b
 | int k n=>simpa using VR.int k n
 | str s=>simpa using VR.str s
 | nilp=>simpa using VR.nilp
 | nilsl=>simpa using VR.nilsl
 | nilfn=>simpa [Go.Abs.frz] using VR.nilfn
 | nilif=>simpa using VR.nilif
 | ptr o off h=>simpa using (VR.ptr (M:=M) (F:=F) (w:=w) o off h).mono E
 | pv φ v B off cs hm hc hv _=>simpa [Go.Abs.frz] using (VR.pv φ v B off cs hm hc hv).mono E
 | mp ks vs b es c h1 h2 h3=>simpa [Go.Abs.frz] using (VR.mp (M:=M) (F:=F) (w:=w) ks vs b es c h1 h2 h3).mono E
 | itr g ks vs seen B h1 h2 h3=>simpa [Go.Abs.frz] using (VR.itr (M:=M) (F:=F) (w:=w) g ks vs seen B h1 h2 h3).mono E
 | lit bs B e z h1 h2 h3=>simpa [Go.Abs.frz] using (VR.lit (M:=M) (F:=F) (w:=w) bs B e z h1 h2 h3).mono E
 | slm o off sz len cap h hcap hr=>simpa [Go.Abs.frz] using (VR.slm (M:=M) (F:=F) (w:=w) o off sz len cap h hcap hr).mono E
 | fn g first cap A B ha hb va vb _ _=>simpa [Go.Abs.frz] using (VR.fn g first cap A B ha hb va vb).mono E
def AS.frz (σ : AS) (f : Nat) (p : Nat → Bool) : AS :=
 { σ with F:=frzF σ.F f,objs:=fun o=>if p o then (σ.objs o).map (List.map (Go.Abs.frz f)) else σ.objs o }
theorem Sim.frz {M : Mp} {σ : AS} {w : World} {f : Nat} {p : Nat → Bool} (S : Sim M σ w) (ha : σ.F f = .alive) : Sim (M.frz f) (σ.frz f p) w where
 no:=S.no
 nf:=S.nf
 role B r h:=by
  simp only [Mp.frz] at h
  split at h
  ·rename_i h1; exact S.role B _ h1
  ·exact S.role B r h
 obj o cs h:=by
  have E:=ext_frz (M:=M) (w:=w) ha
  simp only [AS.frz] at h
  have fin : ∀ cs0,σ.objs o = some cs0 → cs.length = cs0.length → (∀ j (h : j < cs.length) (h' : j < cs0.length),∀ c,VR M σ.F w cs0[j] c → VR (M.frz f) (frzF σ.F f) w cs[j] c) → _:=fun cs0 h0 hl hk=>by
   obtain ⟨h1,h2,h3⟩:=S.obj o cs0 h0
   refine (⟨h1,?_,fun j hj=>?_⟩ : o < (σ.frz f p).no ∧ (M.frz f).role ((M.frz f).obj o).1 = some .obj ∧ ∀ j (h : j < cs.length),∃ c,w.cell? ⟨((M.frz f).obj o).1,((M.frz f).obj o).2 + j,none⟩ = some c ∧ w.frozen? ⟨((M.frz f).obj o).1,((M.frz f).obj o).2 + j,none⟩ = false ∧ VR (M.frz f) (σ.frz f p).F w cs[j] c)
   ·simp [Mp.frz,h2]
   ·obtain ⟨c,a,b,d⟩:=h3 j (by omega)
    exact ⟨c,a,b,hk j hj (by omega) c d⟩
  split at h
  ·cases h0 : σ.objs o with
   | none=>rw [h0] at h; simp at h
   | some cs0 =>
    rw [h0] at h; simp at h; subst h
    exact fin cs0 h0 (by simp) (fun j hj hj' c hc=>by simpa using hc.frz ha)
  ·exact fin cs h rfl (fun j hj hj' c hc=>hc.mono E)
 inj o o' h h':=by
  refine S.inj o o' ?_ ?_
  ·simp only [AS.frz] at h; split at h <;> simpa using h
  ·simp only [AS.frz] at h'; split at h' <;> simpa using h'
end Go.Abs
namespace Go.Abs
open Go
def AS.zero : AS := ⟨fun _ => none,0,fun _ => .dead,0⟩
def Mp.all (w : World) : Mp := ⟨fun B => if B < w.heap.size then some .stat else none,fun _ => (0,0),0,0⟩
theorem sim_all (w : World) : Sim (Mp.all w) AS.zero w where
 no:=rfl
 nf:=rfl
 role B r h:=by
  simp only [Mp.all] at h
  split at h
  ·assumption
  ·cases h
 obj o cs h:=by simp [AS.zero] at h
 inj o o' h:=by simp [AS.zero] at h
theorem ACalls.run {P : Program} {G : Env} {f : FuncId} {args : List AV} {cargs : Array Value} {w : World} {R : Out → AS → Prop}
  (hG : GOk P G (Mp.all w) AS.zero.F w) (hc : Cells (Mp.all w) AS.zero.F w args cargs) (h : ACalls P G f args AS.zero R) :
  Calls P f cargs w fun e w'=>(∃ out σ' M',R out σ' ∧ OutRel M' σ'.F w' out e) ∧ RowKit.Below w.heap.size w w':=by
 refine (h _ w cargs (sim_all w) hG hc).mono fun e w' ⟨out,σ',M',h1,h2,h3,h4⟩=>⟨⟨out,σ',M',h1,h2⟩,h4.io.1,h4.io.2.1,h4.io.2.2,h4.size,fun k hk=>?_⟩
 exact (h4.stat k false (by simp [Mp.all,hk])).2.exact
theorem ACalls.law {P : Program} {G : Env} {f : FuncId} {args : List AV} {cargs : Array Value} {w : World}
  (hG : GOk P G (Mp.all w) AS.zero.F w) (hc : Cells (Mp.all w) AS.zero.F w args cargs) (h : ACalls P G f args AS.zero fun o _=>o = .ret (.bool true)) :
  Calls P f cargs w fun e w'=>e = .returned (.bool true) ∧ RowKit.Below w.heap.size w w':=by
 refine (ACalls.run hG hc h).mono fun e w' ⟨⟨out,σ',M',h1,h2⟩,hb⟩=>⟨?_,hb⟩
 subst h1
 cases e with
 | returned v=>simp only [OutRel] at h2; cases h2; rfl
 | _=>simp [OutRel] at h2
end Go.Abs
set_option linter.unusedSimpArgs false
set_option linter.unusedVariables false
namespace Go.Abs
open Go
structure SameCells (w w' : World) : Prop where
 cell : ∀ B i,w'.cell? ⟨B,i,none⟩ = w.cell? ⟨B,i,none⟩
 froz : ∀ B i,w'.frozen? ⟨B,i,none⟩ = w.frozen? ⟨B,i,none⟩
 size : w'.heap.size = w.heap.size
 whole : ∀ (B : Nat) c e z,w.heap[B]? = some (Obj.cells c e z) → w'.heap[B]? = some (Obj.cells c e z)
 map : ∀ (B : Nat) es c,w.heap[B]? = some (Obj.map es c) → w'.heap[B]? = some (Obj.map es c)
 itr : ∀ (B : Nat) m a b c,w.heap[B]? = some (Obj.mapIter m a b c) → w'.heap[B]? = some (Obj.mapIter m a b c)
theorem Mem.same {M F w w' φ B off n} (h : Mem M F w φ B off n) (s : SameCells w w') : Mem M F w' φ B off n := by
 cases φ with
 | stat b=>exact h
 | fam f b=>exact ⟨h.1,fun hd=>⟨(h.2 hd).1,fun j hj=>by rw [s.cell,s.froz]; exact (h.2 hd).2 j hj⟩⟩
theorem VR.same {M F w w'} (s : SameCells w w') {v : AV} {c : Value} (h : VR M F w v c) : VR M F w' v c := by
 induction h with
 | undef c=>exact .undef c
 | bool b=>exact .bool b
 | int k n=>exact .int k n
 | str s=>exact .str s
 | nilp=>exact .nilp
 | ptr o off h=>exact .ptr o off h
 | pv φ v B off cs hm hc hv ih=>exact .pv φ v B off cs (hm.same s) (fun hr j hj=>by rw [s.cell]; exact hc hr j hj) ih
 | nilsl=>exact .nilsl
 | slz b sz a=>exact .slz b sz a
 | sl φ sz xs B off cap cs hcap hlit hsz hm hc hv ih=>exact .sl φ sz xs B off cap cs hcap hlit hsz (hm.same s) (fun hr j hj=>by rw [s.cell]; exact hc hr j hj) ih
 | slm o off sz len cap h hcap hr=>exact .slm o off sz len cap h hcap fun j hj=>by rw [s.cell,s.froz]; exact hr j hj
 | fn f first cap A B ha hb va vb iha ihb=>exact .fn f first cap A B ha hb iha ihb
 | nilfn=>exact .nilfn
 | iface t v c h ih=>exact .iface t v c ih
 | nilif=>exact .nilif
 | agg cs A ha va ih=>exact .agg cs A ha ih
 | tuple vs A ha va ih=>exact .tuple vs A ha ih
 | mp ks vs b es clock hm hh hr=>exact .mp ks vs b es clock hm (s.map _ _ _ hh) hr
 | itr f ks vs seen B hf hm hh =>
  refine .itr f ks vs seen B hf hm fun ha=>?_
  obtain ⟨b,es,clock,sn,h1,h2,h3,h4⟩:=hh ha
  exact ⟨b,es,clock,sn,s.itr _ _ _ _ _ h1,h2,s.map _ _ _ h3,h4⟩
 | lit bs B e z hm hh hz=>exact .lit bs B e z hm (s.whole _ _ _ _ hh) hz
theorem Sim.same {M σ w w'} (S : Sim M σ w) (s : SameCells w w') : Sim M σ w' where
 no:=S.no
 nf:=S.nf
 role B r h:=by rw [s.size]; exact S.role B r h
 obj o cs ho:=by
  obtain ⟨a,b,c⟩:=S.obj o cs ho
  refine ⟨a,b,fun j hj=>?_⟩
  obtain ⟨x,h1,h2,h3⟩:=c j hj
  exact ⟨x,by rw [s.cell]; exact h1,by rw [s.froz]; exact h2,h3.same s⟩
 inj:=S.inj
theorem Fr.same {M F w w' a ac n} (f : Fr M F w a ac n) (s : SameCells w w') : Fr M F w' a ac n := ⟨f.size,fun t => (f.val t).same s⟩
theorem putObj_heap (w : World) (l : Nat) (o : Obj) (B : Nat) : (w.putObj l o).heap[B]? = if B = l ∧ l < w.heap.size then some o else w.heap[B]? := by
 simp only [World.putObj,Array.getElem?_setIfInBounds]
 by_cases h : B = l
 ·subst h
  by_cases h2 : B < w.heap.size
  ·simp [h2]
  ·simp [h2]
 ·simp [h,Ne.symm h]
def Obj.odd : Obj → Bool
 | .cells .. | .map .. | .mapIter ..=>true
 | _=>false
theorem Obj.odd_cells {o : Obj} (h : Obj.odd o = false) : o.isCells = false := by cases o <;> simp_all [Obj.odd,Obj.isCells]
theorem sameCells_put {w : World} {l : Nat} {o o' : Obj} (h : w.heap[l]? = some o) (h1 : Obj.odd o = false) (h2 : o'.isCells = false) : SameCells w (w.putObj l o') := by
 have hl : l < w.heap.size:=(Array.getElem?_eq_some_iff.1 h).1
 have keep : ∀ (B : Nat) x,Obj.odd x = true → w.heap[B]? = some x → (w.putObj l o').heap[B]? = some x:=fun B x hx hB=>by
  rw [putObj_heap]
  have : ¬ B = l:=by rintro rfl; rw [h] at hB; cases hB; rw [h1] at hx; cases hx
  rw [if_neg (fun e=>this e.1)]; exact hB
 refine ⟨fun B i=>?_,fun B i=>?_,by simp,fun B c e z hB=>keep B _ rfl hB,fun B es c hB=>keep B _ rfl hB,fun B m a b c hB=>keep B _ rfl hB⟩
 ·simp only [World.cell?,putObj_heap]
  by_cases hB : B = l
  ·subst hB
   rw [if_pos ⟨rfl,hl⟩,h]
   cases o <;> cases o' <;> simp_all [Obj.isCells,Obj.odd]
  ·rw [if_neg (fun e=>hB e.1)]
 ·simp only [World.frozen?,putObj_heap]
  by_cases hB : B = l
  ·subst hB
   rw [if_pos ⟨rfl,hl⟩,h]
   cases o <;> cases o' <;> simp_all [Obj.isCells,Obj.odd]
  ·rw [if_neg (fun e=>hB e.1)]
theorem putObj_io (w : World) (l : Nat) (o : Obj) : SameIO w (w.putObj l o) := ⟨rfl,rfl,rfl⟩
theorem Ext.restore {M F w M' F' w'} {l : Nat} {o o1 : Obj} (E : Ext M F (w.putObj l o1) M' F' w') (h : w.heap[l]? = some o) (hc : o.isCells = false) : Ext M F w M' F' (w'.putObj l o) := by
 have hl : l < w.heap.size:=(Array.getElem?_eq_some_iff.1 h).1
 have hs:=E.size
 simp only [World.putObj_size] at hs
 have key : ∀ B : Nat,w'.heap[B]? = (w.putObj l o1).heap[B]? → (w'.putObj l o).heap[B]? = w.heap[B]?:=by
  intro B hB
  rw [putObj_heap]
  by_cases e : B = l
  ·subst e; rw [if_pos ⟨rfl,by omega⟩,h]
  ·rw [if_neg (fun q=>e q.1),hB,putObj_heap,if_neg (fun q=>e q.1)]
 have keyS : ∀ (B : Nat) m,SameB m (w.putObj l o1) w' B → SameB m w (w'.putObj l o) B:=by
  intro B m hB
  by_cases e : B = l
  ·subst e; exact .inl (by rw [putObj_heap,if_pos ⟨rfl,by omega⟩,h])
  ·have e1 : (w'.putObj l o).heap[B]? = w'.heap[B]?:=by rw [putObj_heap,if_neg (fun q=>e q.1)]
   have e2 : (w.putObj l o1).heap[B]? = w.heap[B]?:=by rw [putObj_heap,if_neg (fun q=>e q.1)]
   rcases hB with hB | ⟨hm,c,t,h1,h2⟩
   ·exact .inl (by rw [e1,hB,e2])
   ·exact .inr ⟨hm,c,t,by rw [← e2]; exact h1,by rw [e1]; exact h2⟩
 refine ⟨E.io,E.no,E.nf,E.obj,E.dead,E.spoil,by simpa using hs,fun B c e z hB=>?_,fun B m hB=>⟨(E.stat B m hB).1,keyS B m (E.stat B m hB).2⟩,fun B hB hn=>?_,E.famr,fun B f hf hr ha=>key B (E.famc B f hf hr ha)⟩
 ·have hne : B ≠ l:=by rintro rfl; rw [h] at hB; cases hB; cases hc
  obtain ⟨c',z',h1,h2⟩:=E.shape B c e z (by rw [putObj_heap,if_neg (fun q=>hne q.1)]; exact hB)
  exact ⟨c',z',by rw [putObj_heap,if_neg (fun q=>hne q.1)]; exact h1,h2⟩
 ·obtain ⟨h1,h2⟩:=E.free B (by simpa using hB) hn
  exact ⟨h1,key B h2⟩
theorem Ext.putFam {M F w} {l f : Nat} {o o1 : Obj} (h : w.heap[l]? = some o) (hc : o.isCells = false) (hr : M.role l = some (.fam f)) (ha : F f = .alive) : Ext M F w M (upd F f .dead) (w.putObj l o1) := by
 have key : ∀ B : Nat,B ≠ l → (w.putObj l o1).heap[B]? = w.heap[B]?:=fun B e=>by rw [putObj_heap,if_neg (fun q=>e q.1)]
 refine ⟨putObj_io _ _ _,Nat.le_refl _,Nat.le_refl _,fun _ _=>rfl,fun g _ hd=>?_,fun g _ hs=>?_,by simp,fun B c e z hB=>?_,fun B _ hB=>⟨hB,.inl (key B ?_)⟩,fun B _ hn=>⟨hn,key B ?_⟩,fun B g _ hB _=>hB,fun B g _ hB hg=>key B ?_⟩
 ·simp only [upd]; split
  ·rfl
  ·exact hd
 ·simp only [upd]; split
  ·simp
  ·rw [hs]; simp
 ·have hne : B ≠ l:=by rintro rfl; rw [h] at hB; cases hB; cases hc
  exact .same (by rw [key B hne]; exact hB) rfl
 ·rintro rfl; rw [hr] at hB; cases hB
 ·rintro rfl; rw [hr] at hn; cases hn
 ·rintro rfl; rw [hr] at hB; cases hB; simp [upd] at hg
theorem Ext.dead_fam {M F w} {f : Nat} (ha : F f = .alive) : Ext M F w M (upd F f .dead) w := by
 refine ⟨.refl _,Nat.le_refl _,Nat.le_refl _,fun _ _=>rfl,fun g _ hd=>?_,fun g _ hs=>?_,Nat.le_refl _,fun B c e z hB=>.same hB rfl,fun B _ hB=>⟨hB,.inl rfl⟩,fun B _ hn=>⟨hn,rfl⟩,fun B g _ hB _=>hB,fun B g _ hB hg=>rfl⟩
 ·simp only [upd]; split
  ·rfl
  ·exact hd
 ·simp only [upd]; split
  ·simp
  ·rw [hs]; simp
theorem Sim.ext_F {M σ w F'} (S : Sim M σ w) (E : Ext M σ.F w M F' w) : Sim M { σ with F := F' } w where
 no:=S.no
 nf:=S.nf
 role:=S.role
 obj o cs ho:=by
  obtain ⟨a,b,c⟩:=S.obj o cs ho
  refine ⟨a,b,fun j hj=>?_⟩
  obtain ⟨x,h1,h2,h3⟩:=c j hj
  exact ⟨x,h1,h2,h3.mono E⟩
 inj:=S.inj
end Go.Abs
namespace Go.Abs
open Go
def rpost (P : Program) (l : Nat) (R : Ending → World → Prop) : Exit → Act → World → Prop
 | .normal,_,w=>∃ v w',(Instr.endRound l none).run P w = .ok v w' ∧ R (.returned v) w'
 | .panic ch,a,w=>a.defers = [] ∧ R (.panicked ch) w
 | _,_,_=>False
theorem roundIn_any {P : Program} {l : Nat} {f : FuncId} {tmps : Array Value} {assign body : Code} {w : World} {R : Ending → World → Prop} {fn : Func} (hf : P.funcs[f]? = some fn)
  (h : assign.wpIn (wideAt (some l)) 0 P (Exit.then (fun a₁ w₁=>∃ w₂,(Instr.beginRound l).run P w₁ = .ok () w₂ ∧ body.wpIn (wideAt (some l)) 0 P (rpost P l R) a₁ w₂) (fun _ _ _=>False)) { tmps:=tmps,defers:=[] } w) :
  RoundIn Fence.wide 0 P l f tmps assign body w R:=by
 refine ⟨trivial,fun c cs hr=>?_⟩
 let b : Frame:={ (default : Frame) with fn:=f,kind:=.normal,roundOf:=some l }
 have hb0 : Frame.round l f tmps assign body .normal = b.atR { tmps:=tmps,defers:=[] } [.code assign,.beginRound,.code body]:=by
  simp [Frame.round,Frame.atR,b]
 have hr' : (wideAt (some l)).room ((c :: cs).length + 1 + 0):=hr
 have hF' : (wideAt (some l)).fn b.fn:=trivial
 obtain ⟨e,a₁,w₁,hq,harr⟩:=h b [.beginRound,.code body] (c :: cs) rfl hF' hr'
 rw [← hb0] at harr
 cases e with
 | normal =>
  obtain ⟨w₂,hbr,hbody⟩:=hq
  have s1 : StepsIn (Machine.fenced P (wideAt (some l))) P (lone (b.atR a₁ [.beginRound,.code body]) (c :: cs) w₁) (lone (b.atR a₁ [.code body]) (c :: cs) w₂) :=
   .one (fenced_calm (fr:=b.atR a₁ [.beginRound,.code body]) hF' hr' rfl) (stepR_beginRound rfl hbr)
  obtain ⟨e₂,a₂,w₃,hq₂,harr₂⟩:=hbody b [] (c :: cs) rfl hF' hr'
  cases e₂ with
  | normal =>
   obtain ⟨v,w₄,hend,hR⟩:=hq₂
   exact ⟨.returned v,w₄,hR,(StepsIn.trans harr s1).trans (StepsIn.trans harr₂ (.one (fenced_calm (fr:=b.atR a₂ []) hF' hr' rfl) (stepR_round_end rfl rfl hend)))⟩
  | panic chain =>
   obtain ⟨hd,hR⟩:=hq₂
   obtain ⟨todo,hs⟩:=harr₂
   have hlv : ({ b.atR a₂ todo with mode:=.panicking chain } : Frame).leaving P w₃ (.panicked chain):=⟨rfl,hd,fn,hf⟩
   have hend:=step_leave_panicked (c:=c) (cs:=cs) hlv
   exact ⟨.panicked chain,w₃,hR,(StepsIn.trans harr s1).trans (StepsIn.trans hs (.one (fenced_wide _ _) hend))⟩
  | exit id=>exact hq₂.elim
  | goto t=>exact hq₂.elim
  | ret=>exact hq₂.elim
  | outgrown=>exact hq₂.elim
 | exit id=>exact hq.elim
 | goto t=>exact hq.elim
 | ret=>exact hq.elim
 | panic chain=>exact hq.elim
 | outgrown=>exact hq.elim
def upds (a : Nat → AV) (ps : List Nat) (args : List AV) : Nat → AV := (ps.zip args).foldl (fun a x => upd a x.1 x.2) a
theorem Fr.upds {M F w a n} {tmps : Array Value} (h1 : tmps.size = n) (h2 : ∀ t,VR M F w (a t) (tmps.getD t undef)) :
  ∀ (ps : List Nat) (args : List AV) (cargs : List Value),(∀ p ∈ ps,p < n) → args.length = cargs.length → (∀ j (h : j < args.length) (h' : j < cargs.length),VR M F w args[j] cargs[j]) →
   ((ps.zip cargs).foldl (fun tmps x=>tmps.setIfInBounds x.1 x.2) tmps).size = n ∧ ∀ t,VR M F w (upds a ps args t) (((ps.zip cargs).foldl (fun tmps x=>tmps.setIfInBounds x.1 x.2) tmps).getD t undef):=by
 intro ps
 induction ps generalizing a tmps with
 | nil=>intro args cargs _ _ _; exact ⟨h1,h2⟩
 | cons p ps ih =>
  intro args cargs hp hl hv
  cases args with
  | nil =>
   cases cargs with
   | nil=>exact ⟨h1,h2⟩
   | cons c cs=>simp at hl
  | cons x xs =>
   cases cargs with
   | nil=>simp at hl
   | cons c cs =>
    simp only [List.zip_cons_cons,List.foldl_cons]
    have e : Abs.upds a (p :: ps) (x :: xs) = Abs.upds (upd a p x) ps xs:=rfl
    rw [e]
    refine ih (by simpa using h1) (fun t=>?_) xs cs (fun q hq=>hp q (by simp [hq])) (by simpa using hl) (fun j h h'=>hv (j + 1) (by simpa using h) (by simpa using h'))
    have hpn:=hp p (by simp)
    have h0:=hv 0 (by simp) (by simp)
    simp only [List.getElem_cons_zero] at h0
    rw [Array.getD_eq_getD_getElem?,Array.getElem?_setIfInBounds]
    by_cases ht : t = p
    ·subst ht
     rw [if_pos rfl,if_pos (by omega)]
     simpa [upd] using h0
    ·rw [if_neg (Ne.symm ht)]
     have:=h2 t
     rw [Array.getD_eq_getD_getElem?] at this
     simpa [upd,ht] using this
def rq (f0 : Nat) (K PK : AV → AS → Prop) : AQ
 | .normal,_,σ=>σ.F f0 = .alive ∧ K (.bool true) σ
 | .panic v,_,σ=>σ.F f0 = .alive ∧ PK v { σ with F:=upd σ.F f0 .dead }
 | _,_,_=>False
def ARound (P : Program) (G : Env) (n : Nat) (pa pb : PC) (ps : List Nat) (f0 : Nat) (a : Nat → AV) (args : List AV) (σ : AS) (K PK : AV → AS → Prop) : Prop :=
 args.length = ps.length ∧ σ.F f0 = .alive ∧ avc P G n pa (athen (fun a1 σ1=>σ1.F f0 = .alive ∧ avc P G n pb (rq f0 K PK) a1 σ1) fun _ _ _=>False) (upds a ps args) σ
def Env.under (G : Env) (P : Program) (n : Nat) (pa pb : PC) (ps : List Nat) (f0 : Nat) (a : Nat → AV) (l : Nat) : Env :=
 { g:=G.g,has:=fun x=>x = l,y:=fun x args σ K PK=>x = l ∧ ARound P G n pa pb ps f0 a args σ K PK,fix:=G.fix }
end Go.Abs
set_option linter.unusedSimpArgs false
set_option linter.unusedVariables false
namespace Go.Abs
open Go
theorem Ext.putBehind {M0 F0 w0 M F w} {l : Nat} {o o1 : Obj} (E : Ext M0 F0 w0 M F w) (h : w.heap[l]? = some o) (hc : o.isCells = false) (hl : w0.heap.size ≤ l) (hv : ∀ B r,M0.role B = some r → B < w0.heap.size) :
  Ext M0 F0 w0 M F (w.putObj l o1):=by
 have key : ∀ B : Nat,B < w0.heap.size → (w.putObj l o1).heap[B]? = w.heap[B]?:=fun B e=>by rw [putObj_heap,if_neg (by omega)]
 refine ⟨E.io,E.no,E.nf,E.obj,E.dead,E.spoil,by simpa using E.size,fun B c e z hB=>?_,fun B m hB=>⟨(E.stat B m hB).1,(E.stat B m hB).2.trans (.inl (key B (hv B _ hB)))⟩,fun B hB hn=>⟨(E.free B hB hn).1,(key B hB).trans (E.free B hB hn).2⟩,E.famr,
  fun B f hf hr ha=>(key B (hv B _ hr)).trans (E.famc B f hf hr ha)⟩
 have hB' : B < w0.heap.size:=(Array.getElem?_eq_some_iff.1 hB).1
 obtain ⟨c',z',h1,h2⟩:=E.shape B c e z hB
 exact ⟨c',z',by rw [key B hB']; exact h1,h2⟩
theorem Ext.both_dead {M F w M' F' w'} {f : Nat} (E : Ext M F w M' F' w') : Ext M (upd F f .dead) w M' (upd F' f .dead) w' where
 io:=E.io
 no:=E.no
 nf:=E.nf
 obj:=E.obj
 dead g hg hd:=by
  simp only [upd] at hd ⊢
  split at hd
  ·rename_i e; rw [if_pos e]
  ·rename_i e; rw [if_neg e]; exact E.dead g hg hd
 spoil g hg hs:=by
  simp only [upd] at hs ⊢
  split at hs
  ·cases hs
  ·rename_i e; rw [if_neg e]; exact E.spoil g hg hs
 size:=E.size
 shape:=E.shape
 stat:=E.stat
 free:=E.free
 famr B g hg hr hd:=by
  simp only [upd] at hd
  split at hd
  ·exact absurd rfl hd
  ·exact E.famr B g hg hr hd
 famc B g hg hr ha:=by
  simp only [upd] at ha
  split at ha
  ·cases ha
  ·exact E.famc B g hg hr ha
theorem GOk.detour {P G M F w M2 F2 w2} {l f0 : Nat} {o o1 : Obj} (g : GOk P G M F w) (E : Ext M F w M2 F2 w2) (hl : w.heap.size ≤ l) (hr : M2.role l = some (.fam f0)) (hf0 : M.nf ≤ f0) (h : w2.heap[l]? = some o) (hc : Obj.odd o = false) (hc1 : o1.isCells = false) :
  GOk P G M2 F2 (w2.putObj l o1) where
 vars x:=((g.vars x).mono E).same (sameCells_put h hc hc1)
 yields x hx:=by
  obtain ⟨r,f1,M0,F0,w0,E0,hlt,h1,h2,h3,h4⟩:=g.yields x hx
  refine ⟨r,f1,M0,F0,w0,(E0.trans E).putBehind h (Obj.odd_cells hc) (Nat.le_trans E0.size hl) h3,Nat.lt_of_lt_of_le hlt E.nf,fun ha=>?_,h2,h3,h4⟩
  obtain ⟨h5,h6⟩:=h1 (E.alive hlt ha)
  have h7:=E.famr x f1 hlt h5 (by rw [ha]; simp)
  have hne : x ≠ l:=by
   rintro rfl
   rw [hr] at h7; cases h7; omega
  exact ⟨h7,by rw [putObj_heap,if_neg (fun e=>hne e.1),E.famc x f1 hlt h5 ha,h6]⟩
 fixed B cs hB:=by
  obtain ⟨hro,t,fr,hh⟩:=g.fixed B cs hB
  obtain ⟨h1,h2⟩:=E.stat B _ hro
  have hlt:=(Array.getElem?_eq_some_iff.1 hh).1
  obtain ⟨z,hz⟩:=h2.cells hh
  exact ⟨h1,t,z,by rw [putObj_heap,if_neg (fun e=>by omega),hz]⟩
section
variable {P : Program} {G : Env} {n : Nat} {pa pb : PC} {f : FuncId} {fn : Func} {assign body : Code}
theorem yrun_under (hm : P.follows .mixedOrders = true) (hf : P.funcs[f]? = some fn) (hpa : plan n assign = some pa) (hpb : plan n body = some pb) {psA : Array Nat} (hps : ∀ p ∈ psA.toList,p < n) {a : Nat → AV}
  {Me : Mp} {Fe : Nat → FSt} {we : World} (ge : GOk P G Me Fe we) {M1 : Mp} {F1 : Nat → FSt} {w1 : World} (Ee : Ext Me Fe we M1 F1 w1) {l d : Nat} (hl : we.heap.size ≤ l) (hnf : Me.nf < M1.nf)
  {tmps : Array Value} (hn : tmps.size = n) (ht : ∀ t,VR M1 F1 w1 (a t) (tmps.getD t undef)) :
  YRun P (G.under P n pa pb psA.toList Me.nf a l) M1 F1 w1 l Me.nf { state:=.ready,pending:=none,fn:=f,tmps:=tmps,params:=psA,assign:=assign,body:=body,defers:=d }:=by
 intro args σ K PK M w cargs hy S E0 hrole hheap hcells
 obtain ⟨_,hargs,hal,hround⟩:=hy
 have hsz : cargs.size = psA.size:=by rw [hcells.1,hargs]; simp
 refine ⟨_,_,_,_,run_yield hheap (by simpa using hsz),?_⟩
 have hfr:=Fr.upds (M:=M) (F:=σ.F) (w:=w) hn (fun t=>(ht t).mono E0) psA.toList args cargs.toList hps (by simp [hcells.1]) (fun j h h'=>by
  have:=hcells.get j h (by simpa using h')
  simpa using this)
 have efold : (psA.zip cargs).foldl (fun tmps (x : Nat × Value)=>tmps.setIfInBounds x.1 x.2) tmps = (psA.toList.zip cargs.toList).foldl (fun tmps x=>tmps.setIfInBounds x.1 x.2) tmps:=by
  rw [← Array.foldl_toList,Array.toList_zip]
 rw [← efold] at hfr
 have ge1:=Ee.trans E0
 refine roundIn_any hf (wpIn_mono (avc_sound hm assign pa hpa _ _ σ hround (some l) [] M σ.F w M w { tmps:=_,defers:=[] } S (ge.mono ge1) (.refl ..) ⟨hfr.1,hfr.2⟩ rfl) fun e ac1 w1' hq=>?_)
 obtain ⟨e',a1,σ1,M2,q,rr,S2,g2,E2,f2,hD2⟩:=hq
 cases e' with
 | exit i=>exact q.elim
 | ret=>exact q.elim
 | panic v=>exact q.elim
 | normal =>
  cases e <;> simp only [ERel] at rr
  obtain ⟨hal1,hbody⟩:=q
  have hMnf : Me.nf < M.nf:=Nat.lt_of_lt_of_le hnf E0.nf
  have hrole2:=E2.famr l Me.nf hMnf hrole (by rw [hal1]; simp)
  have hheap2 : w1'.heap[l]? = some (.loop _):=(E2.famc l Me.nf hMnf hrole hal1).trans hheap
  refine ⟨_,run_beginRound hheap2 rfl,?_⟩
  have sc:=sameCells_put (o':=.loop { state:=.busy,pending:=none,fn:=f,tmps:=tmps,params:=psA,assign:=assign,body:=body,defers:=d }) hheap2 rfl rfl
  have g2b:=ge.detour (o1:=.loop { state:=.busy,pending:=none,fn:=f,tmps:=tmps,params:=psA,assign:=assign,body:=body,defers:=d }) (ge1.trans E2) hl hrole2 (Nat.le_refl _) hheap2 rfl rfl
  refine wpIn_mono (avc_sound hm body pb hpb _ _ σ1 hbody (some l) [] M2 σ1.F _ M2 _ ac1 (S2.same sc) g2b (.refl ..) (f2.same sc) hD2) fun e2 ac2 w3 hq2=>?_
  obtain ⟨e2',a2,σ2,M3,q2,rr2,S3,g3,E3,f3,hD3⟩:=hq2
  have hMnf2 : Me.nf < M2.nf:=Nat.lt_of_lt_of_le hMnf E2.nf
  have hput : (w1'.putObj l (.loop { state:=.busy,pending:=none,fn:=f,tmps:=tmps,params:=psA,assign:=assign,body:=body,defers:=d })).heap[l]? = some (.loop { state:=.busy,pending:=none,fn:=f,tmps:=tmps,params:=psA,assign:=assign,body:=body,defers:=d }):=by
   rw [putObj_heap,if_pos ⟨rfl,(Array.getElem?_eq_some_iff.1 hheap2).1⟩]
  cases e2' with
  | exit i=>exact q2.elim
  | ret=>exact q2.elim
  | normal =>
   cases e2 <;> simp only [ERel] at rr2
   obtain ⟨hal2,hK⟩:=q2
   have hheap3 : w3.heap[l]? = some (.loop _):=(E3.famc l Me.nf hMnf2 hrole2 hal2).trans hput
   refine ⟨_,_,run_endRound none hheap3,?_⟩
   have sc3:=sameCells_put (o':=.loop { state:=.ready,pending:=none,fn:=f,tmps:=tmps,params:=psA,assign:=assign,body:=body,defers:=d }) hheap3 rfl rfl
   exact ⟨.bool true,σ2,M3,hK,.bool true,S3.same sc3,E2.trans (E3.restore hheap2 rfl)⟩
  | panic v =>
   cases e2 <;> simp only [ERel] at rr2
   obtain ⟨hal2,hK⟩:=q2
   obtain ⟨v',rfl,hv⟩:=rr2
   have Ed:=Ext.dead_fam (M:=M3) (w:=w3) hal2
   exact ⟨hD3,v',rfl,v,_,M3,hK,hv.mono Ed,S3.ext_F Ed,(E2.trans (Ext.putFam hheap2 rfl hrole2 hal1)).trans E3.both_dead⟩
end
end Go.Abs
set_option linter.unusedSimpArgs false
set_option linter.unusedVariables false
namespace Go.Abs
open Go
theorem results_sound {P : Program} {fn : Func} {a' : Nat → AV} {σ' : AS} {M' : Mp} {w' : World} {tmps : Array Value} {R : Out → AS → Prop} (S' : Sim M' σ' w') (f' : ∀ t,VR M' σ'.F w' (a' t) (tmps.getD t undef))
  (hq : ares P fn.results.toList a' σ' fun vs=>R (.ret (tup vs)) σ') : ∃ v,(results fn tmps).run P w' = .ok v w' ∧ ∃ out,R out σ' ∧ OutRel M' σ'.F w' out (.returned v):=by
 have key : ∀ g : ResultVar → Sem Value,(∀ t,(g (.tmp t)).run P w' = .ok (tmps.getD t undef) w') → (∀ t ty q v,tmps.getD t undef = .pointer (some q) → (loadVar ty q).run P w' = .ok v w' → (g (.cell t ty)).run P w' = .ok v w') →
   ∃ v,((((List.mapM g fn.results.toList).run P w').andThen fun a w'=>.ok a.toArray w').andThen fun vs w=>(pure (if h : vs.size = 1 then vs[0] else .tuple vs) : Sem Value).run P w) = .ok v w' ∧
    ∃ out,R out σ' ∧ OutRel M' σ'.F w' out (.returned v):=by
  intro g g1 g2
  obtain ⟨vs,cs,hK,hr,hcc⟩:=ares_sound S' f' g1 g2 _ _ hq
  rw [hr]
  simp only [Result.andThen_ok,Sem.run_pure]
  refine ⟨_,rfl,.ret (tup vs),hK,?_⟩
  have hl:=hcc.1
  simp only [OutRel]
  have hget:=hcc.get
  split
  ·rename_i h1
   cases vs with
   | nil=>rw [h1] at hl; simp at hl
   | cons v r =>
    cases r with
    | nil=>exact hget 0 (by simp) (by rw [h1]; exact Nat.one_pos)
    | cons _ _=>rw [h1] at hl; simp at hl
  ·rename_i h1
   have : tup vs = .tuple vs:=by
    cases vs with
    | nil=>rfl
    | cons v r =>
     cases r with
     | nil=>exact absurd (by simpa using hl) h1
     | cons _ _=>rfl
   rw [this]
   exact .tuple _ _ hl hget
 unfold results
 rw [Sem.run_bind,Array.mapM_eq_mapM_toList,Sem.run_map]
 exact key _ (fun _=>rfl) (fun t ty q v h1 h2=>by
  simp only [h1,asAddr,Sem.run_bind,Sem.run_pure,Result.andThen_ok,h2])
theorem args_frame {M F w n} {args : List AV} {cargs : Array Value} (hc : Cells M F w args cargs) (hn : args.length ≤ n) :
  (cargs ++ Array.replicate (n - cargs.size) undef).size = n ∧ ∀ t,VR M F w (frame0 args t) ((cargs ++ Array.replicate (n - cargs.size) undef).getD t undef):=by
 refine ⟨?_,fun t=>?_⟩
 ·have:=hc.1
  simp only [Array.size_append,Array.size_replicate]; omega
 ·unfold frame0
  rw [Array.getD_eq_getD_getElem?]
  by_cases ht : t < args.length
  ·obtain ⟨x,h1,h2⟩:=hc.2 t _ (List.getElem?_eq_getElem ht)
   rw [Array.getElem?_append_left (by rw [hc.1]; exact ht),h1,List.getElem?_eq_getElem ht]
   exact h2
  ·rw [Array.getElem?_append_right (show cargs.size ≤ t by rw [hc.1]; omega),List.getElem?_eq_none (by omega),Array.getElem?_replicate]
   split <;> exact undef_VR ..
def WpB (P : Program) (b : Frame) (c : Code) (Q : Exit → Act → World → Prop) (a : Act) (w : World) : Prop :=
 ∀ (k : List Item) (cs : List Frame),∃ e a' w',Q e a' w' ∧ ArrivesIn (Machine.fenced P Fence.wide) P (lone (b.atR a (.code c :: k)) cs w) b k cs e a' w'
section
variable {P : Program} {b : Frame} {Q : Exit → Act → World → Prop} {a : Act} {w : World}
theorem WpB.of {n : Nat} {c : Code} (hb : b.roundOf = none) (h : c.wpIn Fence.wide n P Q a w) : WpB P b c Q a w := fun k cs => h b k cs hb trivial (room_wide _)
theorem WpB.seq {x y : Code} (h : WpB P b x (Exit.then (WpB P b y Q) Q) a w) : WpB P b (.seq x y) Q a w := by
 intro k cs
 have h0 : (lone (b.atR a (.code (.seq x y) :: k)) cs w).fenced P Fence.wide:=fenced_wide _ _
 obtain ⟨e,a₁,w₁,hq,harr⟩:=h (.code y :: k) cs
 cases e with
 | normal =>
  obtain ⟨e₂,a₂,w₂,hq₂,harr₂⟩:=hq k cs
  exact ⟨e₂,a₂,w₂,hq₂,.of_steps (.head h0 stepR_seq harr) harr₂⟩
 | exit id=>exact ⟨_,a₁,w₁,hq,.of_steps (.one h0 stepR_seq) (.pass (x:=.code y) rfl (fun _ _=>.inl (by simp)) harr)⟩
 | goto l=>exact ⟨_,a₁,w₁,hq,.of_steps (.one h0 stepR_seq) (.pass (x:=.code y) rfl (fun _ _=>.inl (by simp)) harr)⟩
 | ret=>exact ⟨_,a₁,w₁,hq,.of_steps (.one h0 stepR_seq) (.pass (x:=.code y) rfl (fun _ _=>.inl (by simp)) harr)⟩
 | panic ch=>exact ⟨_,a₁,w₁,hq,.of_steps (.one h0 stepR_seq) (.pass (x:=.code y) rfl (fun _ _=>.inl (by simp)) harr)⟩
 | outgrown=>exact ⟨_,a₁,w₁,hq,.of_steps (.one h0 stepR_seq) (.pass (x:=.code y) rfl (fun _ _=>.inl (by simp)) harr)⟩
theorem WpB.block {id : Nat} {c : Code} (h : WpB P b c (fun e a w => (e = .normal ∨ ∃ ch,e = .panic ch) ∧ Q e a w) a w) : WpB P b (.block id c) Q a w := by
 intro k cs
 have h0 : (lone (b.atR a (.code (.block id c) :: k)) cs w).fenced P Fence.wide:=fenced_wide _ _
 obtain ⟨e,a₁,w₁,⟨he,hq⟩,harr⟩:=h (.inBlock id :: k) cs
 rcases he with rfl | ⟨ch,rfl⟩
 ·exact ⟨.normal,a₁,w₁,hq,.head h0 stepR_block (StepsIn.trans harr (.one (fenced_wide _ _) stepR_inBlock))⟩
 ·obtain ⟨todo,hs⟩:=harr
  exact ⟨.panic ch,a₁,w₁,hq,todo,.head h0 stepR_block hs⟩
theorem WpB.range {g : Operand} {ps : Array Tmp} {assign body : Code} {l : Nat} {mark : List Deferred} {w₁ : World} {d : Deferred} {w₁' : World} {f : FuncId} {args : Array Value} {w₂ : World}
  (he : (Instr.enterLoop b.fn a.tmps ps assign body b.roundOf).run P w = .ok (l,mark) w₁) (hres : (resolve a.eval (rangeCall g l) 0).run P w₁ = .ok d w₁') (hinv : (invoke d.target d.args).run P w₁' = .ok (.enter f args) w₂)
  (hcall : Calls P f args w₂ fun e w₃=>match e with
   | .returned _=>∃ w₄,(Instr.endLoop l).run P w₃ = .ok none w₄ ∧ Q .normal { a with defers:=mark ++ a.defers } w₄
   | .panicked chain=>Q (.panic chain) { a with defers:=mark ++ a.defers } w₃
   | .outgrown=>False) : WpB P b (.rangeFunc g ps assign body) Q a w:=by
 intro k cs
 have henter:=stepR_rangeFunc (P:=P) (b:=b) (a:=a) (k:=k) (cs:=cs) (w:=w) he hres hinv
 obtain ⟨e,w₃,fr,hR,hsteps,hfn,hleave⟩:=(callsIn_wide (n:=0)).2 hcall |>.2 (b.atR { a with defers:=mark ++ a.defers } (.inRangeFunc l :: k) :: cs) (room_wide _)
 cases e with
 | outgrown=>exact hR.elim
 | returned v =>
  obtain ⟨w₄,hend,hj⟩:=hR
  refine ⟨.normal,_,w₄,hj,.head (fenced_wide _ _) henter (StepsIn.trans hsteps (.head (fenced_wide _ _) ?_ (.one (fenced_wide _ _) (stepR_endRangeFunc hend))))⟩
  rw [← finish_atR_inRangeFunc l v]; exact step_leave_returned hleave
 | panicked chain =>
  refine ⟨.panic chain,_,w₃,hR,.inRangeFunc l :: k,.head (fenced_wide _ _) henter (StepsIn.trans hsteps (.one (fenced_wide _ _) ?_))⟩
  rw [← Frame.raise_atR]; exact step_leave_panicked hleave
theorem calls_of_wpB {f : FuncId} {fn : Func} {c : Code} {args : Array Value} {R : Ending → World → Prop} (hf : P.funcs[f]? = some fn) (hb : fn.body = some c)
  (h : ∀ b : Frame,b.fn = f → b.roundOf = none → WpB P b c (bodyPostM Fence.wide 0 P fn R) { tmps:=args ++ Array.replicate (fn.ntmps - args.size) undef,defers:=[] } w) : Calls P f args w R:=by
 refine (callsIn_wide (n:=0)).1 ⟨trivial,fun cs hr=>?_⟩
 let b : Frame:={ (default : Frame) with fn:=f,kind:=.normal,roundOf:=none }
 have henter : Frame.enter P f args .normal = b.atR { tmps:=args ++ Array.replicate (fn.ntmps - args.size) undef,defers:=[] } [.code c]:=by
  simp [Frame.enter,Frame.atR,hf,hb,b]
 obtain ⟨e,a',w',hq,harr⟩:=h b rfl rfl [] cs
 rw [← henter] at harr
 cases e with
 | normal =>
  obtain ⟨e',w'',fr',hR,hs,hfn,hl⟩:=leaves_stepsInM (F:=Fence.wide) (n:=0) a'.defers .returning w' { b.atR a' [] with mode:=.returning } cs rfl rfl rfl hf rfl trivial hr hq
  exact ⟨e',w'',fr',hR,ComesIn.of_steps (StepsIn.trans harr (.one (fenced_wide _ _) (stepR_end rfl))) hs,hfn,hl⟩
 | ret =>
  obtain ⟨todo,hs₀⟩:=harr.1 rfl
  obtain ⟨e',w'',fr',hR,hs,hfn,hl⟩:=leaves_stepsInM (F:=Fence.wide) (n:=0) a'.defers .returning w' { b.atR a' todo with mode:=.returning } cs rfl rfl rfl hf rfl trivial hr hq
  exact ⟨e',w'',fr',hR,ComesIn.of_steps hs₀ hs,hfn,hl⟩
 | panic chain =>
  obtain ⟨todo,hs₀⟩:=harr
  obtain ⟨e',w'',fr',hR,hs,hfn,hl⟩:=leaves_stepsInM (F:=Fence.wide) (n:=0) a'.defers (.panicking chain) w' { b.atR a' todo with mode:=.panicking chain } cs rfl rfl rfl hf rfl trivial hr hq
  exact ⟨e',w'',fr',hR,ComesIn.of_steps hs₀ hs,hfn,hl⟩
 | exit id=>exact hq.elim
 | goto l=>exact hq.elim
 | outgrown=>exact ⟨.outgrown,w',b,hq,harr.resolve_left (by simp [b]),rfl,trivial⟩
end
def ARange (P : Program) (G : Env) (n : Nat) (pa pb : PC) (ps : List Nat) (g : Operand) (res : List ResultVar) (R : Out → AS → Prop) (a : Nat → AV) (σ : AS) : Prop :=
 ∃ it cap,ev G a g = .fn (.func it) [] cap ∧ callable P it = true ∧ ∀ l,ACalls P (G.under P n pa pb ps σ.nf a l) it (.fn (.yield l) [] [] :: cap) σ.newF fun o σ'=>match o with
  | .ret _=>σ'.F σ.nf = .alive ∧ ares P res a { σ' with F:=upd σ'.F σ.nf .dead } fun vs=>R (.ret (tup vs)) { σ' with F:=upd σ'.F σ.nf .dead }
  | .panic v=>R (.panic v) σ'
def Came (R : Out → AS → Prop) (M : Mp) (F : Nat → FSt) (w : World) (e : Ending) (w' : World) : Prop := ∃ out σ' M',R out σ' ∧ OutRel M' σ'.F w' out e ∧ Sim M' σ' w' ∧ Ext M F w M' σ'.F w'
theorem resolve_fn {P : Program} {ac : Act} {g : Operand} {it l : Nat} {C : Array Value} (h : ac.eval g = .func (.func it) #[] C) (w : World) :
  (resolve ac.eval (rangeCall g l) 0).run P w = .ok ⟨.fn (.func it) C,#[.func (.yield l) #[] #[]]⟩ w:=by
 have e : (rangeCall g l).args.map ac.eval = #[ac.eval (.const (.func (.yield l) #[] #[]))]:=by simp [rangeCall]
 have e2 : (rangeCall g l).callee = .value g:=rfl
 have e3 : ac.eval (.const (.func (.yield l) #[] #[])) = .func (.yield l) #[] #[]:=rfl
 unfold resolve
 simp only [e,e2,e3,h,Deferred.ofValue,Sem.run_pure]
 rfl
theorem invoke_fn {P : Program} {it : Nat} {C args : Array Value} (hcl : callable P it = true) (w : World) : (invoke (.fn (.func it) C) args).run P w = .ok (.enter it (args ++ C)) w := by
 obtain ⟨fni, hfni, hbi, hname⟩ : ∃ fni, P.funcs[it]? = some fni ∧ fni.body.isSome = true ∧ (fni.name == "runtime.NumGoroutine") = false := by
  unfold callable at hcl
  split at hcl
  ·simp only [Bool.and_eq_true,Bool.not_eq_true'] at hcl
   exact ⟨_,‹_›,hcl.1,hcl.2⟩
  ·cases hcl
 have hbn : fni.body.isNone = false:=by cases hq : fni.body <;> simp [hq] at hbi ⊢
 simp only [invoke,callFunc,Sem.run_bind,run_program,Result.andThen_ok,hfni,hname,hbn,Bool.false_eq_true,if_false,Sem.run_pure]
section
variable {P : Program} {G : Env} {f : FuncId} {fn : Func} {assign body : Code} {psA : Array Nat} {pa pb : PC} {a : Nat → AV} {σ : AS} {M : Mp} {w : World} {ac : Act}
theorem range_laid (S : Sim M σ w) (d : Nat) (rec : Loop) : ∃ M1,Sim M1 σ.newF ((w.alloc (.deferred (some []))).alloc (.loop rec)) ∧ Ext M σ.F w M1 σ.newF.F ((w.alloc (.deferred (some []))).alloc (.loop rec)) ∧ M1.nf = M.nf + 1 ∧
  M1.role (w.heap.size + 1) = some (.fam M.nf) ∧ M1.role w.heap.size = some .stat ∧ ((w.alloc (.deferred (some []))).alloc (.loop rec)).heap[w.heap.size + 1]? = some (.loop rec) ∧
  ((w.alloc (.deferred (some []))).alloc (.loop rec)).heap[w.heap.size]? = some (.deferred (some [])):=by
 have Sa:=sim_push S (.deferred (some [])) .stat
 have Ea:=ext_push (F:=σ.F) S.role (.deferred (some [])) .stat
 have hF : ∀ h,h < (M.newRole w.heap.size .stat).nf → (upd σ.F σ.nf .alive) h = σ.F h ∨ (upd σ.F σ.nf .alive) h = .dead:=by
  intro h hh
  have : h < σ.nf:=by rw [← S.nf]; exact hh
  exact .inl (upd_ne _ _ (by omega))
 have hsz : (w.alloc (.deferred (some []))).heap.size = w.heap.size + 1:=by simp
 have Sb:=sim_newFam Sa (.loop rec) (w':=(w.alloc (.deferred (some []))).alloc (.loop rec)) rfl ⟨rfl,rfl,rfl⟩ hF
 have Eb:=ext_newFam (F:=σ.F) Sa.role (.loop rec) (w':=(w.alloc (.deferred (some []))).alloc (.loop rec)) rfl ⟨rfl,rfl,rfl⟩ hF
 have e0 : ({ w with heap:=w.heap.push (.deferred (some [])) } : World) = w.alloc (.deferred (some [])):=rfl
 rw [e0,hsz] at Sb Eb
 refine ⟨_,Sb,Ea.trans Eb,rfl,?_,?_,?_,?_⟩
 ·simp only [Mp.newFam]; rw [upd_same]; rfl
 ·simp only [Mp.newFam]; rw [upd_ne _ _ (by omega)]; simp only [Mp.newRole]; rw [upd_same]
 ·show ((w.heap.push _).push _)[w.heap.size + 1]? = _
  rw [Array.getElem?_push,if_pos (by simp)]
 ·show ((w.heap.push _).push _)[w.heap.size]? = _
  simp [Array.getElem?_push]
theorem range_frame (hm : P.follows .mixedOrders = true) (hf : P.funcs[f]? = some fn) (hpa : plan fn.ntmps assign = some pa) (hpb : plan fn.ntmps body = some pb) (hps : psA.toList.all (· < fn.ntmps) = true)
  {b : Frame} (hbf : b.fn = f) (hbr : b.roundOf = none) {M0 : Mp} {F0 : Nat → FSt} {w0 : World} (E0 : Ext M0 F0 w0 M σ.F w) (S : Sim M σ w) (g0 : GOk P G M σ.F w) (fr : Fr M σ.F w a ac fn.ntmps) (hD : ac.defers = []) {g : Operand} {R : Out → AS → Prop} {id : Nat}
  (h : ARange P G fn.ntmps pa pb psA.toList g fn.results.toList R a σ) : WpB P b (.block id (.rangeFunc g psA assign body)) (bodyPostM Fence.wide 0 P fn (Came R M0 F0 w0)) ac w:=by
 subst hbf
 obtain ⟨it,cap,hit,hcl,hcall⟩:=h
 have hfv:=ev_VR g0 fr g
 rw [hit] at hfv
 obtain ⟨C,hρ,hC⟩ : ∃ C,ac.eval g = .func (.func it) #[] C ∧ Cells M σ.F w cap C:=by
  generalize ac.eval g = c at hfv
  cases hfv with
  | fn _ _ _ A B ha hb va vb =>
   have : A = #[]:=Array.eq_empty_of_size_eq_zero ha
   subst this
   exact ⟨B,rfl,Cells.of hb vb⟩
 have henter:=run_enterLoop_outer (P:=P) (w:=w) b.fn ac.tmps psA assign body
 rw [← hbr] at henter
 obtain ⟨M1,S1,E1,hnf1,hrole,hroled,hheap,hheapd⟩:=range_laid S 0 { state:=.ready,pending:=none,fn:=b.fn,tmps:=ac.tmps,params:=psA,assign:=assign,body:=body,defers:=w.heap.size }
 generalize hwL : (w.alloc (.deferred (some []))).alloc (.loop { state:=.ready,pending:=none,fn:=b.fn,tmps:=ac.tmps,params:=psA,assign:=assign,body:=body,defers:=w.heap.size }) = wL at henter S1 E1 hheap hheapd
 have hsnf:=S.nf
 have hgu : GOk P (G.under P fn.ntmps pa pb psA.toList σ.nf a (w.heap.size + 1)) M1 σ.newF.F wL:=by
  refine ⟨(g0.mono E1).vars,fun x hx=>?_,(g0.mono E1).fixed⟩
  have hx' : x = w.heap.size + 1:=hx
  subst hx'
  refine ⟨_,M.nf,M1,_,wL,.refl ..,by rw [hnf1]; omega,fun _=>⟨hrole,hheap⟩,fun args σ K PK hy=>by rw [hsnf]; exact hy.2.2.1,S1.role,?_⟩
  rw [← hsnf]
  exact yrun_under hm hf hpa hpb (fun p hp=>of_decide_eq_true (List.all_eq_true.1 hps p hp)) g0 E1 (by omega) (by rw [hnf1]; omega) fr.size (fun t=>(fr.val t).mono E1)
 have hyv : VR M1 σ.newF.F wL (.fn (.yield (w.heap.size + 1)) [] []) (.func (.yield (w.heap.size + 1)) #[] #[]):=.fn _ _ _ _ _ rfl rfl (fun j h=>absurd h (Nat.not_lt_zero _)) (fun j h=>absurd h (Nat.not_lt_zero _))
 have hcc : Cells M1 σ.newF.F wL (.fn (.yield (w.heap.size + 1)) [] [] :: cap) (#[.func (.yield (w.heap.size + 1)) #[] #[]] ++ C):=by
  refine ⟨by have:=hC.1; simp; omega,fun j v hj=>?_⟩
  cases j with
  | zero=>simp only [List.getElem?_cons_zero,Option.some.injEq] at hj; subst hj; exact ⟨_,by rw [Array.getElem?_append_left (by simp)]; rfl,hyv⟩
  | succ j =>
   simp only [List.getElem?_cons_succ] at hj
   obtain ⟨c,h1,h2⟩:=hC.2 j v hj
   exact ⟨c,by rw [Array.getElem?_append_right (by simp)]; exact h1,h2.mono E1⟩
 have hc3:=hcall (w.heap.size + 1) M1 wL _ S1 hgu hcc
 refine WpB.block (WpB.range henter (resolve_fn hρ wL) (invoke_fn hcl wL) (hc3.mono fun e w3 he=>?_))
 obtain ⟨out',σ3,M3,hR,hO,S3,E3⟩:=he
 have Efull:=E1.trans E3
 have hd3:=(E3.stat w.heap.size _ hroled).2.exact.trans hheapd
 cases out' with
 | ret v =>
  cases e with
  | panicked ch=>exact hO.elim
  | outgrown=>exact hO.elim
  | returned v' =>
   obtain ⟨hal3,hares⟩:=hR
   have hal3' : σ3.F M.nf = .alive:=by rw [hsnf]; exact hal3
   have hheap3:=(E3.famc _ _ (by rw [hnf1]; omega) hrole hal3').trans hheap
   have hrole3:=E3.famr _ _ (by rw [hnf1]; omega) hrole (by rw [hal3']; simp)
   refine ⟨_,run_endLoop hheap3 (by simp),.inl rfl,?_⟩
   generalize hr1 : (Obj.loop { state:=.exhausted,pending:=none,fn:=b.fn,tmps:=ac.tmps,params:=psA,assign:=assign,body:=body,defers:=w.heap.size }) = rec1
   have hc1 : rec1.isCells = false:=by rw [← hr1]; rfl
   have E4:=Ext.putFam (o1:=rec1) hheap3 rfl hrole3 hal3'
   have Ed:=Ext.dead_fam (M:=M3) (w:=w3) hal3'
   have sc4:=sameCells_put (o':=rec1) hheap3 rfl hc1
   have hd4 : (w3.putObj (w.heap.size + 1) rec1).heap[w.heap.size]? = some (.deferred (some [])):=by rw [putObj_heap,if_neg (by omega)]; exact hd3
   have sc5:=sameCells_put (o':=Obj.deferred none) hd4 rfl rfl
   have S5:=((S3.ext_F Ed).same sc4).same sc5
   have E5:=(Efull.trans E4).putBehind (o1:=.deferred none) hd4 rfl (Nat.le_refl _) S.role
   have f5 : ∀ t,VR M3 (upd σ3.F M.nf .dead) _ (a t) (ac.tmps.getD t undef):=fun t=>((fr.val t).mono (Efull.trans E4)).same sc5
   rw [hsnf] at S5 f5 E5
   obtain ⟨v5,hr5,out5,hR5,hO5⟩:=results_sound S5 f5 hares
   simp only [bodyPostM,hD,List.append_nil,LeavesInM]
   exact ⟨by simp,.inl ⟨_,_,rfl,run_takeDeferred hd4,v5,hr5,out5,_,M3,hR5,hO5,S5,E0.trans E5⟩⟩
 | panic v =>
  cases e with
  | returned v'=>exact hO.elim
  | outgrown=>exact hO.elim
  | panicked ch =>
   obtain ⟨v',rfl,hv⟩:=hO
   refine ⟨.inr ⟨_,rfl⟩,?_⟩
   have sc5:=sameCells_put (o':=Obj.deferred none) hd3 rfl rfl
   have E5:=Efull.putBehind (o1:=.deferred none) hd3 rfl (Nat.le_refl _) S.role
   simp only [bodyPostM,hD,List.append_nil,LeavesInM]
   exact ⟨by simp,.inl ⟨_,_,rfl,run_takeDeferred hd3,.panic v,σ3,M3,hR,⟨v',rfl,hv.same sc5⟩,S3.same sc5,E0.trans E5⟩⟩
end
theorem acalls_range {P : Program} {G : Env} {f : FuncId} {fn : Func} {n : Nat} {x y assign body : Code} {id : Nat} {g : Operand} {psA : Array Nat} {px py pa pb : PC} {res : List ResultVar} {args : List AV} {σ : AS} {R : Out → AS → Prop}
  (hm : P.follows .mixedOrders = true) (hf : P.funcs[f]? = some fn) (hnt : fn.ntmps = n) (hres : fn.results.toList = res) (hb : fn.body = some (.seq x (.seq y (.block id (.rangeFunc g psA assign body)))))
  (hx : plan n x = some px) (hy : plan n y = some py) (hpa : plan n assign = some pa) (hpb : plan n body = some pb) (hps : psA.toList.all (· < n) = true) (hn : args.length ≤ n)
  (h : avc P G n px (athen (avc P G n py (athen (ARange P G n pa pb psA.toList g res R) fun _ _ _=>False)) fun _ _ _=>False) (frame0 args) σ) : ACalls P G f args σ R:=by
 subst hnt; subst hres
 intro M w cargs S g0 hc
 refine calls_of_wpB hf hb fun b hbf hbr=>?_
 obtain ⟨fr1,fr2⟩:=args_frame hc hn
 refine WpB.seq (WpB.of (n:=0) hbr (wpIn_mono (avc_sound hm x px hx _ _ σ h none [] M σ.F w M w { tmps:=_,defers:=[] } S g0 (.refl ..) ⟨fr1,fr2⟩ rfl) fun e ac' w' hq=>?_))
 obtain ⟨e',a',σ',M',q,r,S',g',E',f',hD'⟩:=hq
 cases e' with
 | exit i=>exact q.elim
 | ret=>exact q.elim
 | panic v=>exact q.elim
 | normal =>
  cases e <;> simp only [ERel] at r
  refine WpB.seq (WpB.of (n:=0) hbr (wpIn_mono (avc_sound hm y py hy _ _ σ' q none [] M σ.F w M' w' ac' S' g' E' f' hD') fun e ac2 w2 hq2=>?_))
  obtain ⟨e2,a2,σ2,M2,q2,r2,S2,g2,E2,f2,hD2⟩:=hq2
  cases e2 with
  | exit i=>exact q2.elim
  | ret=>exact q2.elim
  | panic v=>exact q2.elim
  | normal =>
   cases e <;> simp only [ERel] at r2
   exact range_frame hm hf hpa hpb hps hbf hbr E2 S2 g2 f2 hD2 q2
end Go.Abs
namespace Go.Abs
open Go
def AHandle (P : Program) (G : Env) (n : Nat) (py : PC) (d0 d1 : Nat) (caps : List AV) (res : List ResultVar) (R : Out → AS → Prop) (pv : Option AV) (a : Nat → AV) (σ : AS) : Prop :=
 avc P G n py (fun e _ σ2=>(e = .normal ∨ e = .ret) ∧ ares P res a σ2 fun vs=>R (.ret (tup vs)) σ2) (upd (upd (frame0 caps) d0 (pv.getD .nilif)) d1 (pv.getD .nilif)) σ
def aq (H : Option AV → (Nat → AV) → AS → Prop) : AQ
 | .normal,a,σ | .ret,a,σ=>H none a σ
 | .panic v,a,σ=>H (some v) a σ
 | .exit _,_,_=>False
def modeOf (pv : Option Value) : FrameMode := match pv with
 | none=>.returning
 | some v=>.panicking [{ v:=v,recovered:=false }]
theorem handle_sound {P : Program} {G : Env} (hm : P.follows .mixedOrders = true) {fn : Func} {k : FuncId} {fk : Func} {rid d0 d1 : Nat} {ops : Array Oper} {r0 r1 : Oper} {y : Code} {py : PC} (hk : P.funcs[k]? = some fk) (hbk : fk.body = some (.seq (.region rid ops false) y)) (hops : ops.toList = [r0,r1])
  (h0 : r0.op = .call ⟨.builtin .recover,#[],#[]⟩) (h0d : r0.dst = some d0) (h0g : r0.guard = none) (h1 : r1.op = .assign (.tmp d0)) (h1d : r1.dst = some d1) (h1g : r1.guard = none) (hres : fk.results = #[]) (hpy : plan fk.ntmps y = some py) (hd0 : d0 < fk.ntmps) (hd1 : d1 < fk.ntmps)
  {caps : List AV} {C : Array Value} {R : Out → AS → Prop} {pv : Option AV} {pw : Option Value} {a : Nat → AV} {σ : AS} {M : Mp} {w : World} {ac : Act} {n : Nat} {M0 : Mp} {F0 : Nat → FSt} {w0 : World} (E0 : Ext M0 F0 w0 M σ.F w) (S : Sim M σ w) (g : GOk P G M σ.F w) (f : Fr M σ.F w a ac n)
  (hC : Cells M σ.F w caps C) (hcl : caps.length ≤ fk.ntmps) (hpv : VR M σ.F w (pv.getD .nilif) (pw.getD .nilIface)) (h : AHandle P G fk.ntmps py d0 d1 caps fn.results.toList R pv a σ) :
  CallsD P k (#[] ++ C) (modeOf pw) w fun e u' w'=>match e with
   | .returned _=>Leaves P fn ac.tmps (Came R M0 F0 w0) [] (settle u') w'
   | .panicked chain=>Leaves P fn ac.tmps (Came R M0 F0 w0) [] (raised u' chain) w'
   | .outgrown=>Came R M0 F0 w0 .outgrown w':=by
 refine callsD_of_wpS hk hbk fun c₀ cs hu=>?_
 obtain ⟨fr1,fr2⟩:=args_frame hC hcl
 rw [Array.empty_append]
 generalize hac : ({ tmps:=C ++ Array.replicate (fk.ntmps - C.size) undef,defers:=[] } : Act) = ak
 have hf0 : Fr M σ.F w (frame0 caps) ak fk.ntmps:=by rw [← hac]; exact ⟨fr1,fr2⟩
 have hdk : ak.defers = []:=by rw [← hac]
 have hsz : ops.size = 2:=by rw [← Array.length_toList,hops]; rfl
 have e0 : ops[0]? = some r0:=by rw [← Array.getElem?_toList,hops]; rfl
 have e1 : ops[1]? = some r1:=by rw [← Array.getElem?_toList,hops]; rfl
 -- behind the region
 have behind : ∀ (cs' : List Frame) (u' : FrameMode),cs' = { c₀ with mode:=u' } :: cs → settle u' = .returning →
   y.wpS P (bodyPostS P fk c₀ cs fun e u' w'=>match e with
    | .returned _=>Leaves P fn ac.tmps (Came R M0 F0 w0) [] (settle u') w'
    | .panicked chain=>Leaves P fn ac.tmps (Came R M0 F0 w0) [] (raised u' chain) w'
    | .outgrown=>Came R M0 F0 w0 .outgrown w') ((ak.put (some d0) (pw.getD .nilIface)).put (some d1) (pw.getD .nilIface)) cs' w:=by
  intro cs' u' hcs hset
  have f1:=(hf0.put (d:=some d0) (by simpa [dstIn] using hd0) hpv).put (d:=some d1) (by simpa [dstIn] using hd1) hpv
  refine wpS_of_wp ((wpIn_wide (n:=0)).1 (wpIn_mono (avc_sound hm y py hpy _ _ σ h none [] M σ.F w M w _ S g (.refl ..) f1 (by rw [put_defers,put_defers,hdk])) fun e a2 w2 hq=>?_))
  obtain ⟨e',a',σ',M',q,r,S',g',E',f',hD'⟩:=hq
  obtain ⟨he,hares⟩:=q
  have fin : ∃ v,(results fk a2.tmps).run P w2 = .ok v w2 ∧ Leaves P fn ac.tmps (Came R M0 F0 w0) [] (settle u') w2:=by
   obtain ⟨v,hr,out,hR,hO⟩:=results_sound S' (fun t=>(f.val t).mono E') hares
   obtain ⟨v2,hr2,_⟩:=results_sound (fn:=fk) (tmps:=a2.tmps) (R:=fun _ _=>True) S' f'.val (by rw [hres]; exact trivial)
   rw [hset]
   exact ⟨v2,hr2,v,hr,out,σ',M',hR,hO,S',E0.trans E'⟩
  rcases he with rfl | rfl
  ·cases e <;> simp only [ERel] at r
   obtain ⟨v2,hr2,hl⟩:=fin
   exact ⟨hD',u',hcs,v2,hr2,hl⟩
  ·cases e <;> simp only [ERel] at r
   obtain ⟨v2,hr2,hl⟩:=fin
   exact ⟨hD',u',hcs,v2,hr2,hl⟩
 have run0 : ∀ ρ : Operand → Value,(execOp ρ r0).run P w = .ok .recover w:=by
  intro ρ
  unfold execOp; rw [h0]
  simp [resolve,invoke,builtin]
 have run1 : ∀ (v : Value),(execOp (ak.put (some d0) v).eval r1).run P w = .ok (.value v) w:=by
  intro v
  have e : (ak.put (some d0) v).eval (.tmp d0) = v:=by
   simp only [Act.eval,Act.put]
   rw [Array.getD_eq_getD_getElem?,Array.getElem?_setIfInBounds,if_pos rfl,if_pos (by have:=hf0.size; omega)]
   rfl
  unfold execOp; rw [h1]
  simp [e]
 have want0 : ∀ y,Region.wanted r0 y = true:=fun y=>by simp [Region.wanted,h0g]
 have want1 : ∀ y,Region.wanted r1 y = true:=fun y=>by simp [Region.wanted,h1g]
 refine wpS_seq (wpS_region ?_)
 rw [hsz,show List.range 2 = [0,1] from rfl]
 simp only [wpOpsS,e0,e1,want0,want1,if_true,run0]
 cases pw with
 | none =>
  have hrec : recoverD (c₀ :: cs) = none:=by simp [recoverD,hu,modeOf]
  rw [hrec]
  simp only [h0d,run1,Oper.upon_value,h1d]
  exact behind _ .returning (by rw [show ({ c₀ with mode:=FrameMode.returning } : Frame) = c₀ by cases c₀; simp only [modeOf] at hu; subst hu; rfl]) rfl
 | some v =>
  have hrec : recoverD (c₀ :: cs) = some (v,{ c₀ with mode:=.panicking [{ v,recovered:=true }] } :: cs):=by simp [recoverD,hu,modeOf]
  rw [hrec]
  simp only [h0d,run1,Oper.upon_value,h1d]
  exact behind _ (.panicking [{ v,recovered:=true }]) rfl (by simp [settle])
theorem Cells.mono' {M F w M' F' w' cs A} (h : Cells M F w cs A) (E : Ext M F w M' F' w') : Cells M' F' w' cs A := ⟨h.1,fun j v hj => let ⟨c,a,b⟩ := h.2 j v hj; ⟨c,a,b.mono E⟩⟩
theorem acalls_recover {P : Program} {G : Env} (hm : P.follows .mixedOrders = true) {f : FuncId} {fn : Func} {n : Nat} {x z : Code} {qid t : Nat} {qops : Array Oper} {o0 o1 : Oper} {capsA : Array Operand} {px pz : PC} {res : List ResultVar} {args : List AV} {σ : AS} {R : Out → AS → Prop}
  (hf : P.funcs[f]? = some fn) (hnt : fn.ntmps = n) (hres' : fn.results.toList = res) (hb : fn.body = some (.seq x (.seq (.region qid qops false) z))) (hqops : qops.toList = [o0,o1]) (hx : plan n x = some px) (hz : plan n z = some pz) (hn : args.length ≤ n)
  {k : FuncId} {fk : Func} {nk rid d0 d1 : Nat} {ops : Array Oper} {r0 r1 : Oper} {y : Code} {py : PC}
  (m0 : o0.op = .makeFunc (.func k) #[] capsA) (m0d : o0.dst = some t) (m0g : o0.guard = none) (m1 : o1.op = .defer ⟨.value (.tmp t),#[],#[]⟩) (m1d : o1.dst = none) (m1g : o1.guard = none) (ht : t < n)
  (hk : P.funcs[k]? = some fk) (hnk : fk.ntmps = nk) (hck : callable P k = true) (hbk : fk.body = some (.seq (.region rid ops false) y)) (hops : ops.toList = [r0,r1])
  (h0 : r0.op = .call ⟨.builtin .recover,#[],#[]⟩) (h0d : r0.dst = some d0) (h0g : r0.guard = none) (h1 : r1.op = .assign (.tmp d0)) (h1d : r1.dst = some d1) (h1g : r1.guard = none) (hres : fk.results = #[]) (hpy : plan nk y = some py) (hd0 : d0 < nk) (hd1 : d1 < nk) (hcl : capsA.size ≤ nk)
  (h : avc P G n px (athen (fun a σ=>avc P G n pz (aq (AHandle P G nk py d0 d1 (capsA.toList.map (ev G a)) res R)) (upd a t (.fn (.func k) [] (capsA.toList.map (ev G a)))) σ) fun _ _ _=>False) (frame0 args) σ) : ACalls P G f args σ R:=by
 subst hnt; subst hres'; subst hnk
 intro M w cargs S g0 hc
 obtain ⟨fr1,fr2⟩:=args_frame hc hn
 refine calls_of_wp_defers hf hb (wp_seq (wp_mono ((wpIn_wide (n:=0)).1 (avc_sound hm x px hx _ _ σ h none [] M σ.F w M w { tmps:=_,defers:=[] } S g0 (.refl ..) ⟨fr1,fr2⟩ rfl)) fun e ac1 w1 hq=>?_))
 obtain ⟨e',a1,σ1,M1,q,r,S1,g1,E1,f1,hD1⟩:=hq
 cases e' with
 | exit i=>exact q.elim
 | ret=>exact q.elim
 | panic v=>exact q.elim
 | normal =>
  cases e <;> simp only [ERel] at r
  -- the closure is made and deferred
  have hC : Cells M1 σ1.F w1 (capsA.toList.map (ev G a1)) (capsA.map ac1.eval):=by
   refine Cells.of (by simp) fun j h h'=>?_
   simp only [List.getElem_map,Array.getElem_map,Array.getElem_toList]
   exact ev_VR g1 f1 _
  have hfv : VR M1 σ1.F w1 (.fn (.func k) [] (capsA.toList.map (ev G a1))) (.func (.func k) #[] (capsA.map ac1.eval)) :=
   .fn _ _ _ _ _ rfl hC.1 (fun j h=>absurd h (Nat.not_lt_zero _)) hC.get
  have f2:=f1.put (d:=some t) (by simpa [dstIn] using ht) hfv
  have run0 : (execOp ac1.eval o0).run P w1 = .ok (.value (.func (.func k) #[] (capsA.map ac1.eval))) w1:=by
   unfold execOp; rw [m0]
   simp [Instr.makeFunc]
  have run1 : (execOp (ac1.put (some t) (.func (.func k) #[] (capsA.map ac1.eval))).eval o1).run P w1 = .ok (.defer ⟨.fn (.func k) (capsA.map ac1.eval),#[]⟩) w1:=by
   have e : (ac1.put (some t) (.func (.func k) #[] (capsA.map ac1.eval))).eval (.tmp t) = .func (.func k) #[] (capsA.map ac1.eval):=by
    simp only [Act.eval,Act.put]
    rw [Array.getD_eq_getD_getElem?,Array.getElem?_setIfInBounds,if_pos rfl,if_pos (by have:=f1.size; omega)]
    rfl
   unfold execOp; rw [m1]
   simp [resolve,e,Deferred.ofValue]
  have want0 : ∀ y,Region.wanted o0 y = true:=fun y=>by simp [Region.wanted,m0g]
  have want1 : ∀ y,Region.wanted o1 y = true:=fun y=>by simp [Region.wanted,m1g]
  have step : ∀ Q : Exit → Act → World → Prop,Q .normal { ac1.put (some t) (.func (.func k) #[] (capsA.map ac1.eval)) with defers:=[⟨.fn (.func k) (capsA.map ac1.eval),#[]⟩] } w1 → (Code.region qid qops false).wp P Q ac1 w1:=by
   intro Q hQ
   refine (wpIn_wide (n:=0)).1 (wpIn_region_list ?_)
   rw [hqops]
   unfold wpListIn
   rw [if_pos (want0 _)]
   refine ⟨fun _ _=>trivial,?_⟩
   rw [show (o0.semAt Fence.wide.round ac1.eval) = execOp ac1.eval o0 from rfl,run0,Oper.uponIn_value,m0d]
   unfold wpListIn
   rw [if_pos (want1 _)]
   refine ⟨fun _ _=>trivial,?_⟩
   rw [show (o1.semAt Fence.wide.round (ac1.put (some t) (.func (.func k) #[] (capsA.map ac1.eval))).eval) = execOp (ac1.put (some t) (.func (.func k) #[] (capsA.map ac1.eval))).eval o1 from rfl,run1,Oper.uponIn_defer,m1d,put_defers,hD1]
   exact hQ
  refine wp_seq (step _ ?_)
  have f2' : Fr M1 σ1.F w1 (upd a1 t (.fn (.func k) [] (capsA.toList.map (ev G a1)))) { ac1.put (some t) (.func (.func k) #[] (capsA.map ac1.eval)) with defers:=[⟨.fn (.func k) (capsA.map ac1.eval),#[]⟩] } fn.ntmps:=⟨f2.size,f2.val⟩
  refine wp_mono ((wpIn_wide (n:=0)).1 (avc_sound hm z pz hz _ _ σ1 q none [⟨.fn (.func k) (capsA.map ac1.eval),#[]⟩] M1 σ1.F w1 M1 w1 _ S1 g1 (.refl ..) f2' rfl)) fun e ac3 w3 hq3=>?_
  obtain ⟨e3,a3,σ3,M3,q3,r3,S3,g3,E3,f3,hD3⟩:=hq3
  have hinv : ∀ w,(invoke (.fn (.func k) (capsA.map ac1.eval)) #[]).run P w = .ok (.enter k (#[] ++ capsA.map ac1.eval)) w:=fun w=>invoke_fn hck w
  have hC3:=Cells.mono' hC E3
  have hcl' : (capsA.toList.map (ev G a1)).length ≤ fk.ntmps:=by simpa using hcl
  cases e3 with
  | exit i=>exact q3.elim
  | normal =>
   cases e <;> simp only [ERel] at r3
   simp only [bodyPostD,hD3]
   exact leaves_cons (by simp) (hinv w3) (CallsD.mono (handle_sound hm hk hbk hops h0 h0d h0g h1 h1d h1g hres hpy hd0 hd1 (pw:=none) (E1.trans E3) S3 g3 f3 hC3 hcl' .nilif q3) fun e u' w' h=>by cases e <;> exact h)
  | ret =>
   cases e <;> simp only [ERel] at r3
   simp only [bodyPostD,hD3]
   exact leaves_cons (by simp) (hinv w3) (CallsD.mono (handle_sound hm hk hbk hops h0 h0d h0g h1 h1d h1g hres hpy hd0 hd1 (pw:=none) (E1.trans E3) S3 g3 f3 hC3 hcl' .nilif q3) fun e u' w' h=>by cases e <;> exact h)
  | panic v =>
   cases e <;> simp only [ERel] at r3
   obtain ⟨v',rfl,hv⟩:=r3
   simp only [bodyPostD,hD3]
   exact leaves_cons (by simp) (hinv w3) (CallsD.mono (handle_sound hm hk hbk hops h0 h0d h0g h1 h1d h1g hres hpy hd0 hd1 (pv:=some v) (pw:=some v') (E1.trans E3) S3 g3 f3 hC3 hcl' hv q3) fun e u' w' h=>by cases e <;> exact h)
end Go.Abs
namespace Go.Abs
open Go
section
variable {P : Program} {G : Env} {a : Nat → AV} {σ : AS} {K : (Nat → AV) → AS → Prop} {Q : AQ} {dst : Option Nat} {KS : AV → AS → Prop} {KV : AV → Prop}
def orB (x y : Prop) : Prop := x ∨ y
@[congr] theorem orB_congr {dd : Prop} (_ : blk = dd) {x y : Prop} : orB x y = orB x y := rfl
def convE (P : Program) (s d : TypeId) (v : AV) (σ : AS) (K : AV → AS → Prop) : Prop := match v with
 | .int _ _=>aconv P s d v fun v=>K v σ
 | .str bs=>(isStr P d = true → (P.underlying s).isSome = true ∧ K (.str bs) σ) ∧ (isStr P d = false → aconvE P s d v σ K)
 | _=>aconvE P s d v σ K
def convV (P : Program) (s d : TypeId) (v : AV) (σ : AS) (K : AV → AS → Prop) : Prop := if (s == d) = true then asame P s d v fun v => K v σ else convE P s d v σ K
@[congr] theorem convV_congr {dd : Prop} (_ : blk = dd) {s d : TypeId} {v v' : AV} {σ σ' : AS} {K : AV → AS → Prop} (h : v = v') (h2 : σ = σ') : convV P s d v σ K = convV P s d v' σ' K := by rw [h,h2]
theorem aop1_convert0 (s d x) : aop1 P G (.convert s d x) dst a σ K Q = convV P s d (ev G a x) σ fun v σ' => K (put a dst v) σ' := by
 unfold convV
 split
 ·rename_i h
  have e : isPure (.convert s d x) = true:=h
  simp only [aop1,nextOf,e,if_true,apure]
 ·rename_i h
  have e : isPure (.convert s d x) = false:=by simp only [isPure]; simpa using h
  simp only [aop1,nextOf,e,Bool.false_eq_true,if_false,aeff,convE]
  cases ev G a x <;> rfl
@[simp] theorem aop1_convert (s d x) : aop1 P G (.convert s d x) dst a σ K Q = convV P s d (ev G a x) σ fun v σ' => K (put a dst v) σ' := aop1_convert0 s d x
theorem not_u8str {P : Program} {s : TypeId} (h1 : isU8 P s = true) (h2 : isStr P s = true) : False := by
 obtain ⟨e,hu,_⟩:=isU8_spec h1
 rw [isStr_spec h2] at hu
 cases hu
theorem convV_old {P : Program} {s d : TypeId} {v : AV} {σ : AS} {K : AV → AS → Prop} (hv : ∀ bs,v ≠ .lit bs) : convV P s d v σ K = convE P s d v σ K := by
 unfold convV
 split
 ·rename_i h
  have h : s = d:=by simpa using h
  subst h
  unfold convE asame
  cases v with
  | lit bs=>exact absurd rfl (hv bs)
  | int k n=>rfl
  | str bs =>
   simp only [aconv,aconvE]
   cases hs : isStr P s with
   | true=>simp
   | false=>simp
  | nilsl=>simp only [aconv,aconvE]; exact propext ⟨fun h=>h.elim,fun h=>not_u8str h.1 h.2.1⟩
  | sl φ sz xs=>simp only [aconv,aconvE]; exact propext ⟨fun h=>h.elim,fun h=>not_u8str h.1 h.2.1⟩
  | slm o off sz len=>simp only [aconv,aconvE]; exact propext ⟨fun h=>h.elim,fun h=>not_u8str h.1 h.2.1⟩
  | _=>rfl
 ·rfl
@[simp] theorem convV_lit (s bs) : convV P s s (.lit bs) σ KS = (isU8 P s = true ∧ KS (.sl (.stat true) 1 (B bs)) σ) := by
 unfold convV
 rw [if_pos (by simp)]
 simp [asame]
@[simp] theorem convV_int (s d k n) : convV P s d (.int k n) σ KS = bindO (intOf? P d) fun k' => (P.underlying s).isSome = true ∧ KS (.int k' (k'.wrap n)) σ := by
 rw [convV_old (by simp)]; rfl
@[simp] theorem convV_str (s d bs) : convV P s d (.str bs) σ KS = ifB (isStr P d) ((P.underlying s).isSome = true ∧ KS (.str bs) σ) (isStr P s = true ∧ isU8 P d = true ∧ orB (KS (.sl (.fam σ.nf false) 1 (B bs)) σ.newF) (KS (.slm σ.no 0 1 bs.length) (σ.newO (B bs)))) := by
 rw [convV_old (by simp)]
 unfold convE aconvE ifB orB
 cases isStr P d <;> simp
@[simp] theorem convV_nilsl (s d) : convV P s d .nilsl σ KS = (isU8 P s = true ∧ isStr P d = true ∧ KS (.str []) σ) := by rw [convV_old (by simp)]; rfl
theorem B_inj : ∀ {x y : List UInt8},B x = B y → x = y
 | [],[],_=>rfl
 | [],_ :: _,h=>by simp [B] at h
 | _ :: _,[],h=>by simp [B] at h
 | a :: x,b :: y,h=>by
  simp only [B,List.map_cons,List.cons.injEq,AV.int.injEq,true_and] at h
  have e : a = b:=UInt8.toNat_inj.1 (by exact_mod_cast h.1)
  rw [e,B_inj h.2]
@[simp] theorem convV_slB (s d φ z bs) : convV P s d (.sl φ z (B bs)) σ KS = (isU8 P s = true ∧ isStr P d = true ∧ Readable σ.F φ ∧ KS (.str bs) σ) := by
 rw [convV_old (by simp)]
 refine propext ⟨fun ⟨h1,h2,h3,bs',h4,h5⟩=>⟨h1,h2,h3,by rw [B_inj h4]; exact h5⟩,fun ⟨h1,h2,h3,h5⟩=>⟨h1,h2,h3,bs,rfl,h5⟩⟩
@[simp] theorem convV_slm (s d o off sz len) : convV P s d (.slm o off sz len) σ KS = (isU8 P s = true ∧ isStr P d = true ∧ ∃ cs bs,σ.objs o = some cs ∧ off + len ≤ cs.length ∧ (cs.drop off).take len = B bs ∧ KS (.str bs) σ) := by rw [convV_old (by simp)]; rfl
@[simp] theorem abin_shr (t k k' m n) : abin P .shr t (.int k m) (.int k' n) KV = (0 ≤ n ∧ KV (.int k (m.fdiv (2 ^ (min n.toNat k.bits))))) := Eq.trans rfl rfl
@[simp] theorem abin_shl (t k k' m n) : abin P .shl t (.int k m) (.int k' n) KV = (0 ≤ n ∧ KV (.int k (k.wrap (m * 2 ^ (min n.toNat k.bits))))) := Eq.trans rfl rfl
@[simp] theorem abin_quo (t k m n) : abin P .quo t (.int k m) (.int k n) KV = (n ≠ 0 ∧ KV (.int k (k.wrap (m.tdiv n)))) := by simp [abin,intBin]
@[simp] theorem abin_rem (t k m n) : abin P .rem t (.int k m) (.int k n) KV = (n ≠ 0 ∧ KV (.int k (m.tmod n))) := by simp [abin,intBin]
@[simp] theorem abin_and (t k m n) : abin P .and t (.int k m) (.int k n) KV = KV (.int k (bits2 k (· &&& ·) m n)) := by simp [abin,intBin]
@[simp] theorem abin_or (t k m n) : abin P .or t (.int k m) (.int k n) KV = KV (.int k (bits2 k (· ||| ·) m n)) := by simp [abin,intBin]
@[simp] theorem abin_xor (t k m n) : abin P .xor t (.int k m) (.int k n) KV = KV (.int k (bits2 k (· ^^^ ·) m n)) := by simp [abin,intBin]
@[simp] theorem aindexAddr_pvagg (t φ cs k n) : aindexAddr P t (.pv φ (.agg cs)) (.int k n) KV = bindO (arOf P t) fun p => 0 ≤ n ∧ n < (p.1 : Nat) ∧ partOf p.2.2 p.2.1 (n.toNat * p.2.1) cs fun v => fits p.2.2 p.2.1 v ∧ KV (.pv φ v) := by
 refine propext ⟨fun ⟨l,s,g,h1,h2⟩=>⟨(l,s,g),h1,h2⟩,fun ⟨p,h1,h2⟩=>⟨p.1,p.2.1,p.2.2,h1,h2⟩⟩
@[simp] theorem aindexAddr_ptr (t o off k n) : aindexAddr P t (.ptr o off) (.int k n) KV = bindO (arOf P t) fun p => 0 ≤ n ∧ n < (p.1 : Nat) ∧ KV (.ptr o (off + n.toNat * p.2.1)) := by
 refine propext ⟨fun ⟨l,s,g,h1,h2⟩=>⟨(l,s,g),h1,h2⟩,fun ⟨p,h1,h2⟩=>⟨p.1,p.2.1,p.2.2,h1,h2⟩⟩
@[simp] theorem aindex_agg (t cs k n) : aindex P t (.agg cs) (.int k n) KV = bindO (arOf P t) fun p => 0 ≤ n ∧ n < (p.1 : Nat) ∧ partOf p.2.2 p.2.1 (n.toNat * p.2.1) cs KV := by
 refine propext ⟨fun ⟨l,s,g,h1,h2⟩=>⟨(l,s,g),h1,h2⟩,fun ⟨p,h1,h2⟩=>⟨p.1,p.2.1,p.2.2,h1,h2⟩⟩
theorem wrap_u64 {n : Int} (h : 0 ≤ n) (h2 : n < 2 ^ 64) : IntKind.wrap .u64 n = n := by
 simp only [IntKind.wrap,IntKind.signed,IntKind.bits]; simp; omega
theorem wrap_u8 {n : Int} (h : 0 ≤ n) (h2 : n < 2 ^ 8) : IntKind.wrap .u8 n = n := by
 simp only [IntKind.wrap,IntKind.signed,IntKind.bits]; simp; omega
theorem ACalls.of_below {f : FuncId} {args : List AV} {R : Out → AS → Prop}
  (h : ∀ (M : Mp) (w : World) (cargs : Array Value),Sim M σ w → GOk P G M σ.F w → Cells M σ.F w args cargs → Calls P f cargs w fun e w'=>(∃ v c,e = .returned c ∧ (∀ M F w,VR M F w v c) ∧ R (.ret v) σ) ∧ RowKit.Below w.heap.size w w') : ACalls P G f args σ R:=by
 intro M w cargs S g hc
 refine (h M w cargs S g hc).mono fun e w' ⟨⟨v,c,he,hv,hR⟩,hb⟩=>?_
 subst he
 have hlt : ∀ B r,M.role B = some r → B < w.heap.size:=S.role
 have E : Ext M σ.F w M σ.F w':=by
  refine ⟨⟨hb.os,hb.tape,hb.output⟩,Nat.le_refl _,Nat.le_refl _,fun _ _=>rfl,fun _ _ h=>h,fun _ _ h=>by rw [h]; simp,hb.size,fun B c e z h=>?_,fun B _ h=>⟨h,.inl (hb.block B (hlt B _ h))⟩,fun B hB h=>⟨h,hb.block B hB⟩,fun _ _ _ h _=>h,fun B f _ h _=>hb.block B (hlt B _ h)⟩
  exact .same (by rw [hb.block B (Array.getElem?_eq_some_iff.1 h).1]; exact h) rfl
 refine ⟨.ret v,σ,M,hR,hv ..,?_,E⟩
 refine ⟨S.no,S.nf,fun B r h=>Nat.lt_of_lt_of_le (S.role B r h) hb.size,fun o cs ho=>?_,S.inj⟩
 obtain ⟨a1,a2,a3⟩:=S.obj o cs ho
 refine ⟨a1,a2,fun j hj=>?_⟩
 obtain ⟨c,h1,h2,h3⟩:=a3 j hj
 have hB:=hb.block _ (S.role _ _ a2)
 exact ⟨c,(cell?_of_heap hB).trans h1,(frozen?_of_heap hB).trans h2,h3.mono E⟩
end
end Go.Abs
namespace Go.Abs
open Go
def ARounds (P : Program) (G : Env) (n : Nat) (p : PC) (Q : AQ) : Nat → (Nat → AV) → AS → Prop
 | 0,_,_=>False
 | m + 1,a,σ=>avc P G n p (athen (ARounds P G n p Q m) Q) a σ
@[simp] theorem ARounds_succ {P : Program} {G : Env} {n : Nat} {p : PC} {Q : AQ} (m : Nat) (a σ) : ARounds P G n p Q (m + 1) a σ = avc P G n p (athen (ARounds P G n p Q m) Q) a σ := Eq.trans rfl rfl
@[congr] theorem ARounds_congr {dd : Prop} (_ : blk = dd) {P : Program} {G : Env} {n : Nat} {p : PC} {Q : AQ} {m : Nat} {a a' : Nat → AV} {σ σ' : AS} (h : a = a') (h2 : σ = σ') : ARounds P G n p Q m a σ = ARounds P G n p Q m a' σ' := by rw [h,h2]
theorem aloop_rounds {P : Program} {G : Env} {n : Nat} {p : PC} {Q : AQ} {a : Nat → AV} {σ : AS} (m : Nat) (h : ARounds P G n p Q m a σ) : ALoop P G n p Q a σ := by
 intro hm c hc ro D M0 F0 w0 M w ac S g E f hD
 have key : ∀ (m : Nat) (a : Nat → AV) (σ : AS) (M : Mp) (w : World) (ac : Act),ARounds P G n p Q m a σ → Sim M σ w → GOk P G M σ.F w → Ext M0 F0 w0 M σ.F w → Fr M σ.F w a ac n → ac.defers = D →
   Code.roundsIn (wideAt ro) 0 P c (QC P G n D M0 F0 w0 Q) m ac w:=by
  intro m
  induction m with
  | zero=>intro a σ M w ac h; exact h.elim
  | succ m ih =>
   intro a σ M w ac hR S g E f hD
   rw [roundsIn_succ]
   refine wpIn_mono (avc_sound hm c p hc _ a σ hR ro D M0 F0 w0 M w ac S g E f hD) fun e ac' w' hq=>?_
   obtain ⟨e',a',σ',M',q,r,S',g',E',f',hD'⟩:=hq
   cases e' with
   | normal=>cases e <;> simp only [ERel] at r; exact ih a' σ' M' w' ac' q S' g' E' f' hD'
   | exit i=>cases e <;> simp only [ERel] at r; exact ⟨.exit i,a',σ',M',q,r,S',g',E',f',hD'⟩
   | ret=>cases e <;> simp only [ERel] at r; exact ⟨.ret,a',σ',M',q,trivial,S',g',E',f',hD'⟩
   | panic v=>cases e <;> simp only [ERel] at r; exact ⟨.panic v,a',σ',M',q,r,S',g',E',f',hD'⟩
 exact wpIn_loop_rounds m (key m a σ M w ac h S g E f hD)
end Go.Abs
namespace Go.Abs
open Go
def AS.own (σ : AS) (f fo : Nat) (cs xs : List AV) : AS :=
 { σ with F:=upd σ.F f .dead,objs:=upd (upd σ.objs fo (some cs)) σ.no (some xs),no:=σ.no + 1 }
theorem Sim.own {M : Mp} {σ : AS} {w : World} {f fo : Nat} {cs xs : List AV} {b : Bool} {sz j : Nat} (S : Sim M σ w) (ha : σ.F f = .alive) (ho : σ.objs fo = some cs) (hj : cs[j]? = some (.sl (.fam f b) sz xs)) :
  ∃ B off,Sim (M.own f B off) (σ.own f fo (cs.set j (.slm σ.no 0 sz xs.length)) (flat xs)) w:=by
 obtain ⟨h1,h2,h3⟩:=S.obj fo cs ho
 obtain ⟨hjl,hje⟩:=List.getElem?_eq_some_iff.1 hj
 obtain ⟨c,hc1,hc2,hc3⟩:=h3 j hjl
 rw [hje] at hc3
 cases hc3 with
 | sl _ _ _ B off cap vs hcap hlit hsz hm hc hv =>
 have E:=ext_own (M:=M) (w:=w) (B:=B) (off:=off) ha
 obtain ⟨hf,hmem⟩:=hm
 obtain ⟨hrole,hcell⟩:=hmem (by rw [ha]; simp)
 have hno:=S.no
 have hfl:=flat_length sz xs hsz
 refine ⟨B,off,⟨by simp [Mp.own,AS.own,S.no],S.nf,fun C r h=>?_,fun o cs' h=>?_,fun o o' h h'=>?_⟩⟩
 ·simp only [Mp.own] at h
  split at h
  ·rename_i h1; exact S.role C _ h1
  ·exact S.role C r h
 ·simp only [AS.own,upd_at] at h
  split at h
  ·rename_i he
   subst he
   cases h
   refine ⟨by simp [AS.own],?_,fun i hi=>?_⟩
   ·simp [Mp.own,hno,upd_at,hrole]
   ·refine ⟨vs i,?_,?_,?_⟩
    ·simp only [Mp.own,hno,upd_same]; exact hc ha i hi
    ·simp only [Mp.own,hno,upd_same]; exact (hcell i (by rw [hfl] at hi; have:=Nat.mul_le_mul_right sz hcap; omega)).2
    ·exact (hv ha i hi).mono E
  ·rename_i hne
   split at h
   ·rename_i he
    subst he
    cases h
    refine ⟨by simp [AS.own]; omega,?_,fun i hi=>?_⟩
    ·simp only [Mp.own]; rw [upd_ne _ _ (by omega)]; simp [h2]
    ·have hi' : i < cs.length:=by simpa using hi
     obtain ⟨d,d1,d2,d3⟩:=h3 i hi'
     refine ⟨d,?_,?_,?_⟩
     ·simp only [Mp.own]; rw [upd_ne _ _ (by omega)]; exact d1
     ·simp only [Mp.own]; rw [upd_ne _ _ (by omega)]; exact d2
     ·by_cases hij : j = i
      ·subst hij
       rw [hc1] at d1
       cases d1
       simp only [List.getElem_set_self]
       have:=VR.slm (M:=M.own f B off) (F:=(σ.own f o (cs.set j (.slm σ.no 0 sz xs.length)) (flat xs)).F) (w:=w) σ.no 0 sz xs.length cap (by simp [Mp.own,hno]) hcap (fun j hj=>by simpa [Mp.own,hno] using hcell j hj)
       simpa [Mp.own,hno] using this
      ·rw [List.getElem_set_ne hij]
       exact d3.mono E
   ·obtain ⟨g1,g2,g3⟩:=S.obj o cs' h
    refine ⟨by simp [AS.own]; omega,?_,fun i hi=>?_⟩
    ·simp only [Mp.own]; rw [upd_ne _ _ (by omega)]; simp [g2]
    ·obtain ⟨d,d1,d2,d3⟩:=g3 i hi
     refine ⟨d,?_,?_,d3.mono E⟩
     ·simp only [Mp.own]; rw [upd_ne _ _ (by omega)]; exact d1
     ·simp only [Mp.own]; rw [upd_ne _ _ (by omega)]; exact d2
 ·have key : ∀ p,(((σ.own f fo (cs.set j (.slm σ.no 0 sz xs.length)) (flat xs)).objs p).isSome = true) → p ≠ σ.no → (σ.objs p).isSome = true:=fun p hp hne=>by
   simp only [AS.own,upd_at] at hp
   rw [if_neg hne] at hp
   split at hp
   ·rename_i he; subst he; simp [ho]
   ·exact hp
  have blk : ∀ p,p ≠ σ.no → ((M.own f B off).obj p).1 = (M.obj p).1:=fun p hp=>by simp only [Mp.own]; rw [upd_ne _ _ (by omega)]
  have blk0 : ((M.own f B off).obj σ.no).1 = B:=by simp [Mp.own,hno]
  have no' : ∀ p,(σ.objs p).isSome = true → (M.obj p).1 ≠ B:=fun p hp e=>by
   obtain ⟨ds,hds⟩:=Option.isSome_iff_exists.1 hp
   have:=(S.obj p ds hds).2.1
   rw [e,hrole] at this
   cases this
  by_cases e1 : o = σ.no <;> by_cases e2 : o' = σ.no
  ·omega
  ·intro hh; subst e1; rw [blk0,blk o' e2] at hh; exact absurd hh.symm (no' o' (key o' h' e2))
  ·intro hh; subst e2; rw [blk0,blk o e1] at hh; exact absurd hh (no' o (key o h e1))
  ·intro hh; rw [blk o e1,blk o' e2] at hh; exact S.inj o o' (key o h e1) (key o' h' e2) hh
end Go.Abs
namespace Go.Abs
open Go
end Go.Abs
namespace Go.Abs
open Go
mutual
def mrg (f : Nat) : AV → AV
 | .sl φ sz xs=>match φ with
  | .fam g b=>if g = f then .sl (.fam 0 b) sz (mrgL f xs) else .sl (.fam g b) sz (mrgL f xs)
  | .stat b=>.sl (.stat b) sz (mrgL f xs)
 | .agg cs=>.agg (mrgL f cs)
 | .tuple vs=>.tuple (mrgL f vs)
 | .iface t v=>.iface t (mrg f v)
 | v=>v
def mrgL (f : Nat) : List AV → List AV
 | []=>[]
 | v :: vs=>mrg f v :: mrgL f vs
end
theorem mrgL_eq (f : Nat) : ∀ l,mrgL f l = l.map (mrg f)
 | []=>by simp [mrgL]
 | v :: l=>by simp [mrgL,mrgL_eq f l]
@[simp] theorem mrg_sl_fam (f g b sz xs) : mrg f (.sl (.fam g b) sz xs) = .sl (if g = f then .fam 0 b else .fam g b) sz (xs.map (mrg f)) := by
 by_cases h : g = f <;> simp [mrg,mrgL_eq,h]
@[simp] theorem mrg_sl_stat (f b sz xs) : mrg f (.sl (.stat b) sz xs) = .sl (.stat b) sz (xs.map (mrg f)) := by simp [mrg,mrgL_eq]
@[simp] theorem mrg_agg (f cs) : mrg f (.agg cs) = .agg (cs.map (mrg f)) := by simp [mrg,mrgL_eq]
@[simp] theorem mrg_tuple (f cs) : mrg f (.tuple cs) = .tuple (cs.map (mrg f)) := by simp [mrg,mrgL_eq]
@[simp] theorem mrg_iface (f t v) : mrg f (.iface t v) = .iface t (mrg f v) := by simp [mrg]
@[simp] theorem mrg_int (f k n) : mrg f (.int k n) = .int k n := by simp [mrg]
@[simp] theorem mrg_bool (f b) : mrg f (.bool b) = .bool b := by simp [mrg]
@[simp] theorem mrg_str (f b) : mrg f (.str b) = .str b := by simp [mrg]
@[simp] theorem mrg_nilsl (f) : mrg f .nilsl = .nilsl := by simp [mrg]
@[simp] theorem mrg_nilp (f) : mrg f .nilp = .nilp := by simp [mrg]
@[simp] theorem mrg_nilif (f) : mrg f .nilif = .nilif := by simp [mrg]
@[simp] theorem mrg_ptr (f o i) : mrg f (.ptr o i) = .ptr o i := by simp [mrg]
theorem mrg_cells_length (f : Nat) (v : AV) : (mrg f v).cells.length = v.cells.length := by
 cases v with
 | agg cs=>simp [mrg,mrgL_eq]
 | sl φ sz xs=>cases φ <;> simp [mrg] ; split <;> simp
 | _=>simp [mrg,AV.cells]
theorem mrg_cells (f : Nat) (v : AV) : (mrg f v).cells = v.cells.map (mrg f) := by
 cases v with
 | agg cs=>simp [mrg,mrgL_eq]
 | sl φ sz xs=>cases φ <;> simp [mrg] ; split <;> simp
 | _=>simp [mrg,AV.cells]
theorem flat_mrg (f : Nat) (l : List AV) : flat (l.map (mrg f)) = (flat l).map (mrg f) := by
 simp [flat,List.flatMap_map,List.map_flatMap,mrg_cells]
open Classical in
noncomputable def Mp.mrg (M : Mp) (f : Nat) : Mp := { M with role := fun B => if M.role B = some (.fam f) then some (.fam 0) else M.role B }
def mrgF (F : Nat → FSt) (f : Nat) : Nat → FSt := upd F f .dead
theorem ext_mrg {M : Mp} {F : Nat → FSt} {w : World} {f : Nat} (h : F f = .alive) : Ext M F w (M.mrg f) (mrgF F f) w where
 io:=.refl _
 no:=Nat.le_refl _
 nf:=Nat.le_refl _
 obj _ _:=rfl
 dead g _ hd:=by simp only [mrgF,upd_at]; split <;> simp_all
 spoil g _ hs:=by simp only [mrgF,upd_at]; split <;> simp_all
 size:=Nat.le_refl _
 shape _ _ _ _ h:=.same h rfl
 stat B _ hB:=⟨by simp [Mp.mrg,hB],.inl rfl⟩
 free B _ hB:=⟨by simp [Mp.mrg,hB],rfl⟩
 famr B g _ hB hd:=by
  have hg : g ≠ f:=by intro e; subst e; simp [mrgF] at hd
  exact (if_neg (by rw [hB]; simpa using hg)).trans hB
 famc _ _ _ _ _:=rfl
theorem VR.mrg {M : Mp} {F : Nat → FSt} {w : World} {f : Nat} (hn : 0 < M.nf) (ha : F f = .alive) {v : AV} {c : Value} (h : VR M F w v c) : VR (M.mrg f) (mrgF F f) w (mrg f v) c := by
 have E:=ext_mrg (M:=M) (w:=w) ha
 induction h with
 | slz b sz a=>rw [mrg_sl_stat]; exact .slz b sz a
 | sl φ sz xs B off cap cs hcap hlit hsz hm hc hv ih =>
  have hrd : Readable (mrgF F f) φ → Readable F φ:=fun h=>(hm.readable E h).1
  have hl : (xs.map (Go.Abs.mrg f)).length = xs.length:=by simp
  have key : ∀ φ' : Own,φ'.full = φ.full → Mem (M.mrg f) (mrgF F f) w φ' B off (cap * sz) → (Readable (mrgF F f) φ' → Readable F φ) →
    VR (M.mrg f) (mrgF F f) w (.sl φ' sz (xs.map (Go.Abs.mrg f))) (.slice (some ⟨B,off,none⟩) xs.length cap):=by
   intro φ' hfull hm' hr'
   have:=VR.sl (M:=M.mrg f) (F:=mrgF F f) (w:=w) φ' sz (xs.map (Go.Abs.mrg f)) B off cap cs (by simpa using hcap) (fun h=>by rw [hl]; exact hlit (by rw [← hfull]; exact h))
    (fun x hx=>by simp at hx; obtain ⟨y,hy,rfl⟩:=hx; rw [mrg_cells_length]; exact hsz y hy) hm' (fun hr j hj=>hc (hr' hr) j (by rw [flat_mrg] at hj; simpa using hj))
    (fun hr j hj=>by
     have hj' : j < (flat xs).length:=by rw [flat_mrg] at hj; simpa using hj
     have:=ih (hr' hr) j hj'
     simp only [flat_mrg,List.getElem_map]
     exact this)
   rw [hl] at this
   exact this
  cases φ with
  | stat b=>rw [mrg_sl_stat]; exact key _ rfl (hm.mono E) hrd
  | fam g b =>
   rw [mrg_sl_fam]
   by_cases hg : g = f
   ·subst hg
    rw [if_pos rfl]
    refine key _ rfl ?_ (fun _=>ha)
    obtain ⟨m1,m2⟩:=hm.2 (by rw [ha]; simp)
    exact ⟨hn,fun _=>⟨by simp [Mp.mrg,m1],m2⟩⟩
   ·rw [if_neg hg]; exact key _ rfl (hm.mono E) hrd
 | agg cs A hA va ih=>rw [mrg_agg]; exact .agg _ _ (by simpa using hA) (fun j h h'=>by simpa using ih j (by simpa using h) h')
 | tuple cs A hA va ih=>rw [mrg_tuple]; exact .tuple _ _ (by simpa using hA) (fun j h h'=>by simpa using ih j (by simpa using h) h')
 | iface t v c h ih=>rw [mrg_iface]; exact .iface t _ _ ih
 | undef c=>simpa [Go.Abs.mrg] using VR.undef c
 | bool b=>simpa using VR.bool b
 | int k n=>simpa using VR.int k n
 | str s=>simpa using VR.str s
 | nilp=>simpa using VR.nilp
 | nilsl=>simpa using VR.nilsl
 | nilfn=>simpa [Go.Abs.mrg] using VR.nilfn
 | nilif=>simpa using VR.nilif
 | ptr o off h=>simpa using (VR.ptr (M:=M) (F:=F) (w:=w) o off h).mono E
 | pv φ v B off cs hm hc hv _=>simpa [Go.Abs.mrg] using (VR.pv φ v B off cs hm hc hv).mono E
 | mp ks vs b es c h1 h2 h3=>simpa [Go.Abs.mrg] using (VR.mp (M:=M) (F:=F) (w:=w) ks vs b es c h1 h2 h3).mono E
 | itr g ks vs seen B h1 h2 h3=>simpa [Go.Abs.mrg] using (VR.itr (M:=M) (F:=F) (w:=w) g ks vs seen B h1 h2 h3).mono E
 | lit bs B e z h1 h2 h3=>simpa [Go.Abs.mrg] using (VR.lit (M:=M) (F:=F) (w:=w) bs B e z h1 h2 h3).mono E
 | slm o off sz len cap h hcap hr=>simpa [Go.Abs.mrg] using (VR.slm (M:=M) (F:=F) (w:=w) o off sz len cap h hcap hr).mono E
 | fn g first cap A B ha hb va vb _ _=>simpa [Go.Abs.mrg] using (VR.fn g first cap A B ha hb va vb).mono E
def AS.mrg (σ : AS) (f : Nat) (p : Nat → Bool) : AS :=
 { σ with F:=mrgF σ.F f,objs:=fun o=>if p o then (σ.objs o).map (List.map (Go.Abs.mrg f)) else σ.objs o }
theorem Sim.mrg {M : Mp} {σ : AS} {w : World} {f : Nat} {p : Nat → Bool} (S : Sim M σ w) (hn : 0 < σ.nf) (ha : σ.F f = .alive) : Sim (M.mrg f) (σ.mrg f p) w where
 no:=S.no
 nf:=S.nf
 role B r h:=by
  simp only [Mp.mrg] at h
  split at h
  ·rename_i h1; exact S.role B _ h1
  ·exact S.role B r h
 obj o cs h:=by
  have E:=ext_mrg (M:=M) (w:=w) ha
  simp only [AS.mrg] at h
  have fin : ∀ cs0,σ.objs o = some cs0 → cs.length = cs0.length → (∀ j (h : j < cs.length) (h' : j < cs0.length),∀ c,VR M σ.F w cs0[j] c → VR (M.mrg f) (mrgF σ.F f) w cs[j] c) → _:=fun cs0 h0 hl hk=>by
   obtain ⟨h1,h2,h3⟩:=S.obj o cs0 h0
   refine (⟨h1,?_,fun j hj=>?_⟩ : o < (σ.mrg f p).no ∧ (M.mrg f).role ((M.mrg f).obj o).1 = some .obj ∧ ∀ j (h : j < cs.length),∃ c,w.cell? ⟨((M.mrg f).obj o).1,((M.mrg f).obj o).2 + j,none⟩ = some c ∧ w.frozen? ⟨((M.mrg f).obj o).1,((M.mrg f).obj o).2 + j,none⟩ = false ∧ VR (M.mrg f) (σ.mrg f p).F w cs[j] c)
   ·simp [Mp.mrg,h2]
   ·obtain ⟨c,a,b,d⟩:=h3 j (by omega)
    exact ⟨c,a,b,hk j hj (by omega) c d⟩
  split at h
  ·cases h0 : σ.objs o with
   | none=>rw [h0] at h; simp at h
   | some cs0 =>
    rw [h0] at h; simp at h; subst h
    exact fin cs0 h0 (by simp) (fun j hj hj' c hc=>by simpa using hc.mrg (by rw [S.nf]; exact hn) ha)
  ·exact fin cs h rfl (fun j hj hj' c hc=>hc.mono E)
 inj o o' h h':=by
  refine S.inj o o' ?_ ?_
  ·simp only [AS.mrg] at h; split at h <;> simpa using h
  ·simp only [AS.mrg] at h'; split at h' <;> simpa using h'
theorem mergeOr {P : Program} {G : Env} {f : FuncId} {args : List AV} {σ : AS} {R : Out → AS → Prop}
  (h : ACalls P G f args σ fun o σ'=>R o σ' ∨ ∃ v g p,o = .ret v ∧ 0 < σ'.nf ∧ σ'.F g = .alive ∧ R (.ret (mrg g v)) (σ'.mrg g p)) : ACalls P G f args σ R:=by
 intro M w cargs S g c
 refine (h M w cargs S g c).mono fun e w' ⟨o,σ',M',hR,h2,h3,h4⟩=>?_
 rcases hR with hR | ⟨v,k,p,ho,hn,ha,hR⟩
 ·exact ⟨o,σ',M',hR,h2,h3,h4⟩
 subst ho
 refine ⟨_,_,M'.mrg k,hR,?_,h3.mrg hn ha,h4.trans (ext_mrg ha)⟩
 cases e <;> simp only [OutRel] at h2 ⊢
 exact h2.mrg (by rw [h3.nf]; exact hn) ha
theorem ACalls.newF {P : Program} {G : Env} {f : FuncId} {args : List AV} {σ : AS} {R : Out → AS → Prop} (h : ACalls P G f args σ.newF R) : ACalls P G f args σ R := by
 intro M w cargs S g c
 have E : Ext M σ.F w { M with nf:=M.nf + 1 } σ.newF.F w:={
  io:=.refl _
  no:=Nat.le_refl _
  nf:=Nat.le_succ _
  obj:=fun _ _=>rfl
  dead:=fun k hk hd=>by simp only [AS.newF,upd_at]; rw [if_neg (by have:=S.nf; omega)]; exact hd
  spoil:=fun k hk hs=>by simp only [AS.newF,upd_at]; rw [if_neg (by have:=S.nf; omega),hs]; simp
  size:=Nat.le_refl _
  shape:=fun _ _ _ _ h=>.same h rfl
  stat:=fun _ _ h=>⟨h,.inl rfl⟩
  free:=fun _ _ h=>⟨h,rfl⟩
  famr:=fun _ _ _ h _=>h
  famc:=fun _ _ _ _ _=>rfl }
 have S' : Sim { M with nf:=M.nf + 1 } σ.newF w:=by
  refine ⟨S.no,by simp [AS.newF,S.nf],S.role,fun o cs ho=>?_,S.inj⟩
  obtain ⟨h1,h2,h3⟩:=S.obj o cs ho
  exact ⟨h1,h2,fun j hj=>let ⟨c,a,b,d⟩:=h3 j hj; ⟨c,a,b,d.mono E⟩⟩
 refine (h _ w cargs S' (g.mono E) (c.mono' E)).mono fun e w' ⟨o,σ',M',h1,h2,h3,h4⟩=>⟨o,σ',M',h1,h2,h3,E.trans h4⟩
end Go.Abs
namespace Go.Abs
open Go
def AS.still (σ : AS) (ob : Nat) : AS := { σ with objs := upd σ.objs ob none }
end Go.Abs
namespace Go.Abs
open Go
theorem OutRel.mono {M F w M' F' w'} {o : Out} {e : Ending} (h : OutRel M F w o e) (E : Ext M F w M' F' w') : OutRel M' F' w' o e := by
 cases o <;> cases e <;> simp only [OutRel] at h ⊢
 ·exact h.mono E
 ·obtain ⟨v',h1,h2⟩:=h
  exact ⟨v',h1,h2.mono E⟩
theorem ownAt {P : Program} {G : Env} {f : FuncId} {args : List AV} {σ : AS} {R : Out → AS → Prop}
  (h : ACalls P G f args σ fun o σ'=>R o σ' ∨ ∃ g fo j sz b cs xs,σ'.F g = .alive ∧ σ'.objs fo = some cs ∧ cs[j]? = some (.sl (.fam g b) sz xs) ∧ R o (σ'.own g fo (cs.set j (.slm σ'.no 0 sz xs.length)) (flat xs))) : ACalls P G f args σ R:=by
 intro M w cargs S g c
 refine (h M w cargs S g c).mono fun e w' ⟨o,σ',M',hR,h2,h3,h4⟩=>?_
 rcases hR with hR | ⟨k,fo,j,sz,b,cs,xs,ha,ho,hj,hR⟩
 ·exact ⟨o,σ',M',hR,h2,h3,h4⟩
 obtain ⟨B,off,S'⟩:=h3.own ha ho hj
 have E:=ext_own (M:=M') (w:=w') (B:=B) (off:=off) ha
 exact ⟨o,_,_,hR,h2.mono E,S',h4.trans E⟩
section
variable (σ : AS)
@[simp] theorem own_objs (f fo : Nat) (cs xs : List AV) : (σ.own f fo cs xs).objs = upd (upd σ.objs fo (some cs)) σ.no (some xs) := Eq.trans rfl rfl
@[simp] theorem own_no (f fo : Nat) (cs xs : List AV) : (σ.own f fo cs xs).no = σ.no + 1 := Eq.trans rfl rfl
@[simp] theorem own_nf (f fo : Nat) (cs xs : List AV) : (σ.own f fo cs xs).nf = σ.nf := Eq.trans rfl rfl
@[simp] theorem own_F (f fo : Nat) (cs xs : List AV) : (σ.own f fo cs xs).F = upd σ.F f .dead := Eq.trans rfl rfl
@[simp] theorem moveO_objs (o : Nat) (cs : List AV) : (σ.moveO o cs).objs = upd (upd σ.objs o none) σ.no (some cs) := Eq.trans rfl rfl
@[simp] theorem moveO_no (o : Nat) (cs : List AV) : (σ.moveO o cs).no = σ.no + 1 := Eq.trans rfl rfl
@[simp] theorem moveO_nf (o : Nat) (cs : List AV) : (σ.moveO o cs).nf = σ.nf + 1 + 1 := Eq.trans rfl rfl
end
end Go.Abs
namespace Go.Abs
open Go
section
variable {P : Program} {G : Env} {a : Nat → AV} {σ : AS} {K : (Nat → AV) → AS → Prop} {Q : AQ} {d : Option Nat}
@[congr] theorem alookup_congr {dd : Prop} (_ : blk = dd) {t : TypeId} {m m' k k' : AV} {ok : Bool} {K : AV → Prop} (h : m = m') (h2 : k = k') : alookup P t m k ok K = alookup P t m' k' ok K := by rw [h,h2]
@[congr] theorem arange_congr {dd : Prop} (_ : blk = dd) {t : TypeId} {x x' : AV} {σ σ' : AS} {K : AV → AS → Prop} (h : x = x') (h2 : σ = σ') : arange P t x σ K = arange P t x' σ' K := by rw [h,h2]
@[congr] theorem aentry_congr {dd : Prop} (_ : blk = dd) {x x' : AV} {σ σ' : AS} {K : AV → Prop} (h : x = x') (h2 : σ = σ') : aentry x σ K = aentry x' σ' K := by rw [h,h2]
@[congr] theorem anext_congr {dd : Prop} (_ : blk = dd) {x x' : AV} {σ σ' : AS} {K : AV → AV → AS → Prop} (h : x = x') (h2 : σ = σ') : anext x σ K = anext x' σ' K := by rw [h,h2]
@[simp] theorem aop1_lookup (t m k ok) : aop1 P G (.lookup t m k ok) d a σ K Q = alookup P t (ev G a m) (ev G a k) ok fun v => K (put a d v) σ := Eq.trans rfl rfl
@[simp] theorem aop1_range (t x) : aop1 P G (.range t x) d a σ K Q = arange P t (ev G a x) σ fun v σ' => K (put a d v) σ' := Eq.trans rfl rfl
@[simp] theorem aop1_entry (x) : aop1 P G (.entry x) d a σ K Q = aentry (ev G a x) σ fun v => K (put a d v) σ := Eq.trans rfl rfl
@[simp] theorem aop1_next (x) : aop1 P G (.next (.tmp x) false) d a σ K Q = anext (a x) σ fun v2 v σ' => K (put (upd a x v2) d v) σ' := Eq.trans rfl rfl
end
@[congr] theorem acopy_congr {P : Program} {dd : Prop} (_ : blk = dd) {t : TypeId} {x x' y y' : AV} {σ σ' : AS} {K : AV → AS → Prop} (h : x = x') (h1 : y = y') (h2 : σ = σ') : acopy P t x y σ K = acopy P t x' y' σ' K := by rw [h,h1,h2]
@[simp] theorem acopy_sl {P : Program} {σ : AS} {K : AV → AS → Prop} (t o off len φ ys) : acopy P t (.slm o off 1 len) (.sl φ 1 ys) σ K = (elOf P t = some 1 ∧ Readable σ.F φ ∧ acopyTo o off len ys σ K) := Eq.trans rfl rfl
@[simp] theorem acopy_slm {P : Program} {σ : AS} {K : AV → AS → Prop} (t o off len o2 off2 len2) : acopy P t (.slm o off 1 len) (.slm o2 off2 1 len2) σ K = (elOf P t = some 1 ∧ bindO (σ.objs o2) fun cs => off2 + len2 ≤ cs.length ∧ acopyTo o off len ((cs.drop off2).take len2) σ K) := by simp [acopy,bindO]
@[congr] theorem acopyTo_congr {dd : Prop} (_ : blk = dd) {o off len : Nat} {ys ys' : List AV} {σ σ' : AS} {K : AV → AS → Prop} (h : ys = ys') (h2 : σ = σ') : acopyTo o off len ys σ K = acopyTo o off len ys' σ' K := by rw [h,h2]
theorem acopyTo_eq {σ : AS} {K : AV → AS → Prop} (o off len ys) : acopyTo o off len ys σ K = ((∀ y,y ∈ ys → y.one = true ∧ y.known = true) ∧ bindO (σ.objs o) fun cs => off + len ≤ cs.length ∧ K (.int .i64 ((Nat.min ys.length len : Nat) : Int)) (σ.setO o (splice cs off (ys.take len)))) := by simp [acopyTo,bindO]
@[simp] theorem one_mp (ks vs) : (AV.mp ks vs).one = true := rfl
@[simp] theorem cells_mp (ks vs) : (AV.mp ks vs).cells = [AV.mp ks vs] := rfl
@[simp] theorem known_mp (ks vs) : (AV.mp ks vs).known = true := rfl
@[simp] theorem one_itr (f ks vs s) : (AV.itr f ks vs s).one = true := rfl
@[simp] theorem known_itr (f ks vs s) : (AV.itr f ks vs s).known = true := rfl
end Go.Abs
namespace Go.Abs
open Go
def AS.famO (σ : AS) (ob : Nat) : AS := (σ.still ob).newF
open Classical in
noncomputable def Mp.famO (M : Mp) (B : Nat) : Mp := { M with role := fun C => if C = B then some (.fam M.nf) else M.role C,nf := M.nf + 1 }
theorem ext_famO {M : Mp} {F : Nat → FSt} {w : World} {B : Nat} (h : M.role B = some .obj) : Ext M F w (M.famO B) (upd F M.nf .alive) w where
 io:=.refl _
 no:=Nat.le_refl _
 nf:=Nat.le_succ _
 obj _ _:=rfl
 dead f hf h:=by simp only [upd_at]; rw [if_neg (by omega)]; exact h
 spoil f hf h:=by simp only [upd_at]; rw [if_neg (by omega),h]; simp
 size:=Nat.le_refl _
 shape _ _ _ _ h:=.same h rfl
 stat C _ hC:=⟨by simp only [Mp.famO]; rw [if_neg (fun e=>by rw [e,h] at hC; cases hC)]; exact hC,.inl rfl⟩
 free C _ hC:=⟨by simp only [Mp.famO]; rw [if_neg (fun e=>by rw [e,h] at hC; cases hC)]; exact hC,rfl⟩
 famr C g _ hC hd:=by simp only [Mp.famO]; rw [if_neg (fun e=>by rw [e,h] at hC; cases hC)]; exact hC
 famc _ _ _ _ _:=rfl
theorem Sim.famO {M : Mp} {σ : AS} {w : World} {ob sz cap : Nat} {rows : List AV} (S : Sim M σ w) (ho : σ.objs ob = some (flat rows)) (hsz : ∀ x ∈ rows,x.cells.length = sz) (hcap : rows.length ≤ cap)
  (hr : ∀ j,j < cap * sz → (w.cell? ⟨(M.obj ob).1,(M.obj ob).2 + j,none⟩).isSome = true ∧ w.frozen? ⟨(M.obj ob).1,(M.obj ob).2 + j,none⟩ = false) :
  Sim (M.famO (M.obj ob).1) (σ.famO ob) w ∧ VR (M.famO (M.obj ob).1) (σ.famO ob).F w (.sl (.fam σ.nf false) sz rows) (.slice (some ⟨(M.obj ob).1,(M.obj ob).2,none⟩) rows.length cap):=by
 obtain ⟨h1,h2,h3⟩:=S.obj ob _ ho
 have E:=ext_famO (M:=M) (F:=σ.F) (w:=w) h2
 have hF : (σ.famO ob).F = upd σ.F M.nf .alive:=by rw [S.nf]; rfl
 rw [hF]
 refine ⟨⟨S.no,?_,fun C r h=>?_,fun o cs h=>?_,fun o o' h h'=>?_⟩,?_⟩
 ·show M.nf + 1 = σ.nf + 1
  rw [S.nf]
 ·simp only [Mp.famO] at h
  split at h
  ·rename_i e
   subst e
   exact S.role _ _ h2
  ·exact S.role C r h
 ·have h : (σ.still ob).objs o = some cs:=h
  simp only [AS.still,upd_at] at h
  split at h
  ·cases h
  rename_i hne
  obtain ⟨g1,g2,g3⟩:=S.obj o cs h
  have hb : (M.obj o).1 ≠ (M.obj ob).1:=fun e=>hne (S.inj o ob (by simp [h]) (by simp [ho]) e)
  refine ⟨g1,?_,fun i hi=>?_⟩
  ·show (M.famO (M.obj ob).1).role (M.obj o).1 = some .obj
   simp only [Mp.famO]
   rw [if_neg hb]
   exact g2
  ·obtain ⟨d,d1,d2,d3⟩:=g3 i hi
   refine ⟨d,d1,d2,?_⟩
   rw [hF]
   exact d3.mono E
 ·have key : ∀ p,((σ.still ob).objs p).isSome = true → (σ.objs p).isSome = true:=fun p hp=>by
   simp only [AS.still,upd_at] at hp
   split at hp
   ·cases hp
   ·exact hp
  exact S.inj o o' (key o h) (key o' h')
 ·refine .sl (.fam σ.nf false) sz rows _ _ cap (fun j=>if hj : j < (flat rows).length then (h3 j hj).choose else .nilFunc) hcap (by simp [Own.full]) hsz ?_ (fun _ j hj=>?_) (fun _ j hj=>?_)
  ·refine ⟨by show σ.nf < M.nf + 1; rw [S.nf]; omega,fun _=>⟨?_,hr⟩⟩
   show (M.famO (M.obj ob).1).role (M.obj ob).1 = some (.fam σ.nf)
   simp [Mp.famO,S.nf]
  ·simp only [hj,dif_pos]
   exact (h3 j hj).choose_spec.1
  ·simp only [hj,dif_pos]
   exact (h3 j hj).choose_spec.2.2.mono E
theorem famOr {P : Program} {G : Env} {f : FuncId} {args : List AV} {σ : AS} {R : Out → AS → Prop}
  (h : ACalls P G f args σ fun o σ'=>R o σ' ∨ ∃ ob sz rows rest,o = .ret (.agg (.slm ob 0 sz rows.length :: rest)) ∧ σ'.objs ob = some (flat rows) ∧ (∀ x ∈ rows,x.cells.length = sz) ∧ R (.ret (.agg (.sl (.fam σ'.nf false) sz rows :: rest))) (σ'.famO ob)) : ACalls P G f args σ R:=by
 intro M w cargs S g c
 refine (h M w cargs S g c).mono fun e w' ⟨o,σ',M',hR,h2,h3,h4⟩=>?_
 rcases hR with hR | ⟨ob,sz,rows,rest,ho,hob,hsz,hR⟩
 ·exact ⟨o,σ',M',hR,h2,h3,h4⟩
 subst ho
 cases e <;> simp only [OutRel] at h2
 cases h2 with
 | agg _ A ha' va =>
 have q0:=va 0 (by simp) (by simp [ha'])
 simp only [List.getElem_cons_zero] at q0
 have hrole:=(h3.obj ob _ hob).2.1
 have E:=ext_famO (M:=M') (F:=σ'.F) (w:=w') hrole
 have hF : (σ'.famO ob).F = upd σ'.F M'.nf .alive:=by rw [h3.nf]; rfl
 generalize hA0 : A[0]'(by simp [ha']) = c0 at q0
 cases q0 with
 | slm _ _ _ _ cap hob' hcap hr =>
 obtain ⟨S',v'⟩:=h3.famO hob hsz hcap (fun j hj=>by simpa using hr j hj)
 refine ⟨_,_,M'.famO (M'.obj ob).1,hR,?_,S',by rw [hF]; exact h4.trans E⟩
 simp only [OutRel]
 refine .agg _ A (by simpa using ha') fun j hj hj'=>?_
 cases j with
 | zero =>
  rw [hA0]
  exact v'
 | succ j =>
  rw [hF]
  exact VR.mono E (va (j + 1) (by simpa using hj) hj')
section
variable (σ : AS)
@[simp] theorem famO_objs (o : Nat) : (σ.famO o).objs = upd σ.objs o none := Eq.trans rfl rfl
@[simp] theorem famO_no (o : Nat) : (σ.famO o).no = σ.no := Eq.trans rfl rfl
@[simp] theorem famO_nf (o : Nat) : (σ.famO o).nf = σ.nf + 1 := Eq.trans rfl rfl
@[simp] theorem famO_F (o : Nat) : (σ.famO o).F = upd σ.F σ.nf .alive := Eq.trans rfl rfl
end
end Go.Abs
namespace Go.Abs
open Go
inductive Still : AV → Prop
 | undef : Still .undef
 | bool (b : Bool) : Still (.bool b)
 | int (k : IntKind) (n : Int) : Still (.int k n)
 | str (s : List UInt8) : Still (.str s)
 | nilp : Still .nilp
 | nilsl : Still .nilsl
 | nilfn : Still .nilfn
 | nilif : Still .nilif
 | pv (b : Bool) (v : AV) (h : ∀ c ∈ v.cells,Still c) : Still (.pv (.stat b) v)
 | sl (b : Bool) (sz : Nat) (xs : List AV) (h : ∀ c ∈ flat xs,Still c) : Still (.sl (.stat b) sz xs)
 | agg (cs : List AV) (h : ∀ c ∈ cs,Still c) : Still (.agg cs)
 | mp (ks vs : List AV) : Still (.mp ks vs)
theorem VR.still {M : Mp} {F : Nat → FSt} {w : World} {v : AV} {c : Value} (h : VR M F w v c) {M' : Mp} {F' : Nat → FSt} (hr : ∀ B m,M.role B = some (.st m) → M'.role B = some (.st m)) (hs : Still v) : VR M' F' w v c := by
 induction h with
 | undef c=>exact .undef c
 | bool b=>exact .bool b
 | int k n=>exact .int k n
 | str s=>exact .str s
 | nilp=>exact .nilp
 | nilsl=>exact .nilsl
 | nilfn=>exact .nilfn
 | nilif=>exact .nilif
 | slz b sz a=>exact .slz b sz a
 | pv φ v B off cs hm hc hv ih =>
  cases hs with
  | pv b _ hs =>
  obtain ⟨m,hm⟩:=hm
  exact .pv _ v B off cs ⟨m,hr B m hm⟩ (fun _=>hc trivial) (fun _ j hj=>ih trivial j hj (hs _ (List.getElem_mem hj)))
 | sl φ sz xs B off cap cs hcap hlit hsz hm hc hv ih =>
  cases hs with
  | sl b _ _ hs =>
  obtain ⟨m,hm⟩:=hm
  exact .sl _ sz xs B off cap cs hcap hlit hsz ⟨m,hr B m hm⟩ (fun _=>hc trivial) (fun _ j hj=>ih trivial j hj (hs _ (List.getElem_mem hj)))
 | agg cs A ha va ih =>
  cases hs with
  | agg _ hs=>exact .agg cs A ha fun j h h'=>ih j h h' (hs _ (List.getElem_mem h))
 | mp ks vs b es c h1 h2 h3=>exact .mp ks vs b es c (hr b false h1) h2 h3
 | _=>cases hs
def Mp.calm (M : Mp) (nf : Nat) : Mp where
 role B:=match M.role B with
  | some (.st m)=>some (.st m)
  | some _=>some .stat
  | none=>none
 obj:=M.obj
 no:=0
 nf:=nf
def AS.bare : AS := { objs := fun _ => none,no := 0,F := fun _ => .alive,nf := 1 }
theorem calm_st {M : Mp} {nf B m} (h : M.role B = some (.st m)) : (M.calm nf).role B = some (.st m) := by
 simp [Mp.calm,h]
theorem calm_other {M : Mp} {nf B} {r : Role} (h : M.role B = some r) (hr : ∀ m,r ≠ .st m) : (M.calm nf).role B = some .stat := by
 cases r with
 | st m=>exact absurd rfl (hr m)
 | fam f=>simp [Mp.calm,h]
 | obj=>simp [Mp.calm,h]
theorem Sim.calm {M : Mp} {σ : AS} {w : World} (S : Sim M σ w) : Sim (M.calm 1) AS.bare w where
 no:=rfl
 nf:=rfl
 role B r h:=by
  cases hq : M.role B with
  | none=>simp [Mp.calm,hq] at h
  | some r'=>exact S.role B r' hq
 obj o cs h:=by cases h
 inj o o' h:=by cases h
theorem Ext.calm {M M' : Mp} {σ : AS} {w w' : World} {F' : Nat → FSt} (S : Sim M σ w) (E : Ext (M.calm 1) AS.bare.F w M' F' w') : Ext M σ.F w M σ.F w' where
 io:=E.io
 no:=Nat.le_refl _
 nf:=Nat.le_refl _
 obj _ _:=rfl
 dead _ _ h:=h
 spoil _ _ h:=by rw [h]; simp
 size:=E.size
 shape:=E.shape
 stat B m h:=⟨h,(E.stat B m (calm_st h)).2⟩
 free B hB h:=⟨h,(E.free B hB (by simp [Mp.calm,h])).2⟩
 famr _ _ _ h _:=h
 famc B f _ h _:=(E.stat B false (calm_other h (fun m q=>by cases q))).2.exact
theorem Sim.calmed {M M' : Mp} {σ : AS} {w w' : World} {F' : Nat → FSt} (S : Sim M σ w) (E : Ext (M.calm 1) AS.bare.F w M' F' w') : Sim M σ w' where
 no:=S.no
 nf:=S.nf
 role B r h:=Nat.lt_of_lt_of_le (S.role B r h) E.size
 obj o cs h:=by
  obtain ⟨h1,h2,h3⟩:=S.obj o cs h
  have hq : w'.heap[(M.obj o).1]? = w.heap[(M.obj o).1]?:=(E.stat _ false (calm_other h2 (fun m q=>by cases q))).2.exact
  refine ⟨h1,h2,fun j hj=>?_⟩
  obtain ⟨c,a,b,d⟩:=h3 j hj
  exact ⟨c,by rw [cell?_of_heap hq,a],by rw [frozen?_of_heap hq,b],d.mono (Ext.calm S E)⟩
 inj:=S.inj
theorem GOk.calm {P : Program} {G : Env} {M : Mp} {σ : AS} {w : World} (g : GOk P G M σ.F w) (hG : ∀ k,Still (G.g k)) (hy : ∀ l,¬ G.has l) : GOk P G (M.calm 1) AS.bare.F w where
 vars k:=(g.vars k).still (fun _ _ h=>calm_st h) (hG k)
 yields l hl:=absurd hl (hy l)
 fixed B cs hB:=by
  obtain ⟨h1,h2⟩:=g.fixed B cs hB
  exact ⟨calm_st h1,h2⟩
theorem yes_rel {M M' : Mp} {F F' : Nat → FSt} {w w' : World} {b : Bool} {e : Ending} (h : OutRel M F w (.ret (.bool b)) e) : OutRel M' F' w' (.ret (.bool b)) e := by
 cases e <;> simp only [OutRel] at h ⊢
 cases h
 exact .bool b
theorem ACalls.closed {P : Program} {G : Env} {f : FuncId} {σ : AS} {R : Out → AS → Prop} {b : Bool} (hG : ∀ k,Still (G.g k)) (hy : ∀ l,¬ G.has l) (h : ACalls P G f [] AS.bare fun o _ => o = .ret (.bool b)) (hR : R (.ret (.bool b)) σ) : ACalls P G f [] σ R := by
 intro M w cargs S g c
 refine (h (M.calm 1) w cargs S.calm (g.calm hG hy) ⟨c.1,fun j v hj=>by simp at hj⟩).mono fun e w' ⟨o,σ',M',ho,h2,h3,h4⟩=>?_
 subst ho
 exact ⟨_,σ,M,hR,yes_rel h2,S.calmed h4,Ext.calm S h4⟩
end Go.Abs
