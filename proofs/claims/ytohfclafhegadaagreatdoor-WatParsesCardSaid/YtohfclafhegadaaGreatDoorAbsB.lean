/- Parts of the proof of the row WatParses: loops, calls and stepping rules of the abstract layer; no condition. -/
import Derived.Test.YtohfclafhegadaaGreatDoorAbsA
import Derived.LoopNIn
import Derived.OrdersIn
import Derived.TacticsIn
import Derived.RangeFuncCalls
import Derived.Below
import Derived.RangeFuncLeaves
import Derived.Recover
set_option linter.unusedSimpArgs false
set_option linter.unusedVariables false
open List renaming mem_cons→ybC,any_cons→ybD,range→ya7,all_eq_true→yaM,filter_cons_of_pos→ybF,filter_cons_of_neg→ybG,append_of_mem→ybI,mem_append→ybh,nodup_append→ybJ,eq_nil_or_concat→ybK,append_inj'→ybL,filter_append→ybM,mem_filter→ybN,filter_congr→ybO,nodup_cons→ybP,filter_eq_self→ybQ,length_eq_zero_iff→ybR,filter_eq_nil_iff→ybS,eq_nil_iff_forall_not_mem→ybT,elem_eq_contains→ybU,mapM_cons→ybZ,getElem?_eq_getElem→yau,getElem?_eq_none→yb1,getElem_map→yak
open Nat renaming not_lt_zero→yaA,testBit_or→ybE,strongRecOn→ybH,le_refl→yah,lt_of_lt_of_le→yag
open Option renaming bind_eq_some_iff→ybA,map_eq_some_iff→ybB,map_some→yaG
open Array renaming getD→yby,getD_eq_getD_getElem?→ybz,getElem?_setIfInBounds_ne→yaJ,getElem?_eq_some_iff→yaU,getElem?_eq_getElem→yar,replicate→ybV,getElem?_replicate→ybW,mem_push→ybX,getElem?_setIfInBounds→ybY,size_append→ybg,size_replicate→yb0,getElem?_append_left→ybi,getElem?_append_right→ybj,mapM_eq_mapM_toList→yb2,getElem?_toList→yb4
open Go.IntKind renaming wrap→yb3
namespace Go.Abs
open Go
def za0(r:Option Nat):Fence:={ Fence.wide with round:=r }
theorem zeh(r:Option Nat):(za0 r).depth=none:=rfl
theorem zgc{r:Option Nat}{n:Nat}{P:Program}{f:FuncId}{args:Array Value}{w:World}{R:Ending→World→Prop}(h:Calls P f args w R):CallsIn (za0 r) n P f args w R:=by
 have h1:CallsIn Fence.wide n P f args w R:=callsIn_wide.2 h
 cases r with
 | none=>exact h1
 | some l=>exact CallsIn.inRound l h1
theorem zgd{r:Option Nat}{n:Nat}{P:Program}{l:Nat}{f:FuncId}{tmps:Array Value}{assign body:Code}{w:World}{R:Ending→World→Prop}(h:RoundIn Fence.wide n P l f tmps assign body w R):RoundIn (za0 r) n P l f tmps assign body w R:=h
inductive AExit where
 | normal
 | exit (id:Nat)
 | ret
 | panic (v:AV)
abbrev AQ:=AExit→(Nat→AV)→AS→Prop
def zds:Nat→AV:=fun _=>.undef
structure AG where
 g:Option (Nat × Bool)
 t:TypeId
 x:Operand
 d:Nat
structure PO where
 dst:Option Nat
 op:Op
 guard:Option (Nat × Bool):=none
 again:List AG:=[]
def zaN(a:Nat→AV)(g:Option (Nat × Bool))(yes no:Prop):Prop :=
 match g with
 | none=>yes
 | some (d,want) =>
  match a d with
  | .bool b=>(b=want→yes)∧(b≠want→no)
  | .tuple []=>no
  | _=>False
def zbd:Op→Option Nat
 | .next (.tmp x) _=>some x
 | .insert _ (.tmp x) _ _=>some x
 | _=>none
def zob(P:Program)(G:Env)(op:Op)(a:Nat→AV)(x:Nat)(σ:AS)(K:AV→AV→AS→Prop):Prop :=
 match op with
 | .next _ false=>zl3 (a x) σ K
 | .next _ true=>zfc (a x) σ K
 | .insert t _ k v=>zbw P t (a x) (ev G a k) (ev G a v) σ fun m σ'=>K m (.tuple []) σ'
 | _=>False
def za1(P:Program)(G:Env)(op:Op)(dst:Option Nat)(a:Nat→AV)(σ:AS)(K:(Nat→AV)→AS→Prop)(Q:AQ):Prop :=
 match zbd op with
 | some x=>zob P G op a x σ fun v2 v σ'=>K (put (upd a x v2) dst v) σ'
 | none =>
  if zbs op then zaZ P (ev G a) op fun v=>K (put a dst v) σ
  else zqc P G (ev G a) σ (fun v σ'=>K (put a dst v) σ') (fun v σ'=>Q (.panic v) zds σ') op
def zcZ(P:Program)(G:Env)(a:Nat→AV)(σ:AS):List AG→Prop
 | []=>True
 | g::r=>zaN a g.g (zbA P g.t (ev G a g.x) σ fun v=>v=a g.d) True∧zcZ P G a σ r
def zdt(P:Program)(G:Env)(Q:AQ):List PO→(Nat→AV)→AS→Prop
 | [],a,σ=>Q .normal a σ
 | o::rest,a,σ =>
  zaN a o.guard (za1 P G o.op o.dst a σ (fun a' σ'=>zcZ P G a' σ' o.again∧zdt P G Q rest a' σ') Q) (zdt P G Q rest (put a o.dst (.tuple [])) σ)
def zdu(l:List PO)(a:Nat→AV):Nat→AV:=fun t=>if l.any (fun o=>o.dst==some t)then .undef else a t
def zbm(pf:Nat→AV)(Q:AQ):AQ
 | .panic v,_,σ=>Q (.panic v) pf σ
 | e,a,σ=>Q e a σ
def zaO(K:(Nat→AV)→AS→Prop)(Q:AQ):AQ
 | .normal,a,σ=>K a σ
 | e,a,σ=>Q e a σ
def zak(id:Nat)(Q:AQ):AQ
 | .exit i,a,σ=>if i=id then Q .normal a σ else Q (.exit i) a σ
 | e,a,σ=>Q e a σ
def zg9(n:Nat):Option Nat→Bool
 | some d=>decide (d<n)
 | none=>true
structure Fr(M:Mp)(F:Nat→FSt)(w:World)(a:Nat→AV)(ac:Act)(n:Nat):Prop where
 size:ac.tmps.size=n
 val:∀t,VR M F w (a t) (ac.tmps.getD t undef)
def zff(M:Mp)(F:Nat→FSt)(w:World):AExit→Exit→Prop
 | .normal,.normal=>True
 | .exit i,.exit j=>i=j
 | .ret,.ret=>True
 | .panic v,.panic ch=>∃v',ch=[{ v:=v',recovered:=false }]∧VR M F w v v'
 | _,_=>False
def QC(P:Program)(G:Env)(n:Nat)(D:List Deferred)(M0:Mp)(F0:Nat→FSt)(w0:World)(Q:AQ)(e:Exit)(ac:Act)(w:World):Prop :=
 ∃e' a σ M,Q e' a σ∧zff M σ.F w e' e∧Sim M σ w∧GOk P G M σ.F w∧Ext M0 F0 w0 M σ.F w∧Fr M σ.F w a ac n∧ac.defers=D
def AWp(P:Program)(G:Env)(n:Nat)(c:Code)(Q:AQ)(a:Nat→AV)(σ:AS):Prop :=
 ∀(ro:Option Nat) (D:List Deferred) (M0:Mp) (F0:Nat→FSt) (w0:World) (M:Mp) (w:World) (ac:Act),Sim M σ w→GOk P G M σ.F w→Ext M0 F0 w0 M σ.F w→Fr M σ.F w a ac n→ac.defers=D →
  c.wpIn (za0 ro) 0 P (QC P G n D M0 F0 w0 Q) ac w
theorem zlh{P G M F w a ac n}(g:GOk P G M F w)(f:Fr M F w a ac n)(x:Operand):VR M F w (ev G a x) (ac.eval x):=by
 cases x with
 | tmp t=>exact f.val t
 | const v=>exact zaF ..
 | global i=>exact g.vars i
 | func i=>exact .fn _ _ _ _ _ rfl rfl (fun j h=>absurd h (yaA _)) (fun j h=>absurd h (yaA _))
theorem Fr.mono{M F w M' F' w' a ac n}(f:Fr M F w a ac n)(E:Ext M F w M' F' w'):Fr M' F' w' a ac n:=⟨f.size,fun t=>(f.val t).mono E⟩
theorem Fr.put{M F w a ac n v v'}(f:Fr M F w a ac n){d:Option Tmp}(hd:zg9 n d=true)(hv:VR M F w v v'):Fr M F w (put a d v) (ac.put d v') n:=by
 cases d with
 | none=>exact f
 | some d =>
  simp[zg9]at hd
  refine⟨by simp[Act.put,f.size],fun t=>?_⟩
  simp only[Act.put,Abs.put,upd]
  by_cases h:t=d
  ·subst h
   rw[if_pos rfl]
   rw[show(ac.tmps.setIfInBounds t v').getD t undef=v' by simp[yby,f.size,hd]]
   exact hv
  ·rw[if_neg h]
   rw[show(ac.tmps.setIfInBounds d v').getD t undef=ac.tmps.getD t undef by
    simp only[ybz];rw[yaJ (Ne.symm h)]]
   exact f.val t
theorem zei{P G a σ K Q}{op:Op}{d:Option Nat}(h:za1 P G op d a σ K Q):∀c,op≠.defer c:=by
 rintro c rfl
 simp[za1,zbd,zbs,zqc]at h
theorem ziw{P:Program}{G:Env}{n:Nat}{o:Oper}{a:Nat→AV}{σ:AS}{K:(Nat→AV)→AS→Prop}{Q:AQ}(hnx:zbd o.op=none)(h:za1 P G o.op o.dst a σ K Q)
  {ro:Option Nat} {D:List Deferred} {M0 F0 w0 M w} {ac:Act} (S:Sim M σ w) (g:GOk P G M σ.F w) (E:Ext M0 F0 w0 M σ.F w) (hops:∀x∈o.op.operands,VR M σ.F w (ev G a x) (ac.eval x)) (hn:ac.tmps.size=n) (hD:ac.defers=D) {Kc:Act→World→Prop}
  (hK:∀v v' σ' M' w',K (put a o.dst v) σ'→VR M' σ'.F w' v v'→Sim M' σ' w'→GOk P G M' σ'.F w'→Ext M σ.F w M' σ'.F w'→Kc (ac.put o.dst v') w') :
  o.wpIn (za0 ro) 0 P ac w Kc (QC P G n D M0 F0 w0 Q):=by
 refine⟨fun _ _=>trivial,?_⟩
 have hsem:o.semAt (za0 ro).round ac.eval=execOp ac.eval o:=o.semAt_eq _ _ (zei h)
 rw[hsem]
 unfold za1 at h
 rw[hnx]at h
 simp only at h
 split at h
 ·obtain⟨v,hv,hq⟩:=ze5 h
  obtain⟨v',M',w',h1,h2,h3,h4⟩:=hq M σ.F w ac.eval S.role hops
  rw[h1,Oper.uponIn_value]
  exact hK v v' σ M' w' hv h2 (h4 σ rfl S) (g.mono h3) h3
 ·have hl:=zlg h S g (ρ:=ac.eval) hops
  generalize (execOp ac.eval o).run P w=r at hl
  have done:∀v' w',zdQ M σ.F w (fun v σ'=>K (Abs.put a o.dst v) σ') v' w'→Kc (ac.put o.dst v') w':=by
   rintro v' w' ⟨v,σ',M',hv,h1,h2,h3⟩
   exact hK v v' σ' M' w' hv h1 h2 (g.mono h3) h3
  have fell:∀v' w',zdQ M σ.F w (fun v σ'=>Q (.panic v) zds σ') v' w'→QC P G n D M0 F0 w0 Q (.panic [{ v:=v',recovered:=false }]) ac w':=by
   rintro v' w' ⟨v,σ',M',hv,h1,h2,h3⟩
   exact⟨.panic v,zds,σ',M',hv,⟨v',rfl,h1⟩,h2,g.mono h3,E.trans h3,⟨hn,fun _=>.undef _⟩,hD⟩
  cases r with
  | ok x w' =>
   cases x<;>simp only[zrb]at hl<;>try exact hl.elim
   ·exact done _ _ hl
   ·exact done _ _ hl
   ·obtain⟨rfl,hl⟩:=hl
    rw[Oper.uponIn_enter]
    refine⟨fun h=>by simp[zeh]at h,(zgc hl).mono fun e w'' he=>?_⟩
    cases e with
    | returned v'=>exact done _ _ he
    | panicked ch =>
     obtain⟨v',rfl,hp⟩:=he
     exact fell _ _ hp
    | outgrown=>exact he.elim
   ·obtain⟨rfl,hl⟩:=hl
    rw[Oper.uponIn_round]
    refine⟨fun h=>by simp[zeh]at h,(zgd hl).mono fun e w'' he=>?_⟩
    cases e with
    | returned v'=>exact done _ _ he
    | panicked ch =>
     obtain⟨v',rfl,hp⟩:=he
     exact fell _ _ hp
    | outgrown=>exact he.elim
  | halt x w' =>
   cases x<;>simp only[zrb]at hl<;>try exact hl.elim
   exact fell _ _ hl
theorem zaA(ac:Act)(d:Option Tmp)(v:Value):(ac.put d v).defers=ac.defers:=by unfold Act.put;split<;>rfl
theorem zli{P:Program}{G:Env}{n:Nat}{o:Oper}{a:Nat→AV}{σ:AS}{K:(Nat→AV)→AS→Prop}{Q:AQ}(h:za1 P G o.op o.dst a σ K Q)(hd:zg9 n o.dst=true)
  {ro:Option Nat} {D:List Deferred} {M0 F0 w0 M w} {ac:Act} (S:Sim M σ w) (g:GOk P G M σ.F w) (E:Ext M0 F0 w0 M σ.F w) (f:Fr M σ.F w a ac n) (hD:ac.defers=D) {Kc:Act→World→Prop}
  (hK:∀a' σ' M' ac' w',K a' σ'→Sim M' σ' w'→GOk P G M' σ'.F w'→Ext M0 F0 w0 M' σ'.F w'→Fr M' σ'.F w' a' ac' n→ac'.defers=D→Kc ac' w') :
  o.wpIn (za0 ro) 0 P ac w Kc (QC P G n D M0 F0 w0 Q) :=
 by
 cases hnx:zbd o.op with
 | none=>exact ziw hnx h S g E (fun x _=>zlh g f x) f.size hD fun _ _ σ' M' w' k hv S' g' E'=>hK _ σ' M' _ w' k S' g' (E.trans E') ((f.mono E').put hd hv) (by rw[zaA,hD])
 | some x =>
  have hop:(∃b,o.op=.next (.tmp x) b)∨∃t k v,o.op=.insert t (.tmp x) k v:=by
   unfold zbd at hnx
   split at hnx
   ·rename_i y b hy;cases hnx;exact .inl ⟨b,hy⟩
   ·rename_i t y k v hy;cases hnx;exact .inr ⟨t,k,v,hy⟩
   ·cases hnx
  refine⟨fun _ _=>trivial,?_⟩
  have hsem:o.semAt (za0 ro).round ac.eval=execOp ac.eval o:=o.semAt_eq _ _ (zei h)
  rw[hsem]
  unfold za1 at h
  rw[hnx]at h
  simp only at h
  have e:ac.eval (.tmp x)=ac.tmps.getD x undef:=rfl
  obtain⟨x',nx,w',hnv,hrun,v2,v,σ',M',hk,hv2,hv,S',E'⟩:∃x' nx w',(nx=.value x'∨nx=.skip∧x'=undef)∧(execOp ac.eval o).run P w=.ok nx w'∧∃v2 v σ' M',K (put (upd a x v2) o.dst v) σ'∧VR M' σ'.F w' v2 (ac.tmps.getD x undef)∧VR M' σ'.F w' v x'∧Sim M' σ' w'∧Ext M σ.F w M' σ'.F w':=by
   rcases hop with ⟨b,hop⟩|⟨t,k,v,hop⟩
   ·rw[hop]at h
    obtain⟨x',w',h1,h2⟩:∃x' w',(Instr.next (ac.tmps.getD x undef) b o.type).run P w=.ok x' w'∧∃v2 v σ' M',K (put (upd a x v2) o.dst v) σ'∧VR M' σ'.F w' v2 (ac.tmps.getD x undef)∧VR M' σ'.F w' v x'∧Sim M' σ' w'∧Ext M σ.F w M' σ'.F w':=by
     cases b with
     | false =>
      simp only[zob]at h
      exact zjs (P:=P) (t:=o.type) h S (f.val x)
     | true =>
      simp only[zob]at h
      exact ziu (P:=P) (t:=o.type) h S (f.val x)
    refine⟨x',.value x',w',.inl rfl,?_,h2⟩
    unfold execOp;simp only[hop]
    rw[Sem.run_bind,e,h1]
    rfl
   ·rw[hop]at h
    simp only[zob]at h
    obtain⟨w',h1,m2,σ',M',hk,hm2,S',E'⟩:=zg7 (P:=P) h S (f.val x) (zlh g f k) (zlh g f v)
    refine⟨undef,.skip,w',.inr ⟨rfl,rfl⟩,?_,m2,.tuple [],σ',M',hk,hm2,.tuple _ _ rfl (fun j h=>absurd h (yaA _)),S',E'⟩
    unfold execOp;simp only[hop]
    rw[Sem.run_bind,e,h1]
    rfl
  rw[hrun]
  have hgo:Kc (ac.put o.dst x') w'→o.uponIn (za0 ro) 0 P ac Kc (QC P G n D M0 F0 w0 Q) (.ok nx w'):=fun q=>by
   rcases hnv with rfl|⟨rfl,rfl⟩
   ·rw[Oper.uponIn_value];exact q
   ·exact q
  refine hgo ?_
  have f2:Fr M' σ'.F w' (upd a x v2) ac n:=⟨f.size,fun t=>by
   simp only[upd]
   by_cases ht:t=x
   ·subst ht;rw[if_pos rfl];exact hv2
   ·rw[if_neg ht];exact(f.val t).mono E'⟩
  exact hK _ σ' M' _ w' hk S' (g.mono E') (E.trans E') (f2.put hd hv) (by rw[zaA,hD])
def zaV(ops:Array Oper)(o:Oper):Option (Option (Nat × Bool)) :=
 match o.guard with
 | none=>some none
 | some (j,want) =>
  match (ops[j]?).bind (·.dst)with
  | some d=>some (some (d,want))
  | none=>none
theorem zbT{ops:Array Oper}{o:Oper}{g:Option (Nat × Bool)}(hg:zaV ops o=some g){M F w}{a:Nat→AV}{ac:Act}(f:∀d want,g=some (d,want)→VR M F w (a d) (ac.tmps.getD d undef))
  {yes no:Prop} (h:zaN a g yes no):(Region.wanted o (yielded ops ac.tmps)=true∧yes)∨(Region.wanted o (yielded ops ac.tmps)=false∧no):=by
 unfold zaV at hg
 split at hg
 ·rename_i hn
  cases hg
  exact .inl ⟨by simp[Region.wanted,hn],h⟩
 ·rename_i j want hj
  split at hg
  ·rename_i d hd
   cases hg
   have hv:=f d want rfl
   have hy:yielded ops ac.tmps j=match ac.tmps[d]? with|some (.bool b)=>some b|_=>none:=by
    unfold yielded;rw[hd];rfl
   simp only[zaN]at h
   split at h
   ·rename_i b hb
    rw[hb]at hv
    have hc:=hv.bool_inv
    have he:ac.tmps[d]?=some (.bool b):=by
     rw[ybz]at hc
     cases hq:ac.tmps[d]? with
     | none=>rw[hq]at hc;cases hc
     | some x=>rw[hq]at hc;simp at hc;rw[hc]
    rw[he]at hy
    simp only at hy
    by_cases hbw:b=want
    ·exact .inl ⟨by simp[Region.wanted,hj,hy,hbw],h.1 hbw⟩
    ·exact .inr ⟨by simp[Region.wanted,hj,hy];exact hbw,h.2 hbw⟩
   ·rename_i hb
    rw[hb]at hv
    have he:∀b,ac.tmps[d]?≠some (.bool b):=by
     intro b hq
     rw[ybz,hq]at hv
     simp at hv
     cases hv
    have hy2:yielded ops ac.tmps j=none:=by
     rw[hy];split
     ·exact absurd ‹_› (he _)
     ·rfl
    exact .inr ⟨by simp[Region.wanted,hj,hy2],h⟩
   ·exact h.elim
  ·cases hg
theorem zjw{ops:Array Oper}{o:Oper}{g:Option (Nat × Bool)}(hg:zaV ops o=some g){M F w a ac n}(f:Fr M F w a ac n){yes no:Prop}(h:zaN a g yes no):
  (Region.wanted o (yielded ops ac.tmps)=true∧yes)∨(Region.wanted o (yielded ops ac.tmps)=false∧no):=zbT hg (fun d _ _=>f.val d) h
def zfg(ops:Array Oper)(o:Oper)(again:List AG):Option PO:=(zaV ops o).map fun g=>⟨o.dst,o.op,g,again⟩
def zaH(n:Nat)(ops:Array Oper):List Oper→Option (List PO)
 | []=>some []
 | o::r=>if zg9 n o.dst then(zfg ops o []).bind fun p=>(zaH n ops r).map fun l=>p::l else none
theorem zdv(M F w):VR M F w (.tuple []) undef:=.tuple _ _ rfl fun _ h=>absurd h (yaA _)
theorem zjx{P:Program}{G:Env}{n:Nat}{ops:Array Oper}{Q:AQ}{ro:Option Nat}{D:List Deferred}{M0 F0 w0}:
  ∀(l:List Oper) (pl:List PO) (a:Nat→AV) (σ:AS) (M:Mp) (w:World) (ac:Act),zaH n ops l=some pl→zdt P G Q pl a σ→Sim M σ w→GOk P G M σ.F w→Ext M0 F0 w0 M σ.F w→Fr M σ.F w a ac n →
   ac.defers=D→wpListIn (za0 ro) 0 P ops (QC P G n D M0 F0 w0 Q) l ac w:=by
 intro l
 induction l with
 | nil =>
  intro pl a σ M w ac hp h S g E f hD
  simp only[zaH,Option.some.injEq]at hp
  subst hp
  exact⟨.normal,a,σ,M,h,trivial,S,g,E,f,hD⟩
 | cons o r ih =>
  intro pl a σ M w ac hp h S g E f hD
  simp only[zaH]at hp
  split at hp
  ·rename_i hd
   simp only[zfg]at hp
   cases hg:zaV ops o with
   | none=>simp[hg]at hp
   | some gd =>
    cases hr:zaH n ops r with
    | none=>simp[hg,hr]at hp
    | some pr =>
     simp[hg,hr]at hp
     subst hp
     simp only[zdt]at h
     unfold wpListIn
     rcases zjw hg f h with ⟨hw,hy⟩|⟨hw,hno⟩
     ·rw[if_pos hw]
      refine zli hy hd S g E f hD (fun a' σ' M' ac' w' hK S' g' E' f' hD'=>?_)
      exact ih pr a' σ' M' w' ac' hr hK.2 S' g' E' f' hD'
     ·rw[if_neg (by rw[hw];simp)]
      refine⟨fun _ _=>trivial,?_⟩
      exact ih pr _ σ M w _ hr hno S g E (f.put hd (zdv ..)) (by rw[zaA,hD])
  ·cases hp
def zbU(W:Nat→Bool)(a a':Act):Prop:=∀t,W t=false→a'.tmps.getD t undef=a.tmps.getD t undef
theorem zbU.refl(W a):zbU W a a:=fun _ _=>rfl
theorem zbU.trans{W a b c}(h:zbU W a b)(k:zbU W b c):zbU W a c:=fun t ht=>(k t ht).trans (h t ht)
theorem zbU.put{W:Nat→Bool}{a:Act}{d:Option Tmp}{v:Value}(h:∀t,d=some t→W t=true):zbU W a (a.put d v):=by
 intro t ht
 cases d with
 | none=>rfl
 | some d =>
  have hne:d≠t:=by rintro rfl;rw[h d rfl]at ht;cases ht
  simp only[Act.put,ybz,yaJ hne]
def zlj(W:Nat→Bool)(a:Act)(Q:Exit→Act→World→Prop):Exit→Act→World→Prop:=fun e a' w'=>Q e a' w'∧(e≠.outgrown→zbU W a a')
theorem LetsOut.kept{W a Q}(h:LetsOut Q):LetsOut (zlj W a Q):=let ⟨a0,w0,h⟩:=h;⟨a0,w0,h,fun e=>absurd rfl e⟩
theorem zoc(a:Act)(D:List Deferred)(d:Option Tmp)(v:Value):({ a with defers:=D }.put d v).tmps=(a.put d v).tmps:=by cases d<;>rfl
theorem zej{F:Fence}{n:Nat}{P:Program}{o:Oper}{a a0:Act}{w:World}{K K':Act→World→Prop}{Q:Exit→Act→World→Prop}{W:Nat→Bool}(h0:zbU W a0 a)
  (h:o.wpIn F n P a w K Q) (hK:∀v a' w',a'.tmps=(a.put o.dst v).tmps→K a' w'→K' a' w'):o.wpIn F n P a w K' (zlj W a0 Q):=by
 refine⟨h.1,?_⟩
 have h2:=h.2
 generalize (o.semAt F.round a.eval).run P w=r at h2
 cases r with
 | ok x w' =>
  cases x with
  | value v=>exact hK _ _ _ rfl h2
  | skip=>exact hK _ _ _ rfl h2
  | defer d=>exact hK _ _ _ (zoc ..) h2
  | enter f args =>
   refine⟨h2.1,h2.2.mono fun e w'' he=>?_⟩
   cases e with
   | returned v=>exact hK _ _ _ rfl he
   | panicked ch=>exact⟨he,fun _=>h0⟩
   | outgrown=>exact LetsOut.kept he
  | round l f tmps assign body =>
   refine⟨h2.1,h2.2.mono fun e w'' he=>?_⟩
   cases e with
   | returned v=>exact hK _ _ _ rfl he
   | panicked ch=>exact⟨he,fun _=>h0⟩
   | outgrown=>exact LetsOut.kept he
  | row row args=>exact⟨h2.1,h2.2.mono fun v w'' he=>hK _ _ _ rfl he⟩
  | _=>exact h2.elim
 | halt x w' =>
  cases x with
  | panic v=>exact⟨h2,fun _=>h0⟩
  | _=>exact h2.elim
theorem zbU.of_tmps{W a b c}(h:zbU W a b)(e:c.tmps=b.tmps):zbU W a c:=fun t ht=>by rw[e];exact h t ht
theorem zbV{F:Fence}{n:Nat}{P:Program}{ops:Array Oper}{Q:Exit→Act→World→Prop}{W:Nat→Bool}{a0:Act}:∀(l:List Oper) (a:Act) (w:World),(∀o∈l,∀t,o.dst=some t→W t=true)→zbU W a0 a →
  wpListIn F n P ops Q l a w→wpListIn F n P ops (zlj W a0 Q) l a w
 | [],a,w,_,h0,h=>⟨h,fun _=>h0⟩
 | o::l,a,w,hd,h0,h=>by
  unfold wpListIn at h ⊢
  have hp:∀v,zbU W a0 (a.put o.dst v):=fun v=>h0.trans (.put (hd o (by simp)))
  split at h
  ·rename_i hw
   rw[if_pos hw]
   exact zej h0 h fun v a' w' e hk=>zbV l _ w' (fun x hx=>hd x (by simp[hx])) ((hp v).of_tmps e) hk
  ·rename_i hw
   rw[if_neg hw]
   exact⟨h.1,zbV l _ w (fun x hx=>hd x (by simp[hx])) (hp _) h.2⟩
theorem zbu{F:Fence}{n:Nat}{P:Program}{md:Region.Mode}{ops:Array Oper}{Q:Exit→Act→World→Prop}{W:Nat→Bool}{a0:Act}(hd:∀(i:Nat) (o:Oper),ops[i]?=some o→∀t,o.dst=some t→W t=true):
  ∀(fuel:Nat) (listed:Array Bool) (a:Act) (w:World),zbU W a0 a→wpAnyIn F n P md ops Q fuel listed a w→wpAnyIn F n P md ops (zlj W a0 Q) fuel listed a w
 | 0,listed,a,w,h0,h=>⟨h.1,h.2,fun _=>h0⟩
 | fuel+1,listed,a,w,h0,h=>by
  refine⟨fun hr=>⟨h.1 hr,fun _=>h0⟩,fun i hi=>?_⟩
  have h2:=h.2 i hi
  unfold wpOpIn at h2 ⊢
  cases ho:ops[i]? with
  | none =>
   simp only[ho]at h2 ⊢
   exact zbu hd fuel _ a w h0 h2
  | some o =>
   simp only[ho]at h2 ⊢
   have hp:∀v,zbU W a0 (a.put o.dst v):=fun v=>h0.trans (.put (hd i o ho))
   split at h2
   ·rename_i hw
    rw[if_pos hw]
    exact zej h0 h2 fun v a' w' e hk=>zbu hd fuel _ _ w' ((hp v).of_tmps e) hk
   ·rename_i hw
    rw[if_neg hw]
    exact⟨h2.1,zbu hd fuel _ _ w (hp _) h2.2⟩
theorem zrc{P G n D M0 F0 w0}{Q:AQ}{l:List PO}{a:Nat→AV}{M:Mp}{F:Nat→FSt}{w:World}{ac:Act}(E0:Ext M0 F0 w0 M F w)(f:Fr M F w a ac n){e:Exit}{ac':Act}{w':World}
  (h:zlj (fun t=>l.any fun o=>o.dst==some t) ac (QC P G n D M F w (zbm (zdu l a) Q)) e ac' w'):QC P G n D M0 F0 w0 Q e ac' w':=by
 obtain⟨⟨e',a',σ',M',q,r,S',g',E',f',hD'⟩,hk⟩:=h
 cases e' with
 | panic v =>
  cases e<;>simp only[zff]at r
  refine⟨.panic v,zdu l a,σ',M',q,r,S',g',E0.trans E',⟨f'.size,fun t=>?_⟩,hD'⟩
  unfold zdu
  cases hw:l.any fun o=>o.dst==some t with
  | true=>simpa using VR.undef _
  | false =>
   rw[hk (by simp) t hw]
   simpa using (f.val t).mono E'
 | normal=>exact⟨.normal,a',σ',M',q,r,S',g',E0.trans E',f',hD'⟩
 | exit i=>exact⟨.exit i,a',σ',M',q,r,S',g',E0.trans E',f',hD'⟩
 | ret=>exact⟨.ret,a',σ',M',q,r,S',g',E0.trans E',f',hD'⟩
theorem zdw{n:Nat}{ops:Array Oper}:∀(l:List Oper) (pl:List PO),zaH n ops l=some pl→∀o∈l,∀t,o.dst=some t→(pl.any fun o=>o.dst==some t)=true
 | [],_,_,o,ho,_,_=>by cases ho
 | x::l,pl,hp,o,ho,t,ht=>by
  simp only[zaH]at hp
  split at hp
  ·simp only[zfg,ybA,ybB]at hp
   obtain⟨p,⟨gd,hgd,rfl⟩,pr,hpr,rfl⟩:=hp
   rcases ybC.1 ho with rfl|ho
   ·simp[ht]
   ·have:=zdw l pr hpr o ho t ht
    simp only[ybD,this,Bool.or_true]
  ·cases hp
theorem zix{P:Program}{G:Env}{n id:Nat}{ops:Array Oper}{pl:List PO}(hp:zaH n ops ops.toList=some pl){Q:AQ}{a σ}(h:zdt P G (zbm (zdu pl a) Q) pl a σ):AWp P G n (.region id ops false) Q a σ :=
 fun _ _ _ _ _ M w ac S g E f hD=>wpIn_mono (wpIn_region_list (zbV (W:=fun t=>pl.any fun o=>o.dst==some t) (a0:=ac) _ _ _ (fun o ho t ht=>zdw _ _ hp o ho t ht) (zbU.refl _ _) (zjx ops.toList pl a σ M w ac hp h S g (.refl ..) f hD)))
  fun _ _ _ hq=>zrc E f hq
def ziy:Op→Bool
 | .load ..=>true
 | _=>false
def za7(ops:Array Oper)(o:Oper):List Nat :=
 (o.op.operands.toList.filterMap fun|.tmp t=>some t|_=>none)++(match o.guard with|some (j,_)=>((ops[j]?).bind (·.dst)).toList|none=>[])
def zW(e:Edge):Bool:=Region.binds .any e
def zap(A:Array Nat)(k i:Nat):Bool:=(A.getD i 0).testBit k
def ziz(ops:Array Oper)(A:Array Nat):Bool :=
 (ya7 ops.size).all fun i =>
  match ops[i]? with
  | some o=>A.getD i 0==o.after.toList.foldl (fun s e=>if zW e then s ||| 2^e.on ||| A.getD e.on 0 else s) 0
  | none=>false
theorem ziA{α:Type}(p:α→Bool)(f:α→Nat)(k:Nat):∀(l:List α) (s:Nat),
  (l.foldl (fun s e=>if p e then s ||| f e else s) s).testBit k=true↔(s.testBit k=true∨∃e∈l,p e=true∧(f e).testBit k=true):=by
 intro l
 induction l with
 | nil=>intro s;simp
 | cons e l ih =>
  intro s
  simp only[List.foldl_cons,ih,ybC,exists_eq_or_imp]
  by_cases hp:p e=true
  ·simp only[hp,if_true,ybE,Bool.or_eq_true,true_and]
   constructor
   ·rintro ((h|h)|h)
    ·exact .inl h
    ·exact .inr (.inl h)
    ·exact .inr (.inr h)
   ·rintro (h|h|h)
    ·exact .inl (.inl h)
    ·exact .inl (.inr h)
    ·exact .inr h
  ·simp[hp]
theorem ziB{ops:Array Oper}{A:Array Nat}(h:ziz ops A=true){i:Nat}{o:Oper}(ho:ops[i]?=some o){k:Nat}(hk:zap A k i=true):
  ∃e∈o.after.toList,zW e=true∧(e.on=k∨zap A k e.on=true):=by
 have hi:i<ops.size:=(yaU.1 ho).1
 simp only[ziz,yaM,List.mem_range]at h
 have:=h i hi
 rw[ho]at this
 simp only[beq_iff_eq]at this
 unfold zap at hk
 rw[this]at hk
 have e2:(fun(s:Nat) (e:Edge)=>if zW e then s ||| 2^e.on ||| A.getD e.on 0 else s)=fun s e=>if zW e then s ||| (2^e.on ||| A.getD e.on 0)else s:=by
  funext s e;rw[Nat.or_assoc]
 rw[e2,ziA]at hk
 rcases hk with h0|⟨e,he,hb,hbit⟩
 ·simp at h0
 ·refine⟨e,he,hb,?_⟩
  rw[ybE,Bool.or_eq_true]at hbit
  rcases hbit with h1|h1
  ·left
   rw[Nat.testBit_two_pow]at h1
   simpa using h1
  ·right;exact h1
def isE(o:Oper):Bool:=!(zbs o.op)&&!(ziy o.op)
def zcS(ops:Array Oper)(i:Nat):Option Nat:=(ops[i]?).bind fun(o:Oper)=>o.dst
structure zdS(n:Nat)(ops:Array Oper)(A:Array Nat)(π:List Nat):Prop where
 mask:ziz ops A=true
 nodup:π.Nodup
 all:∀i,i<ops.size→i∈π
 lt:∀i∈π,i<ops.size
 edges:∀d1 i d2 (o:Oper) (e:Edge),π=d1++i::d2→ops[i]?=some o→e∈o.after.toList→zW e=true→e.on∈d1
 slots:∀i j (oi oj:Oper) t,i≠j→ops[i]?=some oi→ops[j]?=some oj→oi.dst=some t→(t∈za7 ops oj∨oj.dst=some t)→zap A i j=true∨zap A j i=true
 late:∀d1 e d2 (oe:Oper) i,π=d1++e::d2→ops[e]?=some oe→isE oe=true→i∈d2→zap A e i=true
 dst:∀(i:Nat) (o:Oper),ops[i]?=some o→zg9 n o.dst=true
 nx:∀(i:Nat) (o:Oper),ops[i]?=some o→zbd o.op=none
 keep:∀d1 j d2 e d3 (oj oe:Oper) t x,π=d1++j::(d2++e::d3)→ops[j]?=some oj→oj.op=.load t x→ops[e]?=some oe→isE oe=true→zap A j e=false →
  ∃d,oj.dst=some d∧∀k∈j::(d2++[e]),(∀s∈za7 ops oj,zcS ops k≠some s)∧(k≠j→zcS ops k≠some d)
 sel:Region.noSelect ops=true
def afr(ops:Array Oper)(val:Nat→AV):List Nat→(Nat→AV)→(Nat→AV)
 | [],a=>a
 | i::l,a=>afr ops val l (put a (zcS ops i) (val i))
theorem zai{ops val}:∀(l m:List Nat) (a:Nat→AV),afr ops val (l++m) a=afr ops val m (afr ops val l a)
 | [],_,_=>rfl
 | i::l,m,a=>by simp only[List.cons_append,afr];exact zai l m _
theorem zgv{a:Nat→AV}{d:Option Nat}{v:AV}{t:Nat}(h:d≠some t):put a d v t=a t:=by
 cases d with
 | none=>rfl
 | some d=>simp only[put,upd];rw[if_neg (fun e=>h (by rw[e]))]
theorem zl6{a:Nat→AV}{v:AV}{t:Nat}:put a (some t) v t=v:=by simp[put,upd]
theorem zl7{a b:Nat→AV}{d:Option Nat}{v:AV}{t:Nat}(h:a t=b t):put a d v t=put b d v t:=by
 cases d with
 | none=>exact h
 | some d=>simp only[put,upd];split<;>first|rfl|exact h
theorem zfh{ops val}:∀(l:List Nat) (a b:Nat→AV) (t:Nat),a t=b t→afr ops val l a t=afr ops val l b t
 | [],_,_,_,h=>h
 | _::l,_,_,t,h=>zfh l _ _ t (zl7 h)
theorem zgw{ops val}(t:Nat)(p:Nat→Bool):∀(l:List Nat) (a:Nat→AV),(∀i∈l,p i=false→zcS ops i≠some t)→afr ops val (l.filter p) a t=afr ops val l a t
 | [],_,_=>rfl
 | i::l,a,h=>by
  have ih:=fun a=>zgw (ops:=ops) (val:=val) t p l a (fun j hj=>h j (by simp[hj]))
  cases hp:p i with
  | true=>rw[ybF hp];exact ih _
  | false =>
   rw[ybG (by simp[hp]),ih]
   simp only[afr]
   exact zfh l _ _ t (zgv (h i (by simp) hp)).symm
theorem zdx{ops val}(t:Nat):∀(l:List Nat) (a:Nat→AV),(∀i∈l,zcS ops i≠some t)→afr ops val l a t=a t
 | [],_,_=>rfl
 | i::l,a,h=>by
  simp only[afr]
  rw[zdx t l _ (fun j hj=>h j (by simp[hj])),zgv (h i (by simp))]
def zcl(ops:Array Oper)(A:Array Nat)(e:Nat):List Nat→List AG
 | []=>[]
 | j::r =>
  match ops[j]? with
  | some o=>match o.op,o.dst,zaV ops o with
   | .load t x,some d,some g=>if zap A j e then zcl ops A e r else⟨g,t,x,d⟩::zcl ops A e r
   | _,_,_=>zcl ops A e r
  | none=>zcl ops A e r
def zat(ops:Array Oper)(A:Array Nat):List Nat→List Nat→Option (List PO)
 | _,[]=>some []
 | done,i::r =>
  match ops[i]? with
  | some o=>(zfg ops o (if isE o then zcl ops A i done else [])).bind fun p=>(zat ops A (done++[i]) r).map fun l=>p::l
  | none=>none
def QEv(P:Program)(G:Env)(o:Oper)(a:Nat→AV)(σ:AS)(v:AV):Prop :=
 (zbs o.op=true∧zg2 P o (ev G a) v)∨∃t x,o.op=.load t x∧zbA P t (ev G a x) σ fun u=>u=v
def zAa(P:Program)(G:Env)(ops:Array Oper)(o:Oper)(a:Nat→AV)(σ:AS)(v:AV):Prop :=
 ∃g,zaV ops o=some g∧((zaN a g True False∧QEv P G o a σ v)∨(zaN a g False True∧v=.tuple []))
theorem zjy{a:Nat→AV}{g:Option (Nat × Bool)}{yes no:Prop}(h:zaN a g yes no):(zaN a g True False∧yes)∨(zaN a g False True∧no):=by
 unfold zaN at *
 split at h
 ·exact .inl ⟨trivial,h⟩
 ·rename_i d want
  cases hd:a d<;>simp only[hd]at h ⊢<;>try exact h.elim
  ·rename_i b
   by_cases e:b=want
   ·exact .inl ⟨⟨fun _=>trivial,fun h'=>h' e⟩,h.1 e⟩
   ·exact .inr ⟨⟨fun h'=>e h',fun _=>trivial⟩,h.2 e⟩
  ·rename_i vs
   cases vs with
   | nil=>exact .inr ⟨trivial,h⟩
   | cons=>exact h.elim
theorem zl8{a:Nat→AV}{g:Option (Nat × Bool)}{yes no:Prop}(h:zaN a g True False)(hc:zaN a g yes no):yes:=by
 unfold zaN at *
 split at h
 ·exact hc
 ·rename_i d want
  cases hd:a d<;>simp only[hd]at h hc<;>try exact h.elim
  ·rename_i b
   by_cases e:b=want
   ·exact hc.1 e
   ·exact(h.2 e).elim
  ·rename_i vs
   cases vs with
   | nil=>exact h.elim
   | cons=>exact h.elim
theorem zjz{a b:Nat→AV}{g:Option (Nat × Bool)}{yes no:Prop}(h:∀d w,g=some (d,w)→a d=b d):zaN a g yes no=zaN b g yes no:=by
 unfold zaN
 cases g with
 | none=>rfl
 | some p=>simp only[h p.1 p.2 rfl]
theorem zkf{G:Env}{a b:Nat→AV}{x:Operand}(h:∀t,x=.tmp t→a t=b t):ev G a x=ev G b x:=by
 cases x with
 | tmp t=>exact h t rfl
 | _=>rfl
theorem zod{P:Program}{t p σ}{K:AV→Prop}(h:zbA P t p σ K):∃v,K v∧zbA P t p σ fun u=>u=v:=by
 have part:∀{g n off cs} {K:AV→Prop},zaz g n off cs K→∃v,K v∧zaz g n off cs fun u=>u=v:=by
  intro g n off cs K h
  unfold zaz at *
  split at h
  ·rename_i hg;exact⟨_,h.2,by rw[if_pos hg];exact⟨h.1,rfl⟩⟩
  ·rename_i hg;obtain⟨v,h1,h2⟩:=h;exact⟨v,h2,by rw[if_neg hg];exact⟨v,h1,rfl⟩⟩
 unfold zbA at *
 split at h
 ·obtain⟨cs,n,h1,h2,h3⟩:=h
  obtain⟨v,h4,h5⟩:=part h3
  exact⟨v,h4,cs,n,h1,h2,h5⟩
 ·obtain⟨h1,n,h2,h3⟩:=h
  split at h3
  ·rename_i hg
   obtain⟨cs,rfl,h4,h5⟩:=h3
   exact⟨_,h5,h1,n,h2,by rw[if_pos hg];exact⟨cs,rfl,h4,rfl⟩⟩
  ·rename_i hg
   exact⟨_,h3.2,h1,n,h2,by rw[if_neg hg];exact⟨h3.1,rfl⟩⟩
 ·exact h.elim
theorem zoe{P:Program}{G:Env}{o:Oper}{a:Nat→AV}{σ:AS}{K:(Nat→AV)→AS→Prop}{Q:AQ}(hq:isE o=false)(h:za1 P G o.op o.dst a σ K Q):∃v,QEv P G o a σ v∧K (put a o.dst v) σ:=by
 have hnx:zbd o.op=none:=by
  cases hn:zbd o.op with
  | none=>rfl
  | some x =>
   have hop:(∃b,o.op=.next (.tmp x) b)∨∃t k v,o.op=.insert t (.tmp x) k v:=by
    unfold zbd at hn
    split at hn
    ·rename_i y b hy;cases hn;exact .inl ⟨b,hy⟩
    ·rename_i t y k v hy;cases hn;exact .inr ⟨t,k,v,hy⟩
    ·cases hn
   rcases hop with ⟨b,hop⟩|⟨t,k,v,hop⟩<;>simp[isE,ziy,zbs,hop]at hq
 unfold za1 at h
 rw[hnx]at h
 simp only at h
 split at h
 ·rename_i hp
  obtain⟨v,h1,h2⟩:=ze5 h
  exact⟨v,.inl ⟨hp,h2⟩,h1⟩
 ·rename_i hp
  have hp':zbs o.op=false:=by simpa using hp
  simp only[isE,hp',Bool.not_false,Bool.true_and,Bool.not_eq_false']at hq
  unfold ziy at hq
  split at hq
  ·rename_i t x ho
   rw[ho]at h
   simp only[zqc]at h
   obtain⟨v,h1,h2⟩:=zod h
   exact⟨v,.inr ⟨t,x,ho,h2⟩,h1⟩
  ·cases hq
theorem QEv.run{P:Program}{G:Env}{o:Oper}{a:Nat→AV}{σ:AS}{v:AV}(h:QEv P G o a σ v){M w}{ρ:Operand→Value}(S:Sim M σ w)(hops:∀x∈o.op.operands,VR M σ.F w (ev G a x) (ρ x)):
  ∃v' M' w',(execOp ρ o).run P w=.ok (.value v') w'∧VR M' σ.F w' v v'∧Ext M σ.F w M' σ.F w'∧Sim M' σ w':=by
 rcases h with ⟨_,hq⟩|⟨t,x,ho,hl⟩
 ·obtain⟨v',M',w',h1,h2,h3,h4⟩:=hq M σ.F w ρ S.role hops
  exact⟨v',M',w',h1,h2,h3,h4 σ rfl S⟩
 ·obtain⟨u,rfl,hh⟩:=zc8 hl
  obtain⟨v',h1,h2⟩:=hh M w (ρ x) S (hops x (by rw[ho];simp[Op.operands]))
  refine⟨v',M,w,?_,h2,.refl ..,S⟩
  unfold execOp;simp only[ho];rw[Sem.run_bind,h1];rfl
theorem QEv.nodefer{P:Program}{G:Env}{o:Oper}{a:Nat→AV}{σ:AS}{v:AV}(h:QEv P G o a σ v):∀c,o.op≠.defer c:=by
 intro c hc
 rcases h with ⟨h1,_⟩|⟨t,x,h1,_⟩
 ·rw[hc]at h1;cases h1
 ·rw[hc]at h1;cases h1
section
variable {P : Program} {G : Env} {n : Nat} {ops : Array Oper} {A : Array Nat} {π : List Nat} {Q : AQ} {a0 : Nat → AV}
theorem zcm(O:zdS n ops A π):∀(m:Nat) (d1:List Nat) (i:Nat) (d2:List Nat) (k:Nat),d1.length=m→π=d1++i::d2→zap A k i=true→k∈d1:=by
 intro m
 induction m using ybH with
 | _ m ih =>
  intro d1 i d2 k hm hπ hk
  have hi:i<ops.size:=O.lt i (by rw[hπ];simp)
  obtain⟨e,he,hb,h⟩:=ziB O.mask (yar hi) hk
  have hon:=O.edges d1 i d2 _ e hπ (yar hi) he hb
  rcases h with h|h
  ·rw[←h];exact hon
  ·obtain⟨x,y,rfl⟩:=ybI hon
   have:=ih x.length (by rw[←hm];simp) x e.on (y++i::d2) k rfl (by rw[hπ];simp) h
   simp[this]
theorem zdy(O:zdS n ops A π){L:Nat→Bool}(hcl:∀i (o:Oper),L i=true→ops[i]?=some o→∀e∈o.after.toList,zW e=true→L e.on=true):
  ∀(m:Nat) (d1:List Nat) (i:Nat) (d2:List Nat) (k:Nat) (o:Oper),d1.length=m→π=d1++i::d2→ops[i]?=some o→(∀e∈o.after.toList,zW e=true→L e.on=true)→zap A k i=true→L k=true:=by
 intro m
 induction m using ybH with
 | _ m ih =>
  intro d1 i d2 k o hm hπ ho hr hk
  obtain⟨e,he,hb,h⟩:=ziB O.mask ho hk
  have hon:=O.edges d1 i d2 o e hπ ho he hb
  rcases h with h|h
  ·rw[←h];exact hr e he hb
  ·have hLe:=hr e he hb
   obtain⟨x,y,hxy⟩:=ybI hon
   have hlt:e.on<ops.size:=O.lt e.on (by rw[hπ,hxy];simp)
   exact ih x.length (by rw[←hm,hxy];simp) x e.on (y++i::d2) k _ rfl (by rw[hπ,hxy];simp) (yar hlt) (fun e' he' hb'=>hcl e.on _ hLe (yar hlt) e' he' hb') h
theorem zcn(O:zdS n ops A π){i:Nat}(hi:i<ops.size):∃d1 d2,π=d1++i::d2:=by
 obtain⟨d1,d2,h⟩:=ybI (O.all i hi);exact⟨d1,d2,h⟩
theorem zaB{i:Nat}{o:Oper}(ho:ops[i]?=some o):zcS ops i=o.dst:=by simp[zcS,ho]
theorem zdc(O:zdS n ops A π){i k:Nat}{oi:Oper}(hi:ops[i]?=some oi)(hne:k≠i)(h1:zap A k i=false)(h2:zap A i k=false){t:Nat}(ht:t∈za7 ops oi∨oi.dst=some t):zcS ops k≠some t:=by
 intro hk
 cases hok:ops[k]? with
 | none=>simp[zcS,hok]at hk
 | some ok =>
  rw[zaB hok]at hk
  rcases O.slots k i ok oi t hne hok hi hk ht with h|h
  ·rw[h]at h1;cases h1
  ·rw[h]at h2;cases h2
theorem zgx{o:Oper}{g:Option (Nat × Bool)}(hg:zaV ops o=some g){d w}(h:g=some (d,w)):d∈za7 ops o:=by
 subst h
 unfold zaV at hg
 split at hg
 ·cases hg
 ·rename_i j want hj
  split at hg
  ·rename_i d' hd
   simp at hg
   unfold za7
   rw[hj]
   simp only[hd]
   simp[hg.1]
  ·cases hg
theorem zek{o:Oper}{x:Operand}(hx:x∈o.op.operands){t:Nat}(h:x=.tmp t):t∈za7 ops o:=by
 subst h
 unfold za7
 rw[ybh,List.mem_filterMap]
 exact .inl ⟨_,by simpa using hx,rfl⟩
end
section
variable {P : Program} {G : Env} {n : Nat} {ops : Array Oper} {A : Array Nat} {π : List Nat} {Q : AQ} {a0 : Nat → AV}
theorem zco{val val':Nat→AV}:∀(l:List Nat) (a:Nat→AV),(∀i∈l,val i=val' i)→afr ops val l a=afr ops val' l a
 | [],_,_=>rfl
 | i::l,a,h=>by
  simp only[afr]
  rw[h i (by simp)]
  exact zco l _ fun j hj=>h j (by simp[hj])
structure zdd(P:Program)(G:Env)(n:Nat)(ops:Array Oper)(A:Array Nat)(π:List Nat)(Q:AQ)(a0:Nat→AV)(L:Nat→Bool)(done rest:List Nat)(val:Nat→AV)(σ:AS):Prop where
 split:π=done++rest
 closed:∀i (o:Oper),L i=true→ops[i]?=some o→∀e∈o.after.toList,zW e=true→L e.on=true
 sub:∀i,L i=true→i∈done
 eL:∀i∈done,∀o:Oper,ops[i]?=some o→isE o=true→L i=true
 pend:∀d1 i d2 (o:Oper),done=d1++i::d2→ops[i]?=some o→L i=false→zAa P G ops o (afr ops val d1 a0) σ (val i)
 vc:∃pl,zat ops A done rest=some pl∧zdt P G Q pl (afr ops val done a0) σ
def zt8(ops:Array Oper)(rest:List Nat):Prop:=rest=[]∨∃e r,∃oe:Oper,rest=e::r∧ops[e]?=some oe∧isE oe=true
theorem zdd.norm(O:zdS n ops A π){L:Nat→Bool}:∀(rest done:List Nat) (val:Nat→AV) (σ:AS),zdd P G n ops A π Q a0 L done rest val σ →
  ∃done' rest' val',zdd P G n ops A π Q a0 L done' rest' val' σ∧zt8 ops rest'∧(∃q,done'=done++q∧∀i∈q,L i=false)∧∀i∈done,val' i=val i:=by
 intro rest
 induction rest with
 | nil=>intro done val σ h;exact⟨done,[],val,h,.inl rfl,⟨[],by simp,by simp⟩,fun _ _=>rfl⟩
 | cons i r ih =>
  intro done val σ h
  have hi:i<ops.size:=O.lt i (by rw[h.split];simp)
  have ho:ops[i]?=some ops[i]:=yar hi
  generalize ops[i]=o at ho
  cases hE:isE o with
  | true=>exact⟨done,i::r,val,h,.inr ⟨i,r,o,rfl,ho,hE⟩,⟨[],by simp,by simp⟩,fun _ _=>rfl⟩
  | false =>
   have hnd:=O.nodup
   rw[h.split]at hnd
   have hid:i∉done:=fun hm=>by
    rw[ybJ]at hnd
    exact hnd.2.2 i hm i (by simp) rfl
   have hL:L i=false:=by
    cases hq:L i with
    | false=>rfl
    | true=>exact absurd (h.sub i hq) hid
   obtain⟨pl,hpl,hvc⟩:=h.vc
   simp only[zat,ho,hE,zfg]at hpl
   cases hg:zaV ops o with
   | none=>simp[hg]at hpl
   | some g =>
    cases hr:zat ops A (done++[i]) r with
    | none=>simp[hg,hr]at hpl
    | some pr =>
     simp[hg,hr]at hpl
     subst hpl
     simp only[zdt]at hvc
     have key:∃v,zAa P G ops o (afr ops val done a0) σ v∧zdt P G Q pr (put (afr ops val done a0) o.dst v) σ:=by
      rcases zjy hvc with ⟨h1,h2⟩|⟨h1,h2⟩
      ·obtain⟨v,h3,h4⟩:=zoe hE h2
       exact⟨v,⟨g,hg,.inl ⟨h1,h3⟩⟩,h4.2⟩
      ·exact⟨_,⟨g,hg,.inr ⟨h1,rfl⟩⟩,h2⟩
     obtain⟨v,hp,hv⟩:=key
     have hval:∀j∈done,val j=upd val i v j:=fun j hj=>(zd _ _ (by rintro rfl;exact hid hj)).symm
     have hst:zdd P G n ops A π Q a0 L (done++[i]) r (upd val i v) σ:=by
      refine⟨by rw[h.split];simp,h.closed,fun j hj=>by simp[h.sub j hj],fun j hj oj hoj hEj=>?_,fun d1 j d2 oj hs hoj hLj=>?_,pr,hr,?_⟩
      ·rcases ybh.1 hj with hj|hj
       ·exact h.eL j hj oj hoj hEj
       ·simp at hj;subst hj;rw[ho]at hoj;cases hoj;rw[hE]at hEj;cases hEj
      ·rcases ybK d2 with rfl|⟨d2',z,rfl⟩
       ·have:=ybL hs (by simp)
        obtain⟨rfl,h2⟩:=this
        simp at h2
        subst h2
        rw[ho]at hoj;cases hoj
        rw[zc,←zco done a0 hval]
        exact hp
       ·have e1:done++[i]=(d1++j::d2')++[z]:=by rw[hs];simp
        have:=ybL e1 (by simp)
        obtain⟨e2,_⟩:=this
        have hj1:∀k∈d1,val k=upd val i v k:=fun k hk=>hval k (by rw[e2];simp[hk])
        rw[←zco d1 a0 hj1,←hval j (by rw[e2];simp)]
        exact h.pend d1 j d2' oj e2 hoj hLj
      ·rw[zai,←zco done a0 hval]
       simp only[afr,zc,zaB ho]
       exact hv
     obtain⟨done',rest',val',k1,k2,⟨q,k3,k4⟩,k5⟩:=ih _ _ _ hst
     refine⟨done',rest',val',k1,k2,⟨i::q,by rw[k3];simp,fun j hj=>?_⟩,fun j hj=>?_⟩
     ·rcases ybC.1 hj with rfl|hj
      ·exact hL
      ·exact k4 j hj
     ·rw[k5 j (by simp[hj]),←hval j hj]
theorem zt9(O:zdS n ops A π){L:Nat→Bool}{done rest:List Nat}{val:Nat→AV}{σ:AS}(h:zdd P G n ops A π Q a0 L done rest val σ){d1 d2:List Nat}{i:Nat}{o:Oper}(hs:π=d1++i::d2)(ho:ops[i]?=some o)
  (hLi:L i=false) (hready:∀e∈o.after.toList,zW e=true→L e.on=true) (hd:∃q,done=d1++q) {t:Nat} (ht:t∈za7 ops o) :
  afr ops val (done.filter L) a0 t=afr ops val d1 a0 t:=by
 obtain⟨q,hq⟩:=hd
 have hnd:=O.nodup
 -- none of those that are not zap of it writes the slot
 have hin:∀k,zap A k i=true→L k=true:=fun k hk=>zdy O h.closed d1.length d1 i d2 k o rfl hs ho hready hk
 have hik:∀k,L k=true→zap A i k=false:=fun k hk=>by
  cases hq:zap A i k with
  | false=>rfl
  | true =>
   have hkd:=h.sub k hk
   have hkl:k<ops.size:=O.lt k (by rw[h.split];simp[hkd])
   obtain⟨x,y,hxy⟩:=zcn O hkl
   have:=zdy O h.closed x.length x k y i _ rfl hxy (yar hkl) (fun e he hb=>h.closed k _ hk (yar hkl) e he hb) hq
   rw[hLi]at this;cases this
 have hd1:i∉d1:=fun hm=>by
  rw[hs,ybJ]at hnd
  exact hnd.2.2 i hm i (by simp) rfl
 rw[hq,ybM,zai]
 rw[zdx t (q.filter L)]
 ·refine zgw t L d1 a0 fun k hk hLk=>?_
  refine zdc O ho (fun e=>hd1 (e▸hk)) ?_ ?_ (.inl ht)
  ·cases hz:zap A k i with
   | false=>rfl
   | true=>rw[hin k hz]at hLk;cases hLk
  ·cases hz:zap A i k with
   | false=>rfl
   | true =>
    obtain⟨x,y,rfl⟩:=ybI hk
    have:=zcm O x.length x k (y++i::d2) i rfl (by rw[hs];simp) hz
    exact absurd (by simp[this]) hd1
 ·intro k hk
  simp only[ybN]at hk
  have hki:k≠i:=fun e=>by rw[e,hLi]at hk;exact absurd hk.2 (by simp)
  refine zdc O ho hki ?_ (hik k hk.2) (.inl ht)
  cases hz:zap A k i with
  | false=>rfl
  | true =>
   have hkd1:=zcm O d1.length d1 i d2 k rfl hs hz
   have hkdone:k∈done:=h.sub k hk.2
   have hnd2:done.Nodup:=by have:=O.nodup;rw[h.split,ybJ]at this;exact this.1
   rw[hq,ybJ]at hnd2
   exact absurd rfl (hnd2.2.2 k hkd1 k hk.1)
theorem zdT{L:Nat→Bool}{i:Nat}{l:List Nat}(h:i∉l):l.filter (upd L i true)=l.filter L:=by
 apply ybO
 intro k hk
 exact zd _ _ (by rintro rfl;exact h hk)
theorem zcp{l m:List Nat}{i:Nat}(h:(l++i::m).Nodup):i∉l∧i∉m:=by
 rw[ybJ]at h
 refine⟨fun hm=>h.2.2 i hm i (by simp) rfl,fun hm=>?_⟩
 have:=h.2.1
 rw[ybP]at this
 exact this.1 hm
theorem zl9(hnd:π.Nodup){L:Nat→Bool}{i:Nat}(hi:i∈π)(hL:L i=false):(π.filter fun k=>!(upd L i true) k).length+1=(π.filter fun k=>!L k).length:=by
 obtain⟨x,y,rfl⟩:=ybI hi
 obtain⟨h1,h2⟩:=zcp hnd
 have e:∀l:List Nat,i∉l→(l.filter fun k=>!(upd L i true) k)=l.filter fun k=>!L k:=by
  intro l hl
  apply ybO
  intro k hk
  rw[zd _ _ (by rintro rfl;exact hl hk)]
 rw[ybM,ybM,ybG (by simp[zc]),ybF (by simp[hL]),e x h1,e y h2]
 simp;omega
theorem zdd.done_all(O:zdS n ops A π){L:Nat→Bool}{done rest:List Nat}{val:Nat→AV}{σ:AS}(h:zdd P G n ops A π Q a0 L done rest val σ)(hall:∀i∈π,L i=true):
  Q .normal (afr ops val (done.filter L) a0) σ:=by
 have hr:rest=[]:=by
  cases rest with
  | nil=>rfl
  | cons e r =>
   have:=h.sub e (hall e (by rw[h.split];simp))
   have hnd:=O.nodup
   rw[h.split]at hnd
   exact absurd this (zcp hnd).1
 subst hr
 obtain⟨pl,hpl,hvc⟩:=h.vc
 simp[zat]at hpl
 subst hpl
 have:done.filter L=done:=ybQ.2 fun i hi=>hall i (by rw[h.split];simp[hi])
 rw[this]
 exact hvc
theorem ziC(O:zdS n ops A π){listed:Array Bool}(hsz:listed.size=ops.size)(hr:Region.ready .any ops listed=[]):∀i∈π,listed.getD i false=true:=by
 have key:∀(m:Nat) (d1 d2:List Nat),d1.length=m→π=d1++d2→∀k∈d1,listed.getD k false=true:=by
  intro m
  induction m with
  | zero=>intro d1 d2 hm _ k hk;rw[ybR.1 hm]at hk;simp at hk
  | succ m ih =>
   intro d1 d2 hm hs k hk
   rcases ybK d1 with rfl|⟨d,z,rfl⟩
   ·simp at hm
   ·have hd:=ih d (z::d2) (by simpa using hm) (by rw[hs];simp)
    simp only[List.concat_eq_append,ybh,List.mem_singleton]at hk
    rcases hk with hk|rfl
    ·exact hd k hk
    ·cases hq:listed.getD k false with
     | true=>rfl
     | false =>
      have hlt:k<ops.size:=O.lt k (by rw[hs];simp)
      have:k∈Region.ready .any ops listed:=by
       rw[mem_ready]
       refine⟨?_,ops[k],yar hlt,fun e he hb=>?_⟩
       ·have hk':k<listed.size:=by omega
        simp only[yby,hk']at hq ⊢
        exact hq
       ·exact hd _ (O.edges d k d2 _ e (by rw[hs];simp) (yar hlt) (by simpa using he) hb)
      rw[hr]at this;simp at this
 exact key π.length π [] rfl (by simp)
end
section
variable {P : Program} {G : Env} {n : Nat} {ops : Array Oper} {A : Array Nat} {π : List Nat} {Q : AQ} {a0 : Nat → AV} {D : List Deferred} {M0 : Mp} {F0 : Nat → FSt} {w0 : World}
theorem zfi(O:zdS n ops A π){L:Nat→Bool}{done rest:List Nat}{val:Nat→AV}{σ:AS}(h:zdd P G n ops A π Q a0 L done rest val σ){d1 d2:List Nat}{i:Nat}{o:Oper}(hs:π=d1++i::d2)(ho:ops[i]?=some o)
  (hLi:L i=false) (hready:∀e∈o.after.toList,zW e=true→L e.on=true) (hd:∃q,done=d1++q) {M:Mp} {w:World} {ac:Act} (g:GOk P G M σ.F w) (f:Fr M σ.F w (afr ops val (done.filter L) a0) ac n) :
  (∀x∈o.op.operands,VR M σ.F w (ev G (afr ops val d1 a0) x) (ac.eval x))∧∀gd,zaV ops o=some gd→∀d want,gd=some (d,want)→VR M σ.F w (afr ops val d1 a0 d) (ac.tmps.getD d undef):=by
 refine⟨fun x hx=>?_,fun gd hg d want hgd=>?_⟩
 ·rw[←zkf (a:=afr ops val (done.filter L) a0) fun t ht=>zt9 O h hs ho hLi hready hd (zek hx ht)]
  exact zlh g f x
 ·rw[←zt9 O h hs ho hLi hready hd (zgx hg hgd)]
  exact f.val d
theorem QEv.again{o:Oper}{a:Nat→AV}{σ σ':AS}{v:AV}(h:QEv P G o a σ v)(hl:∀t x,o.op=.load t x→zbA P t (ev G a x) σ' fun u=>u=v):QEv P G o a σ' v:=by
 rcases h with h|⟨t,x,ho,_⟩
 ·exact .inl h
 ·exact .inr ⟨t,x,ho,hl t x ho⟩
theorem zma{e:Nat}{a:Nat→AV}{σ:AS}:∀(l:List Nat),zcZ P G a σ (zcl ops A e l)→∀j∈l,∀(o:Oper) t x d g,ops[j]?=some o→o.op=.load t x→o.dst=some d→zaV ops o=some g→zap A j e=false →
  zaN a g (zbA P t (ev G a x) σ fun v=>v=a d) True:=by
 intro l
 induction l with
 | nil=>intro _ j hj;simp at hj
 | cons k r ih =>
  intro h j hj o t x d g ho hop hd hg hah
  rcases ybC.1 hj with rfl|hj
  ·simp only[zcl,ho,hop,hd,hg,hah]at h
   exact h.1
  ·refine ih ?_ j hj o t x d g ho hop hd hg hah
   simp only[zcl]at h
   split at h
   ·split at h
    ·split at h
     ·exact h
     ·exact h.2
    ·exact h
   ·exact h
theorem zmb{ro:Option Nat}(O:zdS n ops A π):∀(fuel:Nat) (listed:Array Bool) (done rest:List Nat) (val:Nat→AV) (σ:AS) (M:Mp) (w:World) (ac:Act),
  listed.size=ops.size→(π.filter fun k=>!(listed.getD k false)).length=fuel→zdd P G n ops A π Q a0 (fun k=>listed.getD k false) done rest val σ→zt8 ops rest →
  Sim M σ w→GOk P G M σ.F w→Ext M0 F0 w0 M σ.F w→Fr M σ.F w (afr ops val (done.filter fun k=>listed.getD k false) a0) ac n→ac.defers=D →
  wpAnyIn (za0 ro) 0 P .any ops (QC P G n D M0 F0 w0 Q) fuel listed ac w:=by
 intro fuel
 induction fuel with
 | zero =>
  intro listed done rest val σ M w ac hsz hfu hst hhd S g E f hD
  have hall:∀i∈π,listed.getD i false=true:=by
   intro i hi
   have:=ybR.1 hfu
   rw[ybS]at this
   simpa using this i hi
  refine⟨?_,_,_,σ,M,hst.done_all O hall,trivial,S,g,E,f,hD⟩
  rw[ybT]
  intro i hi
  rw[mem_ready]at hi
  obtain⟨h1,o,ho,_⟩:=hi
  have hlt:=(yaU.1 ho).1
  have h2:=hall i (O.all i hlt)
  have hlt':i<listed.size:=by omega
  rw[ybz,yar hlt']at h1 h2
  simp only[Option.getD_some]at h1 h2
  rw[h2]at h1;cases h1
 | succ fuel ih =>
  intro listed done rest val σ M w ac hsz hfu hst hhd S g E f hD
  refine⟨fun hr=>⟨_,_,σ,M,hst.done_all O (ziC O hsz hr),trivial,S,g,E,f,hD⟩,fun i hi=>?_⟩
  rw[mem_ready]at hi
  obtain⟨h1,o,ho,hready0⟩:=hi
  have hready:∀e∈o.after.toList,zW e=true→listed.getD e.on false=true:=fun e he hb=>hready0 e (by simpa using he) hb
  have hlt:=(yaU.1 ho).1
  have hlt':i<listed.size:=by omega
  have hLi:listed.getD i false=false:=by
   simp only[yby,hlt']at h1 ⊢
   exact h1
  have hLset:(fun k=>(listed.setIfInBounds i true).getD k false)=upd (fun k=>listed.getD k false) i true:=by
   funext k
   by_cases hk:k=i
   ·subst hk;rw[zc];simp[yby,hlt']
   ·rw[zd _ _ hk]
    simp only[ybz]
    rw[yaJ (Ne.symm hk)]
  have hsz':(listed.setIfInBounds i true).size=ops.size:=by simpa using hsz
  have hfu':(π.filter fun k=>!((listed.setIfInBounds i true).getD k false)).length=fuel:=by
   have:=zl9 O.nodup (L:=fun k=>listed.getD k false) (O.all i hlt) hLi
   have e2:(fun k=>!((listed.setIfInBounds i true).getD k false))=fun k=>!(upd (fun k=>listed.getD k false) i true) k:=by funext k;rw[←hLset]
   rw[e2]
   omega
  have hclosed':∀j (oj:Oper),upd (fun k=>listed.getD k false) i true j=true→ops[j]?=some oj→∀e∈oj.after.toList,zW e=true→upd (fun k=>listed.getD k false) i true e.on=true:=by
   intro j oj hj hoj e he hb
   have key:listed.getD e.on false=true:=by
    by_cases hji:j=i
    ·subst hji;rw[ho]at hoj;cases hoj;exact hready e he hb
    ·rw[zd _ _ hji]at hj;exact hst.closed j oj hj hoj e he hb
   by_cases hei:e.on=i
   ·rw[hei,zc]
   ·rw[zd _ _ hei];exact key
  have hnd:(done++rest).Nodup:=by rw[←hst.split];exact O.nodup
  unfold wpOpIn
  rw[ho]
  simp only
  by_cases hid:i∈done
  · -- a quiet operation that has been looked at
   obtain⟨d1,d2,hdone⟩:=ybI hid
   have hs:π=d1++i::(d2++rest):=by rw[hst.split,hdone];simp
   obtain⟨hops,hgs⟩:=zfi O hst hs ho hLi hready ⟨i::d2,hdone⟩ g f
   obtain⟨gd,hgd,hcase⟩:=hst.pend d1 i d2 o hdone ho hLi
   obtain⟨hn1,hn2⟩:=zcp (l:=d1) (m:=d2) (by rw[←hdone];exact(ybJ.1 hnd).1)
   -- the frame behind it
   have hfr:∀t,afr ops val (done.filter (upd (fun k=>listed.getD k false) i true)) a0 t=put (afr ops val (done.filter fun k=>listed.getD k false) a0) o.dst (val i) t:=by
    intro t
    have e1:done.filter (upd (fun k=>listed.getD k false) i true)=d1.filter (fun k=>listed.getD k false)++i::d2.filter fun k=>listed.getD k false:=by
     rw[hdone,ybM,ybF (by rw[zc]),zdT hn1,zdT hn2]
    have e2:done.filter (fun k=>listed.getD k false)=d1.filter (fun k=>listed.getD k false)++d2.filter fun k=>listed.getD k false:=by
     rw[hdone,ybM,ybG (by rw[hLi];simp)]
    rw[e1,e2,zai,zai]
    simp only[afr,zaB ho]
    by_cases ht:o.dst=some t
    ·rw[zdx,ht,zl6,zl6]
     intro k hk
     simp only[ybN]at hk
     refine zdc O ho (fun e=>hn2 (e▸hk.1)) ?_ ?_ (.inr ht)
     ·cases hz:zap A k i with
      | false=>rfl
      | true =>
       have hk1:=zcm O d1.length d1 i (d2++rest) k rfl hs hz
       have:=(ybJ.1 hnd).1
       rw[hdone,ybJ]at this
       exact absurd rfl (this.2.2 k hk1 k (by simp[hk.1]))
     ·cases hz:zap A i k with
      | false=>rfl
      | true =>
       obtain⟨x,y,hxy⟩:=zcn O (O.lt k (by rw[hst.split,hdone];simp[hk.1]))
       have hkl:k<ops.size:=O.lt k (by rw[hst.split,hdone];simp[hk.1])
       have:=zdy O hst.closed x.length x k y i _ rfl hxy (yar hkl) (fun e he hb=>hst.closed k _ hk.2 (yar hkl) e he hb) hz
       rw[hLi]at this;cases this
    ·rw[zgv ht]
     exact zfh _ _ _ t (zgv ht)
   have hstage:zdd P G n ops A π Q a0 (fun k=>(listed.setIfInBounds i true).getD k false) done rest val σ:=by
    rw[hLset]
    refine⟨hst.split,hclosed',fun j hj=>?_,fun j hj oj hoj hEj=>?_,fun e1 j e2 oj hs' hoj hLj=>?_,hst.vc⟩
    ·by_cases hji:j=i
     ·rw[hji];exact hid
     ·rw[zd _ _ hji]at hj;exact hst.sub j hj
    ·by_cases hji:j=i
     ·rw[hji,zc]
     ·rw[zd _ _ hji];exact hst.eL j hj oj hoj hEj
    ·by_cases hji:j=i
     ·rw[hji,zc]at hLj;cases hLj
     ·rw[zd _ _ hji]at hLj;exact hst.pend e1 j e2 oj hs' hoj hLj
   have hgo:∀(v':Value) (M':Mp) (w':World),VR M' σ.F w' (val i) v'→Sim M' σ w'→Ext M σ.F w M' σ.F w'→wpAnyIn (za0 ro) 0 P .any ops (QC P G n D M0 F0 w0 Q) fuel (listed.setIfInBounds i true) (ac.put o.dst v') w':=by
    intro v' M' w' hv S' E'
    refine ih _ done rest val σ M' w' _ hsz' hfu' hstage hhd S' (g.mono E') (E.trans E') ?_ (by rw[zaA,hD])
    have f':=(f.mono E').put (O.dst i o ho) hv
    rw[hLset]
    exact⟨f'.size,fun t=>by rw[hfr t];exact f'.val t⟩
   rcases hcase with ⟨hc,hq⟩|⟨hc,hv0⟩
   ·rcases zbT hgd (hgs gd hgd) hc with ⟨hw,_⟩|⟨_,hw⟩
    ·rw[if_pos hw]
     obtain⟨v',M',w',hr,hv,E',S'⟩:=hq.run S hops
     refine⟨fun _ _=>trivial,?_⟩
     rw[o.semAt_eq _ _ hq.nodefer,hr,Oper.uponIn_value]
     exact hgo v' M' w' hv S' E'
    ·exact hw.elim
   ·rcases zbT hgd (hgs gd hgd) hc with ⟨_,hw⟩|⟨hw,_⟩
    ·exact hw.elim
    ·rw[if_neg (by rw[hw];simp)]
     refine⟨fun _ _=>trivial,?_⟩
     exact hgo undef M w (by rw[hv0];exact zdv ..) S (.refl ..)
  · -- the call or store that stands first
   have hirest:i∈rest:=by
    have:=O.all i hlt
    rw[hst.split,ybh]at this
    exact this.resolve_left hid
   obtain⟨e,r,oe,hrest,hoe,hEe⟩:∃e r,∃oe:Oper,rest=e::r∧ops[e]?=some oe∧isE oe=true:=by
    rcases hhd with h|h
    ·rw[h]at hirest;simp at hirest
    ·exact h
   have hie:i=e:=by
    rw[hrest]at hirest
    rcases ybC.1 hirest with h|h
    ·exact h
    ·exfalso
     have hah:=O.late done e r oe i (by rw[hst.split,hrest]) hoe hEe h
     obtain⟨x,y,hxy⟩:=zcn O hlt
     have hLe:=zdy O hst.closed x.length x i y e o rfl hxy ho hready hah
     have:=hst.sub e hLe
     rw[hrest]at hnd
     exact(zcp hnd).1 this
   subst hie
   rw[ho]at hoe;cases hoe
   subst hrest
   have hs:π=done++i::r:=hst.split
   obtain⟨hops,hgs⟩:=zfi O hst hs ho hLi hready ⟨[],by simp⟩ g f
   obtain⟨pl,hpl,hvc⟩:=hst.vc
   simp only[zat,ho,zfg]at hpl
   cases hg:zaV ops o with
   | none=>simp[hg]at hpl
   | some gd =>
    cases hr:zat ops A (done++[i]) r with
    | none=>simp[hg,hr]at hpl
    | some pr =>
     simp[hg,hr,hEe]at hpl
     subst hpl
     simp only[zdt]at hvc
     -- what goes on behind it
     have hgo:∀(v:AV) (v':Value) (σ':AS) (M':Mp) (w':World),zdt P G Q pr (put (afr ops val done a0) o.dst v) σ'→VR M' σ'.F w' v v'→Sim M' σ' w'→GOk P G M' σ'.F w'→Ext M σ.F w M' σ'.F w' →
       (∀d1 j d2 (oj:Oper),done=d1++j::d2→ops[j]?=some oj→listed.getD j false=false→zAa P G ops oj (afr ops val d1 a0) σ' (val j)) →
       wpAnyIn (za0 ro) 0 P .any ops (QC P G n D M0 F0 w0 Q) fuel (listed.setIfInBounds i true) (ac.put o.dst v') w':=by
      intro v v' σ' M' w' hvc' hv S' g' E' hpend
      have hval:∀j∈done,val j=upd val i v j:=fun j hj=>(zd _ _ (by rintro rfl;exact hid hj)).symm
      have hst1:zdd P G n ops A π Q a0 (upd (fun k=>listed.getD k false) i true) (done++[i]) r (upd val i v) σ':=by
       refine⟨by rw[hs];simp,hclosed',fun j hj=>?_,fun j hj oj hoj hEj=>?_,fun e1 j e2 oj hs' hoj hLj=>?_,pr,hr,?_⟩
       ·by_cases hji:j=i
        ·rw[hji];simp
        ·rw[zd _ _ hji]at hj;simp[hst.sub j hj]
       ·rcases ybh.1 hj with hj|hj
        ·by_cases hji:j=i
         ·rw[hji,zc]
         ·rw[zd _ _ hji];exact hst.eL j hj oj hoj hEj
        ·simp at hj;rw[hj,zc]
       ·rcases ybK e2 with rfl|⟨e2',z,rfl⟩
        ·obtain⟨_,h2⟩:=ybL hs' (by simp)
         simp at h2
         rw[←h2,zc]at hLj;cases hLj
        ·have q1:done++[i]=(e1++j::e2')++[z]:=by rw[hs'];simp
         obtain⟨q2,_⟩:=ybL q1 (by simp)
         have hj1:∀k∈e1,val k=upd val i v k:=fun k hk=>hval k (by rw[q2];simp[hk])
         rw[←zco e1 a0 hj1,←hval j (by rw[q2];simp)]
         have hji:j≠i:=by rintro rfl;exact hid (by rw[q2];simp)
         rw[zd _ _ hji]at hLj
         exact hpend e1 j e2' oj q2 hoj hLj
       ·rw[zai,←zco done a0 hval]
        simp only[afr,zc,zaB ho]
        exact hvc'
      obtain⟨done',rest',val',k1,k2,⟨q,k3,k4⟩,k5⟩:=zdd.norm O r (done++[i]) (upd val i v) σ' hst1
      have hstage:zdd P G n ops A π Q a0 (fun k=>(listed.setIfInBounds i true).getD k false) done' rest' val' σ':=by rw[hLset];exact k1
      refine ih _ done' rest' val' σ' M' w' _ hsz' hfu' hstage k2 S' g' (E.trans E') ?_ (by rw[zaA,hD])
      have f':=(f.mono E').put (O.dst i o ho) hv
      rw[hLset]
      have e1:done'.filter (upd (fun k=>listed.getD k false) i true)=done.filter (fun k=>listed.getD k false)++[i]:=by
       rw[k3,ybM,ybM,zdT hid,ybF (by rw[zc])]
       rw[show q.filter (upd (fun k=>listed.getD k false) i true)=[] from by
        rw[ybS];intro j hj;rw[k4 j hj];simp]
       simp
      have e2:∀j∈done.filter (fun k=>listed.getD k false)++[i],val' j=upd val i v j:=by
       intro j hj
       refine k5 j ?_
       rcases ybh.1 hj with hj|hj
       ·exact ybh.2 (.inl ((ybN.1 hj).1))
       ·exact ybh.2 (.inr hj)
      refine⟨f'.size,fun t=>?_⟩
      rw[e1,zco _ a0 e2,zai]
      simp only[afr,zc,zaB ho]
      rw[←zco (done.filter fun k=>listed.getD k false) a0 (fun j hj=>hval j ((ybN.1 hj).1))]
      exact f'.val t
     rcases zbT hg (hgs gd hg) hvc with ⟨hw,hop⟩|⟨hw,hno⟩
     ·rw[if_pos hw]
      refine ziw (O.nx i o ho) hop S g E hops f.size hD fun v v' σ' M' w' hK hv S' g' E'=>?_
      refine hgo v v' σ' M' w' hK.2 hv S' g' E' fun d1 j d2 oj hdn hoj hLj=>?_
      obtain⟨gj,hgj,hcase⟩:=hst.pend d1 j d2 oj hdn hoj hLj
      refine⟨gj,hgj,?_⟩
      rcases hcase with ⟨hc,hq⟩|hc
      ·refine .inl ⟨hc,hq.again fun t x hox=>?_⟩
       have hah:zap A j i=false:=by
        cases hz:zap A j i with
        | false=>rfl
        | true =>
         have:=zdy O hst.closed done.length done i r j o rfl hs ho hready hz
         rw[hLj]at this;cases this
       obtain⟨d,hdj,hkeep⟩:=O.keep d1 j d2 i r oj o t x (by rw[hs,hdn];simp) hoj hox ho hEe hah
       have hmem:=zma done hK.1 j (by rw[hdn];simp) oj t x d gj hoj hox hdj hgj hah
       -- the slots are as they were
       have hslot:∀s∈za7 ops oj,put (afr ops val done a0) o.dst v s=afr ops val d1 a0 s:=by
        intro s hs1
        rw[zgv (by have:=(hkeep i (by simp)).1 s hs1;rwa [zaB ho]at this)]
        rw[hdn,zai]
        exact zdx s (j::d2) _ fun k hk=>(hkeep k (by rcases ybC.1 hk with h|h<;>simp[h])).1 s hs1
       have hji:j≠i:=by rintro rfl;exact hid (by rw[hdn];simp)
       have hdst:put (afr ops val done a0) o.dst v d=val j:=by
        rw[zgv (by have:=(hkeep i (by simp)).2 (Ne.symm hji);rwa [zaB ho]at this)]
        rw[hdn,zai]
        simp only[afr,zaB hoj,hdj]
        rw[zdx d d2 _ fun k hk=>?_,zl6]
        refine(hkeep k (by simp[hk])).2 ?_
        rintro rfl
        have hn:=(ybJ.1 hnd).1
        rw[hdn]at hn
        exact(zcp hn).2 hk
       have hcc:zaN (put (afr ops val done a0) o.dst v) gj True False:=by
        rw[zjz (b:=afr ops val d1 a0) fun d' w' hgw=>hslot d' (zgx hgj hgw)]
        exact hc
       have h2:=zl8 hcc hmem
       rw[hdst,zkf (b:=afr ops val d1 a0) fun t' ht'=>hslot t' (zek (by rw[hox];simp[Op.operands]) ht')]at h2
       exact h2
      ·exact .inr hc
     ·rw[if_neg (by rw[hw];simp)]
      refine⟨fun _ _=>trivial,?_⟩
      exact hgo (.tuple []) undef σ M w hno (zdv ..) S g (.refl ..) (fun d1 j d2 oj hdn hoj hLj=>hst.pend d1 j d2 oj hdn hoj hLj)
end
def zkg(ops:Array Oper):List Nat→List Nat→Bool
  | _,[]=>true
  | done,i::r =>
    (match ops[i]? with
     | some o=>o.after.toList.all fun e=>!(zW e)||done.elem e.on
     | none=>true)&&zkg ops (done++[i]) r
theorem zfj{ops:Array Oper}:∀(rest done:List Nat),zkg ops done rest=true→∀d1 i d2 (o:Oper) (e:Edge),rest=d1++i::d2→ops[i]?=some o→e∈o.after.toList→zW e=true→e.on∈done++d1
 | [],_,_,d1,i,d2,_,_,hs,_,_,_=>by simp at hs
 | x::r,done,h,d1,i,d2,o,e,hs,ho,he,hb=>by
  simp only[zkg,Bool.and_eq_true]at h
  cases d1 with
  | nil =>
   simp at hs
   obtain⟨rfl,rfl⟩:=hs
   rw[ho]at h
   have:=yaM.1 h.1 e he
   rw[hb]at this
   simp at this
   simpa using this
  | cons y d1 =>
   simp at hs
   obtain⟨rfl,hs⟩:=hs
   have:=zfj r (done++[x]) h.2 d1 i d2 o e hs ho he hb
   simpa using this
def zof(ops:Array Oper)(A:Array Nat):List Nat→Bool
  | []=>true
  | e::r =>
    (match ops[e]? with
     | some o=>!(isE o)||r.all fun i=>zap A e i
     | none=>true)&&zof ops A r
theorem zgy{ops:Array Oper}{A:Array Nat}:∀(l:List Nat),zof ops A l=true→∀d1 e d2 (oe:Oper) i,l=d1++e::d2→ops[e]?=some oe→isE oe=true→i∈d2→zap A e i=true
 | [],_,d1,e,d2,_,_,hs,_,_,_=>by simp at hs
 | x::r,h,d1,e,d2,oe,i,hs,ho,hE,hi=>by
  simp only[zof,Bool.and_eq_true]at h
  cases d1 with
  | nil =>
   simp at hs
   obtain⟨rfl,rfl⟩:=hs
   have h1:=h.1
   rw[ho]at h1
   simp only[hE,Bool.not_true,Bool.false_or]at h1
   exact yaM.1 h1 i hi
  | cons y d1 =>
   simp at hs
   obtain⟨rfl,hs⟩:=hs
   exact zgy r h.2 d1 e d2 oe i hs ho hE hi
def zmc(ops:Array Oper)(A:Array Nat)(e:Nat):List Nat→Bool
  | []=>true
  | j::r =>
    (match ops[j]? with
     | some o=>!(ziy o.op)||zap A j e ||
        (match o.dst with
         | some d=>(j::(r++[e])).all fun k=>(match zcS ops k with|some s=>!((za7 ops o).elem s)&&(k==j||!(s==d))|none=>true)
         | none=>false)
     | none=>true)&&zmc ops A e r
theorem zgz{ops:Array Oper}{A:Array Nat}{e:Nat}:∀(l:List Nat),zmc ops A e l=true→∀d1 j d2 (oj:Oper) t x,l=d1++j::d2→ops[j]?=some oj→oj.op=.load t x→zap A j e=false →
  ∃d,oj.dst=some d∧∀k∈j::(d2++[e]),(∀s∈za7 ops oj,zcS ops k≠some s)∧(k≠j→zcS ops k≠some d)
 | [],_,d1,j,d2,_,_,_,hs,_,_,_=>by simp at hs
 | y::r,h,d1,j,d2,oj,t,x,hs,ho,hop,hah=>by
  simp only[zmc,Bool.and_eq_true]at h
  cases d1 with
  | nil =>
   simp at hs
   obtain⟨rfl,rfl⟩:=hs
   have h1:=h.1
   rw[ho]at h1
   simp only[hop,ziy,hah,Bool.not_true,Bool.false_or]at h1
   cases hd:oj.dst with
   | none=>rw[hd]at h1;cases h1
   | some d =>
    rw[hd]at h1
    refine⟨d,rfl,fun k hk=>?_⟩
    have:=yaM.1 h1 k hk
    cases hdk:zcS ops k with
    | none=>exact⟨(fun _ _ h=>by cases h),(fun _ h=>by cases h)⟩
    | some s =>
     rw[hdk]at this
     simp only[Bool.and_eq_true,Bool.not_eq_true',Bool.or_eq_true,beq_iff_eq]at this
     refine⟨fun s' hs' h=>?_,fun hkj h=>?_⟩
     ·cases h
      rw[ybU]at this
      have:=this.1
      simp[hs']at this
     ·cases h
      rcases this.2 with h|h
      ·exact hkj h
      ·simp at h
  | cons z d1 =>
   simp at hs
   obtain⟨rfl,hs⟩:=hs
   exact zgz r h.2 d1 j d2 oj t x hs ho hop hah
def zog(ops:Array Oper)(A:Array Nat):List Nat→List Nat→Bool
  | _,[]=>true
  | done,e::r =>
    (match ops[e]? with
     | some o=>!(isE o)||zmc ops A e done
     | none=>true)&&zog ops A (done++[e]) r
theorem zgA{ops:Array Oper}{A:Array Nat}:∀(rest done:List Nat),zog ops A done rest=true→∀d1 e d3 (oe:Oper),rest=d1++e::d3→ops[e]?=some oe→isE oe=true→zmc ops A e (done++d1)=true
 | [],_,_,d1,e,d3,_,hs,_,_=>by simp at hs
 | x::r,done,h,d1,e,d3,oe,hs,ho,hE=>by
  simp only[zog,Bool.and_eq_true]at h
  cases d1 with
  | nil =>
   simp at hs
   obtain⟨rfl,rfl⟩:=hs
   have h1:=h.1
   rw[ho]at h1
   simpa [hE]using h1
  | cons y d1 =>
   simp at hs
   obtain⟨rfl,hs⟩:=hs
   have:=zgA r (done++[x]) h.2 d1 e d3 oe hs ho hE
   simpa using this
def zua(ops:Array Oper)(A:Array Nat):Bool :=
 (ya7 ops.size).all fun i =>
  match zcS ops i with
  | some t=>(ya7 ops.size).all fun j=>(i==j)||(match ops[j]? with|some oj=>!((za7 ops oj).elem t||oj.dst==some t)||zap A i j||zap A j i|none=>true)
  | none=>true
def zkh:List Nat→Bool
 | []=>true
 | x::r=>!(r.elem x)&&zkh r
theorem zfk:∀(l:List Nat),zkh l=true→l.Nodup
 | [],_=>List.nodup_nil
 | x::r,h=>by
  simp only[zkh,Bool.and_eq_true,Bool.not_eq_true']at h
  rw[ybP]
  refine⟨fun hm=>?_,zfk r h.2⟩
  rw[ybU]at h
  simp[hm]at h
def zAb(n:Nat)(ops:Array Oper)(A:Array Nat)(π:List Nat):Bool :=
 ziz ops A&&zkh π&&(ya7 ops.size).all (fun i=>π.elem i)&&π.all (fun i=>decide (i<ops.size))&&zkg ops [] π&&zua ops A&&zof ops A π&&zog ops A [] π &&
 (ops.toList.all fun o=>zg9 n o.dst&&(zbd o.op).isNone)&&Region.noSelect ops
theorem ziD{n:Nat}{ops:Array Oper}{A:Array Nat}{π:List Nat}(h:zAb n ops A π=true):zdS n ops A π:=by
 simp only[zAb,Bool.and_eq_true]at h
 obtain⟨⟨⟨⟨⟨⟨⟨⟨⟨h1,h2⟩,h3⟩,h4⟩,h5⟩,h6⟩,h7⟩,h8⟩,h9⟩,h10⟩:=h
 refine⟨h1,zfk π h2,fun i hi=>?_,fun i hi=>?_,fun d1 i d2 o e hs ho he hb=>?_,fun i j oi oj t hne hoi hoj hd ht=>?_,zgy π h7,fun i o ho=>?_,fun i o ho=>?_,fun d1 j d2 e d3 oj oe t x hs hoj hop hoe hE hah=>?_,h10⟩
 ·have:=yaM.1 h3 i (by simpa using hi)
  simpa using this
 ·have:=yaM.1 h4 i hi
  simpa using this
 ·have:=zfj π [] h5 d1 i d2 o e hs ho he hb
  simpa using this
 ·have hi:i<ops.size:=(yaU.1 hoi).1
  have hj:j<ops.size:=(yaU.1 hoj).1
  have:=yaM.1 h6 i (by simpa using hi)
  rw[show zcS ops i=some t by simp[zcS,hoi,hd]]at this
  have:=yaM.1 this j (by simpa using hj)
  rw[hoj]at this
  simp only[Bool.or_eq_true,Bool.not_eq_true',beq_iff_eq]at this
  rcases this with h|h
  ·exact absurd h hne
  ·rcases h with (h|h)|h
   ·exfalso
    rw[Bool.or_eq_false_iff]at h
    rcases ht with ht|ht
    ·rw[ybU]at h
     simp[ht]at h
    ·rw[ht]at h;simp at h
   ·exact .inl h
   ·exact .inr h
 ·have:=yaM.1 h9 o (by
   obtain⟨hi,he⟩:=yaU.1 ho
   rw[←he];simp)
  exact(Bool.and_eq_true _ _▸this).1
 ·have:=yaM.1 h9 o (by
   obtain⟨hi,he⟩:=yaU.1 ho
   rw[←he];simp)
  exact Option.isNone_iff_eq_none.1 (Bool.and_eq_true _ _▸this).2
 ·have:=zgA π [] h8 (d1++j::d2) e d3 oe (by rw[hs];simp) hoe hE
  exact zgz _ (by simpa using this) d1 j d2 oj t x rfl hoj hop hah
def zrd(ops:Array Oper)(A:Array Nat):List Nat :=
 let es0:=(ya7 ops.size).filter fun i=>match ops[i]? with|some o=>isE o|none=>false
 let qs:=(ya7 ops.size).filter fun i=>match ops[i]? with|some o=>!(isE o)|none=>false
 let lev (i:Nat):Nat:=(es0.filter fun e=>zap A e i).length
 let es:=(ya7 es0.length).flatMap fun k=>es0.filter fun e=>lev e==k
 (ya7 (es.length+1)).flatMap fun k=>(qs.filter fun i=>lev i==k)++(es[k]?).toList
def zha(ops:Array Oper)(A:Array Nat):Array Nat:=((ya7 ops.size).map fun i=>match ops[i]? with
 | some o=>o.after.toList.foldl (fun s e=>if zW e then s ||| 2^e.on ||| A.getD e.on 0 else s) 0
 | none=>0).toArray
def zub(ops:Array Oper):Array Nat:=if ziz ops (Region.before ops)then Region.before ops else zha ops (zha ops (zha ops (Region.before ops)))
def zfl(n:Nat)(ops:Array Oper)(draw:Bool):Option (List PO) :=
 if draw then
  let A:=zub ops
  let π:=zrd ops A
  if zAb n ops A π then zat ops A [] π else none
 else zaH n ops ops.toList
theorem zel{ops:Array Oper}{A:Array Nat}:∀(π done:List Nat) (pl:List PO),zat ops A done π=some pl→∀i∈π,∀o:Oper,ops[i]?=some o→∀t,o.dst=some t→(pl.any fun o=>o.dst==some t)=true
 | [],_,_,_,i,hi,_,_,_,_=>by cases hi
 | x::π,done,pl,hp,i,hi,o,ho,t,ht=>by
  simp only[zat]at hp
  split at hp
  ·rename_i ox hox
   simp only[zfg,ybA,ybB]at hp
   obtain⟨p,⟨gd,hgd,rfl⟩,pr,hpr,rfl⟩:=hp
   rcases ybC.1 hi with rfl|hi
   ·rw[ho]at hox;cases hox
    simp[ht]
   ·have:=zel π _ pr hpr i hi o ho t ht
    simp only[ybD,this,Bool.or_true]
  ·cases hp
theorem zcq{P:Program}{G:Env}{n:Nat}{ops:Array Oper}(hm:P.follows .mixedOrders=true){A:Array Nat}{π:List Nat}(O:zdS n ops A π){pl:List PO}(hp:zat ops A [] π=some pl){Q:AQ}{a σ}
  (h:zdt P G (zbm (zdu pl a) Q) pl a σ):∀{ro:Option Nat} {D:List Deferred} {M:Mp} {w:World} {ac:Act},Sim M σ w→GOk P G M σ.F w→Fr M σ.F w a ac n→ac.defers=D →
   wpAnyIn (za0 ro) 0 P .any ops (zlj (fun t=>pl.any fun o=>o.dst==some t) ac (QC P G n D M σ.F w (zbm (zdu pl a) Q))) ops.size (ybV ops.size false) ac { w with drawn:=w.drawn+1 }:=by
 intro ro D M w ac S g f hD
 have h0:∀k,(ybV ops.size false).getD k false=false:=by
  intro k;rw[ybz,ybW];split<;>rfl
 have hst:zdd P G n ops A π (zbm (zdu pl a) Q) a (fun k=>(ybV ops.size false).getD k false) [] π (fun _=>.undef) σ:=by
  refine⟨rfl,fun i o hi=>?_,fun i hi=>?_,fun i hi=>by simp at hi,fun d1 i d2 o hs=>by simp at hs,pl,hp,h⟩
  ·rw[h0]at hi;cases hi
  ·simp only[h0]at hi;cases hi
 obtain⟨done,rest,val,k1,k2,⟨q,k3,k4⟩,k5⟩:=zdd.norm O π [] _ σ hst
 have hE:Ext M σ.F w M σ.F { w with drawn:=w.drawn+1 }:=.of_heap rfl ⟨rfl,rfl,rfl⟩
 refine zbu (W:=fun t=>pl.any fun o=>o.dst==some t) (a0:=ac) (fun i o ho t ht=>zel _ _ _ hp i (O.all i (yaU.1 ho).1) o ho t ht) _ _ _ _ (zbU.refl _ _) (zmb O ops.size _ done rest val σ M { w with drawn:=w.drawn+1 } ac (by simp) ?_ k1 k2 (S.of_heap rfl ⟨rfl,rfl,rfl⟩) (g.mono hE) (M0:=M) (F0:=σ.F) (w0:=w) hE ?_ hD)
 ·have:(π.filter fun k=>!((ybV ops.size false).getD k false))=π:=ybQ.2 fun i _=>by rw[h0];rfl
  rw[this]
  have hp1:π.Perm (ya7 ops.size):=by
   refine(List.perm_ext_iff_of_nodup O.nodup List.nodup_range).2 fun i=>⟨fun hi=>by simpa using O.lt i hi,fun hi=>O.all i (by simpa using hi)⟩
  simpa using hp1.length_eq
 ·have:(done.filter fun k=>(ybV ops.size false).getD k false)=[]:=ybS.2 fun i _=>by rw[h0];simp
  rw[this]
  exact⟨f.size,fun t=>(f.val t).mono hE⟩
theorem zjA{P:Program}{G:Env}{n id:Nat}{ops:Array Oper}(hm:P.follows .mixedOrders=true){A:Array Nat}{π:List Nat}(O:zdS n ops A π){pl:List PO}(hp:zat ops A [] π=some pl){Q:AQ}{a σ}
  (h:zdt P G (zbm (zdu pl a) Q) pl a σ):AWp P G n (.region id ops true) Q a σ:=by
 intro ro D M0 F0 w0 M w ac S g E f hD
 exact wpIn_mono (wpIn_region_any hm (zcq hm O hp h S g f hD)) fun _ _ _ hq=>zrc E f hq
theorem ziE{P:Program}{G:Env}{n id:Nat}{ops:Array Oper}{draw:Bool}(hm:P.follows .mixedOrders=true){pl:List PO}(hp:zfl n ops draw=some pl){Q:AQ}{a σ}(h:zdt P G (zbm (zdu pl a) Q) pl a σ):
  AWp P G n (.region id ops draw) Q a σ:=by
 unfold zfl at hp
 cases draw with
 | true =>
  simp only[if_true]at hp
  split at hp
  ·exact zjA hm (ziD ‹_›) hp h
  ·cases hp
 | false=>exact zix hp h
def zaw(ops:Array Oper)(c a:Nat):Array Oper:=ops.modify c fun o=>{ o with after:=o.after.push ⟨a,.chain⟩ }
theorem zem(ops c a):(zaw ops c a).size=ops.size:=by simp[zaw]
theorem zbW(ops:Array Oper)(c a j:Nat):(zaw ops c a)[j]?=(ops[j]?).map fun o=>if j=c then { o with after:=o.after.push ⟨a,.chain⟩ }else o:=by
 unfold zaw
 rw[Array.getElem?_modify]
 by_cases h:c=j
 ·subst h;simp
 ·rw[if_neg h]
  have:¬j=c:=fun e=>h e.symm
  simp[this]
def zdU(ops:Array Oper):Nat→Array Bool→List Nat→Prop
 | 0,_,L=>L=[]
 | f+1,listed,L=>(Region.ready .any ops listed=[]∧L=[])∨∃i rest,L=i::rest∧i∈Region.ready .any ops listed∧zdU ops f (listed.setIfInBounds i true) rest
theorem zmd{ops:Array Oper}:∀(fuel t:Nat) (listed:Array Bool),zdU ops fuel listed (Region.linearise.go .any ops fuel t listed [])
 | 0,t,listed=>by simp[zdU,Region.linearise.go]
 | fuel+1,t,listed=>by
  simp only[Region.linearise.go]
  change zdU ops (fuel+1) listed (match (Region.ready .any ops listed)[t%(Region.ready .any ops listed).length]? with
   | some i=>Region.linearise.go .any ops fuel (t/(Region.ready .any ops listed).length) (listed.setIfInBounds i true) [i]
   | none=>[].reverse)
  cases hi:(Region.ready .any ops listed)[t%(Region.ready .any ops listed).length]? with
  | none =>
   refine .inl ⟨?_,rfl⟩
   cases hr:Region.ready .any ops listed with
   | nil=>rfl
   | cons x xs =>
    rw[hr]at hi
    have hlt:t%(x::xs).length<(x::xs).length:=Nat.mod_lt _ (by simp)
    simp at hi
    simp at hlt
    omega
  | some i =>
   simp only[]
   rw[linearise_go_acc,List.reverse_singleton,List.singleton_append]
   exact .inr ⟨i,_,rfl,List.mem_of_getElem? hi,zmd fuel _ _⟩
theorem zki{F:Fence}{n:Nat}{P:Program}{ops:Array Oper}{Q:Exit→Act→World→Prop}:∀(fuel:Nat) (listed:Array Bool) (L:List Nat) (a:Act) (w:World),wpAnyIn F n P .any ops Q fuel listed a w→zdU ops fuel listed L→wpOpsIn F n P ops Q L a w
 | 0,listed,L,a,w,h,hp=>by
  simp only[zdU]at hp
  subst hp
  exact h.2
 | fuel+1,listed,L,a,w,h,hp=>by
  rcases hp with ⟨h0,rfl⟩|⟨i,rest,rfl,hi,hr⟩
  ·exact h.1 h0
  ·rw[wpOpsIn_cons]
   exact wpOpIn_mono (fun a w h=>zki fuel _ rest a w h hr) (h.2 i hi)
theorem zcr{ops:Array Oper}{c a j:Nat}{listed:Array Bool}(h:j∈Region.ready .any ops listed)(hj:j=c→listed.getD a false=true):j∈Region.ready .any (zaw ops c a) listed:=by
 rw[mem_ready]at h ⊢
 obtain⟨h1,o,ho,h2⟩:=h
 refine⟨h1,if j=c then { o with after:=o.after.push ⟨a,.chain⟩ }else o,by rw[zbW,ho];rfl,?_⟩
 intro e he hb
 by_cases hc:j=c
 ·rw[if_pos hc]at he
  rcases ybX.1 he with he|he
  ·exact h2 e he hb
  ·subst he;exact hj hc
 ·rw[if_neg hc]at he
  exact h2 e he hb
theorem zme{ops:Array Oper}{c a j:Nat}{listed:Array Bool}(h:j∈Region.ready .any (zaw ops c a) listed):j∈Region.ready .any ops listed:=by
 rw[mem_ready]at h ⊢
 obtain⟨h1,o,ho,h2⟩:=h
 rw[zbW]at ho
 obtain⟨o',ho',rfl⟩:=ybB.1 ho
 refine⟨h1,o',ho',fun e he hb=>h2 e ?_ hb⟩
 by_cases hc:j=c
 ·rw[if_pos hc];exact ybX.2 (.inl he)
 ·rw[if_neg hc];exact he
theorem zmf{ops:Array Oper}{c a:Nat}{listed:Array Bool}(h:Region.ready .any ops listed=[]):Region.ready .any (zaw ops c a) listed=[]:=by
 rw[ybT]at h ⊢
 exact fun j hj=>h j (zme hj)
theorem zlk{listed:Array Bool}{i j:Nat}(h:listed.getD j false=true):(listed.setIfInBounds i true).getD j false=true:=by
 rw[ybz]at h ⊢
 rw[ybY]
 split
 ·split
  ·rfl
  ·rename_i h1 h2
   rw[Array.getElem?_eq_none (by omega)]at h;simp at h
 ·exact h
theorem zdV{ops:Array Oper}{c a:Nat}:∀(f:Nat) (listed:Array Bool) (L:List Nat),listed.getD a false=true→zdU ops f listed L→zdU (zaw ops c a) f listed L
 | 0,_,_,_,h=>h
 | f+1,listed,L,ha,h=>by
  rcases h with ⟨h0,rfl⟩|⟨i,rest,rfl,hi,hr⟩
  ·exact .inl ⟨zmf h0,rfl⟩
  ·exact .inr ⟨i,rest,rfl,zcr hi fun _=>ha,zdV f _ rest (zlk ha) hr⟩
theorem zgB{ops:Array Oper}{i:Nat}{listed:Array Bool}(hs:listed.size=ops.size)(h:i∈Region.ready .any ops listed):(listed.setIfInBounds i true).getD i false=true:=by
 rw[mem_ready]at h
 obtain⟨_,o,ho,_⟩:=h
 have:=(yaU.1 ho).1
 rw[ybz,ybY,if_pos rfl,if_pos (by omega)];rfl
theorem zgC{ops:Array Oper}{c a:Nat}(hca:c≠a):∀(f:Nat) (listed:Array Bool) (L:List Nat),listed.size=ops.size→zdU ops f listed L→zdU (zaw ops c a) f listed L∨zdU (zaw ops a c) f listed L
 | 0,_,_,_,h=>.inl h
 | f+1,listed,L,hs,h=>by
  rcases h with ⟨h0,rfl⟩|⟨i,rest,rfl,hi,hr⟩
  ·exact .inl (.inl ⟨zmf h0,rfl⟩)
  ·by_cases h1:i=a
   ·subst h1
    exact .inl (.inr ⟨i,rest,rfl,zcr hi fun e=>absurd e.symm hca,zdV f _ rest (zgB hs hi) hr⟩)
   ·by_cases h2:i=c
    ·subst h2
     exact .inr (.inr ⟨i,rest,rfl,zcr hi fun e=>absurd e hca,zdV f _ rest (zgB hs hi) hr⟩)
    ·rcases zgC hca f _ rest (by simpa using hs) hr with k|k
     ·exact .inl (.inr ⟨i,rest,rfl,zcr hi fun e=>absurd e h2,k⟩)
     ·exact .inr (.inr ⟨i,rest,rfl,zcr hi fun e=>absurd e h1,k⟩)
theorem zjB(ops:Array Oper)(c a:Nat)(tmps:Array Value):yielded (zaw ops c a) tmps=yielded ops tmps:=by
 funext j
 unfold yielded
 have:((zaw ops c a)[j]?).bind (·.dst)=(ops[j]?).bind (·.dst):=by
  rw[zbW]
  cases ops[j]? with
  | none=>rfl
  | some o=>simp only[yaG,Option.bind_some];split<;>rfl
 rw[this]
theorem zfm{F:Fence}{n:Nat}{P:Program}{ops:Array Oper}{c a:Nat}{Q:Exit→Act→World→Prop}:∀(L:List Nat) (ac:Act) (w:World),wpOpsIn F n P (zaw ops c a) Q L ac w→wpOpsIn F n P ops Q L ac w
 | [],_,_,h=>h
 | i::L,ac,w,h=>by
  simp only[wpOpsIn]at h ⊢
  rw[zbW,zjB]at h
  cases ho:ops[i]? with
  | none=>rw[ho]at h;exact zfm L ac w h
  | some o =>
   rw[ho]at h
   simp only[yaG]at h ⊢
   have e1:∀y,Region.wanted (if i=c then { o with after:=o.after.push ⟨a,.chain⟩ }else o) y=Region.wanted o y:=fun y=>by split<;>rfl
   have e2:∀K,(if i=c then { o with after:=o.after.push ⟨a,.chain⟩ }else o:Oper).wpIn F n P ac w K Q=o.wpIn F n P ac w K Q:=fun K=>by split<;>rfl
   have e3:(if i=c then { o with after:=o.after.push ⟨a,.chain⟩ }else o:Oper).about P w ac.eval=o.about P w ac.eval:=by split<;>rfl
   have e4:(if i=c then { o with after:=o.after.push ⟨a,.chain⟩ }else o:Oper).dst=o.dst:=by split<;>rfl
   rw[e1,e2,e3,e4]at h
   split at h
   ·rename_i hw
    rw[if_pos hw]
    exact Oper.wpIn_mono (fun a w h=>zfm L a w h) h
   ·rename_i hw
    rw[if_neg hw]
    exact⟨h.1,zfm L _ w h.2⟩
theorem zeB{F:Fence}{n:Nat}{P:Program}{id:Nat}{ops:Array Oper}{Q:Exit→Act→World→Prop}{a:Act}{w:World}
  (h:∀t,∃Q':Exit→Act→World→Prop,(∀e a w,Q' e a w→Q e a w)∧wpOpsIn F n P ops Q' (Region.schedule (P.follows .mixedOrders) ops t) a { w with drawn:=w.drawn+1 }):(Code.region id ops true).wpIn F n P Q a w :=
 fun b k cs hro hb hr=>let ⟨_,hm,hq⟩:=h _;let ⟨e,a',w',q,r⟩:=wp_opsIn _ a _ hq b k cs hro hb hr;⟨e,a',w',hm _ _ _ q,.of_steps (.one (fenced_calm hb hr rfl) stepR_region_draw) r⟩
def zmg(ops:Array Oper)(A:Array Nat):Option (Nat × Nat) :=
 let es:=(ya7 ops.size).filter fun i=>match ops[i]? with|some o=>isE o|none=>false
 (es.flatMap fun i=>es.map fun j=>(i,j)).find? fun p=>decide (p.1<p.2)&&!(zap A p.1 p.2)&&!(zap A p.2 p.1)
def zgD(n:Nat):Nat→Array Oper→Option (List (List PO))
 | 0,ops=>(zfl n ops true).map fun l=>[l]
 | k+1,ops=>match zfl n ops true with
  | some l=>some [l]
  | none=>match zmg ops (zub ops)with
   | none=>none
   | some (i,j)=>if i=j then none else
    match zgD n k (zaw ops j i),zgD n k (zaw ops i j)with
    | some l1,some l2=>some (l1++l2)
    | _,_=>none
def zmh(n:Nat)(ops:Array Oper)(draw:Bool):Option (List (List PO)):=if draw then zgD n 4 ops else none
def zhb(P:Program)(G:Env)(Q:AQ)(a:Nat→AV)(σ:AS):List (List PO)→Prop
 | []=>True
 | l::r=>zdt P G (zbm (zdu l a) Q) l a σ∧zhb P G Q a σ r
theorem zcs{P:Program}{G:Env}{Q:AQ}{a σ}:∀{l r:List (List PO)},zhb P G Q a σ (l++r)→zhb P G Q a σ l∧zhb P G Q a σ r
 | [],_,h=>⟨trivial,h⟩
 | _::_,_,h=>⟨⟨h.1,(zcs h.2).1⟩,(zcs h.2).2⟩
theorem ziF{P:Program}{G:Env}{n:Nat}{ops:Array Oper}(hm:P.follows .mixedOrders=true){l:List PO}(hp:zfl n ops true=some l){Q:AQ}{a σ}(h:zdt P G (zbm (zdu l a) Q) l a σ){ro:Option Nat}{D:List Deferred}{M0:Mp}{F0:Nat→FSt}{w0:World}{M:Mp}{w:World}{ac:Act}(S:Sim M σ w)(g:GOk P G M σ.F w)
  (E:Ext M0 F0 w0 M σ.F w) (f:Fr M σ.F w a ac n) (hD:ac.defers=D) {L:List Nat} (hL:zdU ops ops.size (ybV ops.size false) L) :
  ∃Q':Exit→Act→World→Prop,(∀e a w,Q' e a w→QC P G n D M0 F0 w0 Q e a w)∧wpOpsIn (za0 ro) 0 P ops Q' L ac { w with drawn:=w.drawn+1 }:=by
 unfold zfl at hp
 simp only[if_true]at hp
 split at hp
 ·exact⟨_,fun _ _ _ hq=>zrc E f hq,zki _ _ _ _ _ (zcq hm (ziD ‹_›) hp h (ro:=ro) S g f hD) hL⟩
 ·cases hp
theorem zfn{P:Program}{G:Env}{n:Nat}(hm:P.follows .mixedOrders=true){Q:AQ}{a σ}{ro:Option Nat}{D:List Deferred}{M0:Mp}{F0:Nat→FSt}{w0:World}{M:Mp}{w:World}{ac:Act}(S:Sim M σ w)(g:GOk P G M σ.F w)
  (E:Ext M0 F0 w0 M σ.F w) (f:Fr M σ.F w a ac n) (hD:ac.defers=D):∀(k:Nat) (ops:Array Oper) (ls:List (List PO)),zgD n k ops=some ls→zhb P G Q a σ ls→∀L:List Nat,zdU ops ops.size (ybV ops.size false) L →
  ∃Q':Exit→Act→World→Prop,(∀e a w,Q' e a w→QC P G n D M0 F0 w0 Q e a w)∧wpOpsIn (za0 ro) 0 P ops Q' L ac { w with drawn:=w.drawn+1 }
 | 0,ops,ls,hp,h,L,hL=>by
  simp only[zgD,ybB]at hp
  obtain⟨l,hl,rfl⟩:=hp
  exact ziF hm hl h.1 S g E f hD hL
 | k+1,ops,ls,hp,h,L,hL=>by
  simp only[zgD]at hp
  split at hp
  ·rename_i l hl
   cases hp
   exact ziF hm hl h.1 S g E f hD hL
  ·split at hp
   ·cases hp
   ·rename_i i j _
    split at hp
    ·cases hp
    ·rename_i hij
     split at hp
     ·rename_i l1 l2 e1 e2
      cases hp
      obtain⟨h1,h2⟩:=zcs h
      rcases zgC (ops:=ops) (c:=j) (a:=i) (fun e=>hij e.symm) ops.size (ybV ops.size false) L (by simp) hL with q|q
      ·obtain⟨Q',q1,q2⟩:=zfn hm (ro:=ro) S g E f hD k _ _ e1 h1 L (by rw[zem];exact q)
       exact⟨Q',q1,zfm _ _ _ q2⟩
      ·obtain⟨Q',q1,q2⟩:=zfn hm (ro:=ro) S g E f hD k _ _ e2 h2 L (by rw[zem];exact q)
       exact⟨Q',q1,zfm _ _ _ q2⟩
     ·cases hp
theorem zll{P:Program}{G:Env}{n id:Nat}{ops:Array Oper}{draw:Bool}(hm:P.follows .mixedOrders=true){ls:List (List PO)}(hp:zmh n ops draw=some ls){Q:AQ}{a σ}(h:zhb P G Q a σ ls):
  AWp P G n (.region id ops draw) Q a σ:=by
 unfold zmh at hp
 cases draw with
 | false=>simp at hp
 | true =>
  simp only[if_true]at hp
  intro ro D M0 F0 w0 M w ac S g E f hD
  refine zeB fun t=>?_
  simp only[Region.schedule,hm,Bool.true_or,if_true]
  exact zfn hm S g E f hD 4 ops ls hp h _ (zmd ops.size t (ybV ops.size false))
inductive PC where
 | skip
 | ops (l:List PO)
 | both (ls:List (List PO))
 | seq (x y:PC)
 | cond (c:Operand) (x y:PC)
 | block (id:Nat) (c:PC)
 | loop (c:PC)
 | exit (id:Nat)
 | ret
def zdW(n:Nat):Code→Option PC
 | .skip=>some .skip
 | .region _ ops draw=>match zfl n ops draw with
  | some l=>some (.ops l)
  | none=>(zmh n ops draw).map .both
 | .seq x y=>(zdW n x).bind fun p=>(zdW n y).map fun q=>.seq p q
 | .cond c x y=>(zdW n x).bind fun p=>(zdW n y).map fun q=>.cond c p q
 | .block id c=>(zdW n c).map (.block id)
 | .loop c=>(zdW n c).map .loop
 | .exit id=>some (.exit id)
 | .ret=>some .ret
 | _=>none
def zjC(P:Program)(G:Env)(n:Nat)(p:PC)(Q:AQ)(a:Nat→AV)(σ:AS):Prop :=
 P.follows .mixedOrders=true→∀c,zdW n c=some p→AWp P G n (.loop c) Q a σ
def avc(P:Program)(G:Env)(n:Nat):PC→AQ→(Nat→AV)→AS→Prop
 | .skip,Q,a,σ=>Q .normal a σ
 | .ops l,Q,a,σ=>zdt P G (zbm (zdu l a) Q) l a σ
 | .both ls,Q,a,σ=>zhb P G Q a σ ls
 | .seq x y,Q,a,σ=>avc P G n x (zaO (avc P G n y Q) Q) a σ
 | .cond c x y,Q,a,σ =>
  match ev G a c with
  | .bool b=>(b=true→avc P G n x Q a σ)∧(b=false→avc P G n y Q a σ)
  | _=>False
 | .block id c,Q,a,σ=>avc P G n c (zak id Q) a σ
 | .loop c,Q,a,σ=>zjC P G n c Q a σ
 | .exit id,Q,a,σ=>Q (.exit id) a σ
 | .ret,Q,a,σ=>Q .ret a σ
theorem zct{P:Program}{G:Env}{n:Nat}(hm:P.follows .mixedOrders=true):∀(c:Code) (p:PC),zdW n c=some p→∀(Q:AQ) a σ,avc P G n p Q a σ→AWp P G n c Q a σ:=by
 intro c
 induction c with
 | skip=>intro p hp Q a σ h;simp[zdW]at hp;subst hp;exact fun ro D M0 F0 w0 M w ac S g E f hD=>wpIn_skip ⟨.normal,a,σ,M,h,trivial,S,g,E,f,hD⟩
 | region id ops draw =>
  intro p hp Q a σ h
  simp only[zdW]at hp
  split at hp
  ·rename_i l hl
   cases hp
   exact ziE hm hl h
  ·obtain⟨ls,hl,rfl⟩:=ybB.1 hp
   exact zll hm hl h
 | seq x y ihx ihy =>
  intro p hp Q a σ h
  simp only[zdW,ybA,ybB]at hp
  obtain⟨p1,h1,p2,h2,rfl⟩:=hp
  have hx:=ihx p1 h1 _ a σ h
  intro ro D M0 F0 w0 M w ac S g E f hD
  refine wpIn_seq (wpIn_mono (hx ro D M0 F0 w0 M w ac S g E f hD) fun e ac' w' hq=>?_)
  obtain⟨e',a',σ',M',q,r,S',g',E',f',hD'⟩:=hq
  cases e' with
  | normal=>cases e<;>simp only[zff]at r;exact ihy p2 h2 Q a' σ' q ro D M0 F0 w0 M' w' ac' S' g' E' f' hD'
  | exit i=>cases e<;>simp only[zff]at r;exact⟨.exit i,a',σ',M',q,r,S',g',E',f',hD'⟩
  | ret=>cases e<;>simp only[zff]at r;exact⟨.ret,a',σ',M',q,trivial,S',g',E',f',hD'⟩
  | panic v=>cases e<;>simp only[zff]at r;exact⟨.panic v,a',σ',M',q,r,S',g',E',f',hD'⟩
 | cond c x y ihx ihy =>
  intro p hp Q a σ h
  simp only[zdW,ybA,ybB]at hp
  obtain⟨p1,h1,p2,h2,rfl⟩:=hp
  simp only[avc]at h
  intro ro D M0 F0 w0 M w ac S g E f hD
  split at h
  ·rename_i b hb
   have hv:=zlh g f c
   rw[hb]at hv
   refine wpIn_cond_split hv.bool_inv (fun hb'=>?_) (fun hb'=>?_)
   ·exact ihx p1 h1 Q a σ (h.1 hb') ro D M0 F0 w0 M w ac S g E f hD
   ·exact ihy p2 h2 Q a σ (h.2 hb') ro D M0 F0 w0 M w ac S g E f hD
  ·exact h.elim
 | block id c ih =>
  intro p hp Q a σ h
  simp only[zdW,ybB]at hp
  obtain⟨p1,h1,rfl⟩:=hp
  have hx:=ih p1 h1 _ a σ h
  intro ro D M0 F0 w0 M w ac S g E f hD
  refine wpIn_block (wpIn_mono (hx ro D M0 F0 w0 M w ac S g E f hD) fun e ac' w' hq=>?_)
  obtain⟨e',a',σ',M',q,r,S',g',E',f',hD'⟩:=hq
  cases e' with
  | normal=>cases e<;>simp only[zff]at r;exact⟨.normal,a',σ',M',q,trivial,S',g',E',f',hD'⟩
  | exit i =>
   cases e<;>simp only[zff]at r
   subst r
   simp only[zak]at q
   simp only[Exit.inBlock]
   split at q
   ·rename_i hi;rw[if_pos hi];exact⟨.normal,a',σ',M',q,trivial,S',g',E',f',hD'⟩
   ·rename_i hi;rw[if_neg hi];exact⟨.exit _,a',σ',M',q,rfl,S',g',E',f',hD'⟩
  | ret=>cases e<;>simp only[zff]at r;exact⟨.ret,a',σ',M',q,trivial,S',g',E',f',hD'⟩
  | panic v=>cases e<;>simp only[zff]at r;exact⟨.panic v,a',σ',M',q,r,S',g',E',f',hD'⟩
 | loop c ih =>
  intro p hp Q a σ h
  simp only[zdW,ybB]at hp
  obtain⟨p1,h1,rfl⟩:=hp
  exact h hm c h1
 | exit id=>intro p hp Q a σ h;simp[zdW]at hp;subst hp;exact fun ro D M0 F0 w0 M w ac S g E f hD=>wpIn_exit ⟨.exit id,a,σ,M,h,rfl,S,g,E,f,hD⟩
 | ret=>intro p hp Q a σ h;simp[zdW]at hp;subst hp;exact fun ro D M0 F0 w0 M w ac S g E f hD=>wpIn_ret ⟨.ret,a,σ,M,h,trivial,S,g,E,f,hD⟩
 | rangeFunc=>intro p hp;simp[zdW]at hp
 | scope=>intro p hp;simp[zdW]at hp
 | label=>intro p hp;simp[zdW]at hp
 | goto=>intro p hp;simp[zdW]at hp
 | refuse=>intro p hp;simp[zdW]at hp
theorem zK{P:Program}{G:Env}{n:Nat}{p:PC}{Q:AQ}{a:Nat→AV}{σ:AS}(I:(Nat→AV)→AS→Prop)(μ:(Nat→AV)→AS→Nat)(h0:I a σ)
  (round:∀a σ,I a σ→avc P G n p (zaO (fun a' σ'=>I a' σ'∧μ a' σ'<μ a σ) Q) a σ):zjC P G n p Q a σ:=by
 intro hm c hc ro D M0 F0 w0 M w ac S g E f hD
 have key:∀(m:Nat) (a:Nat→AV) (σ:AS) (M:Mp) (w:World) (ac:Act),μ a σ<m→I a σ→Sim M σ w→GOk P G M σ.F w→Ext M0 F0 w0 M σ.F w→Fr M σ.F w a ac n→ac.defers=D →
   Code.roundsIn (za0 ro) 0 P c (QC P G n D M0 F0 w0 Q) m ac w:=by
  intro m
  induction m with
  | zero=>intro a σ M w ac h;omega
  | succ m ih =>
   intro a σ M w ac hlt hI S g E f hD
   rw[roundsIn_succ]
   refine wpIn_mono (zct hm c p hc _ a σ (round a σ hI) ro D M0 F0 w0 M w ac S g E f hD) fun e ac' w' hq=>?_
   obtain⟨e',a',σ',M',q,r,S',g',E',f',hD'⟩:=hq
   cases e' with
   | normal=>cases e<;>simp only[zff]at r;exact ih a' σ' M' w' ac' (by have:=q.2;omega) q.1 S' g' E' f' hD'
   | exit i=>cases e<;>simp only[zff]at r;exact⟨.exit i,a',σ',M',q,r,S',g',E',f',hD'⟩
   | ret=>cases e<;>simp only[zff]at r;exact⟨.ret,a',σ',M',q,trivial,S',g',E',f',hD'⟩
   | panic v=>cases e<;>simp only[zff]at r;exact⟨.panic v,a',σ',M',q,r,S',g',E',f',hD'⟩
 exact wpIn_loop_rounds (μ a σ+1) (key _ a σ M w ac (by omega) h0 S g E f hD)
def zbC(args:List AV):Nat→AV:=fun t=>(args[t]?).getD (.tuple [])
def zh6(P:Program):List ResultVar→(Nat→AV)→AS→(List AV→Prop)→Prop
 | [],_,_,K=>K []
 | .tmp t::r,a,σ,K=>zh6 P r a σ fun vs=>K (a t::vs)
 | .cell t ty::r,a,σ,K=>zbA P ty (a t) σ fun v=>zh6 P r a σ fun vs=>K (v::vs)
def tup:List AV→AV
 | [v]=>v
 | vs=>.tuple vs
def zcJ(P:Program)(res:List ResultVar)(R:Out→AS→Prop):AQ
 | .normal,a,σ|.ret,a,σ=>zh6 P res a σ fun vs=>R (.ret (tup vs)) σ
 | .panic v,_,σ=>R (.panic v) σ
 | _,_,_=>False
theorem zgE{P:Program}{M:Mp}{σ:AS}{w:World}(S:Sim M σ w){a:Nat→AV}{tmps:Array Value}(f:∀t,VR M σ.F w (a t) (tmps.getD t undef)){g:ResultVar→Sem Value}
  (g1:∀t,(g (.tmp t)).run P w=.ok (tmps.getD t undef) w) (g2:∀t ty q v,tmps.getD t undef=.pointer (some q)→(loadVar ty q).run P w=.ok v w→(g (.cell t ty)).run P w=.ok v w) :
  ∀(l:List ResultVar) (K:List AV→Prop),zh6 P l a σ K→∃(vs:List AV) (cs:List Value),K vs∧(l.mapM g).run P w=.ok cs w∧Cells M σ.F w vs cs.toArray:=by
 intro l
 induction l with
 | nil=>intro K h;exact⟨[],[],h,by simp,⟨by simp,by simp⟩⟩
 | cons r l ih =>
  intro K h
  have app:∀{v c vs cs},VR M σ.F w v c→Cells M σ.F w vs (cs:List Value).toArray→Cells M σ.F w (v::vs) (c::cs).toArray:=by
   intro v c vs cs hv hc
   refine⟨by have:=hc.1;simpa using this,fun j x hj=>?_⟩
   cases j with
   | zero=>simp at hj;subst hj;exact⟨c,by simp,hv⟩
   | succ j =>
    simp at hj
    obtain⟨y,h1,h2⟩:=hc.2 j x hj
    exact⟨y,by simpa using h1,h2⟩
  cases r with
  | tmp t =>
   simp only[zh6]at h
   obtain⟨vs,cs,hK,hr,hc⟩:=ih _ h
   exact⟨_,_,hK,by rw[ybZ,Sem.run_bind,g1];simp[hr],app (f t) hc⟩
  | cell t ty =>
   simp only[zh6]at h
   obtain⟨v,hK,hh⟩:=zc8 h
   obtain⟨v',h1,h2⟩:=hh M w _ S (f t)
   obtain⟨vs,cs,hK,hr,hc⟩:=ih _ hK
   refine⟨_,v'::cs,hK,?_,app h2 hc⟩
   have h3:(g (.cell t ty)).run P w=.ok v' w:=by
    generalize hq:tmps.getD t undef=p at h1
    cases p with
    | pointer q =>
     cases q with
     | none=>simp[Instr.loadAt,Instr.sureAddr]at h1
     | some q=>exact g2 t ty q v' hq (by simpa [Instr.loadAt,Instr.sureAddr]using h1)
    | _=>simp[Instr.loadAt,Instr.sureAddr]at h1
   rw[ybZ,Sem.run_bind,h3]
   simp[hr]
theorem zuc{P:Program}{G:Env}{f:FuncId}{fn:Func}{c:Code}{p:PC}{args:List AV}{σ:AS}{R:Out→AS→Prop}(hm:P.follows .mixedOrders=true)(hf:P.funcs[f]?=some fn)(hb:fn.body=some c)
  (hp:zdW fn.ntmps c=some p) (hn:args.length≤fn.ntmps) (h:avc P G fn.ntmps p (zcJ P fn.results.toList R) (zbC args) σ):ACalls P G f args σ R:=by
 intro M w cargs S g hc
 refine calls_of_wp hf hb (wpIn_wide.1 (wpIn_mono (zct hm c p hp _ _ σ h none [] M σ.F w M w _ S g (.refl ..) ⟨?_,fun t=>?_⟩ rfl) fun e ac' w' hq=>?_))
 ·have:=hc.1
  simp only[ybg,yb0];omega
 ·unfold zbC
  rw[ybz]
  by_cases ht:t<args.length
  ·obtain⟨x,h1,h2⟩:=hc.2 t _ (yau ht)
   rw[ybi (by rw[hc.1];exact ht),h1,yau ht]
   exact h2
  ·rw[ybj (show cargs.size≤t by rw[hc.1];omega),yb1 (by omega),ybW]
   split<;>exact zdv ..
 ·obtain⟨e',a',σ',M',q,r,S',g',E',f',hD'⟩:=hq
  have fin:zh6 P fn.results.toList a' σ' (fun vs=>R (.ret (tup vs)) σ') →
    ∃v,(results fn ac'.tmps).run P w'=.ok v w'∧∃out σ' M',R out σ'∧zbt M' σ'.F w' out (.returned v)∧Sim M' σ' w'∧Ext M σ.F w M' σ'.F w':=by
   intro hq
   have key:∀g:ResultVar→Sem Value,(∀t,(g (.tmp t)).run P w'=.ok (ac'.tmps.getD t undef) w')→(∀t ty q v,ac'.tmps.getD t undef=.pointer (some q)→(loadVar ty q).run P w'=.ok v w'→(g (.cell t ty)).run P w'=.ok v w') →
     ∃v,((((List.mapM g fn.results.toList).run P w').andThen fun a w'=>.ok a.toArray w').andThen fun vs w=>(pure (if h:vs.size=1 then vs[0]else .tuple vs):Sem Value).run P w)=.ok v w' ∧
      ∃out σ' M',R out σ'∧zbt M' σ'.F w' out (.returned v)∧Sim M' σ' w'∧Ext M σ.F w M' σ'.F w':=by
    intro g g1 g2
    obtain⟨vs,cs,hK,hr,hcc⟩:=zgE S' f'.val g1 g2 _ _ hq
    rw[hr]
    simp only[Result.andThen_ok,Sem.run_pure]
    refine⟨_,rfl,.ret (tup vs),σ',M',hK,?_,S',E'⟩
    have hl:=hcc.1
    simp only[zbt]
    have hget:=hcc.get
    split
    ·rename_i h1
     cases vs with
     | nil=>rw[h1]at hl;simp at hl
     | cons v r =>
      cases r with
      | nil=>exact hget 0 (by simp) (by rw[h1];exact Nat.one_pos)
      | cons _ _=>rw[h1]at hl;simp at hl
    ·rename_i h1
     have:tup vs=.tuple vs:=by
      cases vs with
      | nil=>rfl
      | cons v r =>
       cases r with
       | nil=>exact absurd (by simpa using hl) h1
       | cons _ _=>rfl
     rw[this]
     exact .tuple _ _ hl hget
   unfold results
   rw[Sem.run_bind,yb2,Sem.run_map]
   exact key _ (fun _=>rfl) (fun t ty q v h1 h2=>by
    simp only[h1,asAddr,Sem.run_bind,Sem.run_pure,Result.andThen_ok,h2])
  cases e' with
  | normal=>cases e<;>simp only[zff]at r;exact⟨hD',fin q⟩
  | ret=>cases e<;>simp only[zff]at r;exact⟨hD',fin q⟩
  | exit i=>exact q.elim
  | panic v =>
   cases e<;>simp only[zff]at r
   obtain⟨v',rfl,hv⟩:=r
   exact⟨hD',.panic v,σ',M',q,⟨v',rfl,hv⟩,S',E'⟩
theorem zb{P:Program}{G:Env}{f n:Nat}{fn:Func}{p:PC}{l:List ResultVar}{args:List AV}{σ:AS}{R:Out→AS→Prop}(hm:P.follows .mixedOrders=true)(hf:P.funcs[f]?=some fn)(hn:fn.ntmps=n)
  (hl:fn.results.toList=l) (hp:fn.body.bind (zdW fn.ntmps)=some p) (ha:args.length≤n) (h:avc P G n p (zcJ P l R) (zbC args) σ):ACalls P G f args σ R:=by
 subst hn;subst hl
 obtain⟨c,hc,hp⟩:=ybA.1 hp
 exact zuc hm hf hc hp ha h
def blk:Prop:=True
@[simp] theorem zBp:blk=True:=propext ⟨fun _=>trivial,fun _=>trivial⟩
def zU{α:Type}(o:Option α)(K:α→Prop):Prop:=∃x,o=some x∧K x
@[simp] theorem zs5{α:Type}(x:α)(K:α→Prop):zU (some x) K=K x:=by simp[zU]
@[congr] theorem zre{dd:Prop}(_:blk=dd){α:Type}{o o':Option α}{K:α→Prop}(h:o=o'):zU o K=zU o' K:=by rw[h]
def ifB(b:Bool)(yes no:Prop):Prop:=if b then yes else no
@[simp] theorem zw6(yes no:Prop):ifB true yes no=yes:=by simp[ifB]
@[simp] theorem zud(yes no:Prop):ifB false yes no=no:=by simp[ifB]
@[congr] theorem zue{dd:Prop}(_:blk=dd){b b':Bool}{yes no:Prop}(h:b=b'):ifB b yes no=ifB b' yes no:=by rw[h]
def zmi(v:AV)(yes no:Prop):Prop:=match v with
 | .bool b=>ifB b yes no
 | _=>False
@[simp] theorem zs6(b:Bool)(yes no:Prop):zmi (.bool b) yes no=ifB b yes no:=Eq.trans rfl rfl
@[congr] theorem zrf{dd:Prop}(_:blk=dd){v v':AV}{yes no:Prop}(h:v=v'):zmi v yes no=zmi v' yes no:=by rw[h]
def zlm(v:AV)(want:Bool)(yes no:Prop):Prop:=match v with
 | .bool b=>ifB (b==want) yes no
 | .tuple []=>no
 | _=>False
@[simp] theorem zs7(b want:Bool)(yes no:Prop):zlm (.bool b) want yes no=ifB (b==want) yes no:=Eq.trans rfl rfl
@[simp] theorem zs8(want:Bool)(yes no:Prop):zlm (.tuple []) want yes no=no:=Eq.trans rfl rfl
@[congr] theorem zrg{dd:Prop}(_:blk=dd){v v':AV}{want:Bool}{yes no:Prop}(h:v=v'):zlm v want yes no=zlm v' want yes no:=by rw[h]
@[simp] theorem zs9(a:Nat→AV)(yes no:Prop):zaN a none yes no=yes:=Eq.trans rfl rfl
@[simp] theorem zta(a:Nat→AV)(d:Nat)(want:Bool)(yes no:Prop):zaN a (some (d,want)) yes no=zlm (a d) want yes no:=by
 unfold zaN zlm
 simp only
 cases a d with
 | bool b=>cases b<;>cases want<;>simp[ifB]
 | tuple l=>cases l<;>rfl
 | _=>rfl
@[congr] theorem zqd{dd:Prop}(_:blk=dd){a a':Nat→AV}{g:Option (Nat × Bool)}{yes no:Prop}(h:a=a'):zaN a g yes no=zaN a' g yes no:=by rw[h]
section
variable {P : Program} {G : Env} {n : Nat}
@[congr] theorem zuf{dd:Prop}(_:blk=dd){p p':PC}{Q:AQ}{a a':Nat→AV}{σ σ':AS}(h:a=a')(h2:σ=σ')(h3:p=p'):avc P G n p Q a σ=avc P G n p' Q a' σ':=by rw[h,h2,h3]
@[simp] theorem zw7(Q:AQ)(a σ):avc P G n .skip Q a σ=Q .normal a σ:=Eq.trans rfl rfl
@[simp] theorem zAc(l:List PO)(Q:AQ)(a σ):avc P G n (.ops l) Q a σ=zdt P G (zbm (zdu l a) Q) l a σ:=Eq.trans rfl rfl
@[congr] theorem zrh{dd:Prop}(_:blk=dd){Q:AQ}{a a':Nat→AV}{σ σ':AS}{ls:List (List PO)}(h:a=a')(h2:σ=σ'):zhb P G Q a σ ls=zhb P G Q a' σ' ls:=by rw[h,h2]
@[simp] theorem zoh(pf)(Q:AQ)(a σ):zbm pf Q .normal a σ=Q .normal a σ:=Eq.trans rfl rfl
@[simp] theorem zqe(pf)(Q:AQ)(v a σ):zbm pf Q (.panic v) a σ=Q (.panic v) pf σ:=Eq.trans rfl rfl
@[congr] theorem zqf{dd:Prop}(_:blk=dd){pf:Nat→AV}{Q:AQ}{e:AExit}{a a':Nat→AV}{σ σ':AS}(h:a=a')(h2:σ=σ'):zbm pf Q e a σ=zbm pf Q e a' σ':=by rw[h,h2]
@[simp] theorem zAd(x y:PC)(Q:AQ)(a σ):avc P G n (.seq x y) Q a σ=avc P G n x (zaO (avc P G n y Q) Q) a σ:=Eq.trans rfl rfl
@[simp] theorem zw8(c:Operand)(x y:PC)(Q:AQ)(a σ):avc P G n (.cond c x y) Q a σ=zmi (ev G a c) (avc P G n x Q a σ) (avc P G n y Q a σ):=by
 simp only[avc,zmi]
 cases ev G a c with
 | bool b=>cases b<;>simp[ifB]
 | _=>rfl
@[simp] theorem zug(id:Nat)(c:PC)(Q:AQ)(a σ):avc P G n (.block id c) Q a σ=avc P G n c (zak id Q) a σ:=Eq.trans rfl rfl
@[simp] theorem zw9(c:PC)(Q:AQ)(a σ):avc P G n (.loop c) Q a σ=zjC P G n c Q a σ:=Eq.trans rfl rfl
@[simp] theorem zxa(i:Nat)(Q:AQ)(a σ):avc P G n (.exit i) Q a σ=Q (.exit i) a σ:=Eq.trans rfl rfl
@[simp] theorem zAe(Q:AQ)(a σ):avc P G n .ret Q a σ=Q .ret a σ:=Eq.trans rfl rfl
@[congr] theorem zri{dd:Prop}(_:blk=dd){p:PC}{Q:AQ}{a a':Nat→AV}{σ σ':AS}(h:a=a')(h2:σ=σ'):zjC P G n p Q a σ=zjC P G n p Q a' σ':=by rw[h,h2]
@[congr] theorem zqg{dd:Prop}(_:blk=dd){f:FuncId}{l l':List AV}{σ σ':AS}{R:Out→AS→Prop}(h:l=l')(h2:σ=σ'):ACalls P G f l σ R=ACalls P G f l' σ' R:=by rw[h,h2]
@[simp] theorem zqh(K:(Nat→AV)→AS→Prop)(Q:AQ)(a σ):zaO K Q .normal a σ=K a σ:=Eq.trans rfl rfl
@[simp] theorem ztb(K:(Nat→AV)→AS→Prop)(Q:AQ)(i a σ):zaO K Q (.exit i) a σ=Q (.exit i) a σ:=Eq.trans rfl rfl
@[simp] theorem zuh(K:(Nat→AV)→AS→Prop)(Q:AQ)(a σ):zaO K Q .ret a σ=Q .ret a σ:=Eq.trans rfl rfl
@[simp] theorem zrj(K:(Nat→AV)→AS→Prop)(Q:AQ)(v a σ):zaO K Q (.panic v) a σ=Q (.panic v) a σ:=Eq.trans rfl rfl
@[congr] theorem zrk{dd:Prop}(_:blk=dd){K:(Nat→AV)→AS→Prop}{Q:AQ}{e:AExit}{a a':Nat→AV}{σ σ':AS}(h:a=a')(h2:σ=σ'):zaO K Q e a σ=zaO K Q e a' σ':=by rw[h,h2]
@[simp] theorem zoi(id:Nat)(Q:AQ)(a σ):zak id Q .normal a σ=Q .normal a σ:=Eq.trans rfl rfl
@[simp] theorem zrl(id:Nat)(Q:AQ)(i a σ):zak id Q (.exit i) a σ=ifB (i==id) (Q .normal a σ) (Q (.exit i) a σ):=by
 simp only[zak,ifB,beq_iff_eq]
@[simp] theorem ztc(id:Nat)(Q:AQ)(a σ):zak id Q .ret a σ=Q .ret a σ:=Eq.trans rfl rfl
@[simp] theorem zqi(id:Nat)(Q:AQ)(v a σ):zak id Q (.panic v) a σ=Q (.panic v) a σ:=Eq.trans rfl rfl
@[congr] theorem zqj{dd:Prop}(_:blk=dd){id:Nat}{Q:AQ}{e:AExit}{a a':Nat→AV}{σ σ':AS}(h:a=a')(h2:σ=σ'):zak id Q e a σ=zak id Q e a' σ':=by rw[h,h2]
@[congr] theorem ztd{dd:Prop}(_:blk=dd){Q:AQ}{l:List PO}{a a':Nat→AV}{σ σ':AS}(h:a=a')(h2:σ=σ'):zdt P G Q l a σ=zdt P G Q l a' σ':=by rw[h,h2]
@[simp] theorem zxb(Q:AQ)(a σ):zdt P G Q [] a σ=Q .normal a σ:=Eq.trans rfl rfl
@[simp] theorem zui(Q:AQ)(d op g)(l:List PO)(a σ):zdt P G Q (⟨d,op,g,[]⟩::l) a σ =
  zaN a g (za1 P G op d a σ (zdt P G Q l) Q) (zdt P G Q l (put a d (.tuple [])) σ):=by
 show zaN a g (za1 P G op d a σ (fun a' σ'=>zcZ P G a' σ' []∧zdt P G Q l a' σ') Q) _=_
 rw[show(fun a' σ'=>zcZ P G a' σ' []∧zdt P G Q l a' σ')=zdt P G Q l from by funext a' σ';simp[zcZ]]
@[simp] theorem zte(Q:AQ)(d op g x y)(l:List PO)(a σ):zdt P G Q (⟨d,op,g,x::y⟩::l) a σ =
  zaN a g (za1 P G op d a σ (fun a' σ'=>zcZ P G a' σ' (x::y)∧zdt P G Q l a' σ') Q) (zdt P G Q l (put a d (.tuple [])) σ):=Eq.trans rfl rfl
@[simp] theorem ztf(a σ):zcZ P G a σ []=True:=Eq.trans rfl rfl
@[simp] theorem zrm(a σ)(g t x d)(r:List AG):zcZ P G a σ (⟨g,t,x,d⟩::r)=(zaN a g (zbA P t (ev G a x) σ fun v=>v=a d) True∧zcZ P G a σ r):=Eq.trans rfl rfl
@[congr] theorem ztg{dd:Prop}(_:blk=dd){op:Op}{d:Option Nat}{a a':Nat→AV}{σ σ':AS}{K:(Nat→AV)→AS→Prop}{Q:AQ}(h:a=a')(h2:σ=σ'):za1 P G op d a σ K Q=za1 P G op d a' σ' K Q:=by rw[h,h2]
@[simp] theorem zxc(a:Nat→AV)(d:Nat)(v:AV):put a (some d) v=upd a d v:=Eq.trans rfl rfl
@[simp] theorem zxd(a:Nat→AV)(v:AV):put a none v=a:=Eq.trans rfl rfl
@[simp] theorem zgF{α:Type}(f:Nat→α)(i:Nat)(x:α)(j:Nat):upd f i x j=if j=i then x else f j:=Eq.trans rfl rfl
@[simp] theorem zuj(l:List AV)(t:Nat):zbC l t=(l[t]?).getD (.tuple []):=Eq.trans rfl rfl
@[simp] theorem zBq(a:Nat→AV)(t:Nat):ev G a (.tmp t)=a t:=Eq.trans rfl rfl
@[simp] theorem zAf(a:Nat→AV)(f:Nat):ev G a (.func f)=.fn (.func f) [] []:=Eq.trans rfl rfl
@[simp] theorem zuk(a:Nat→AV)(g:Nat):ev G a (.global g)=G.g g:=Eq.trans rfl rfl
@[simp] theorem zBr(a:Nat→AV)(k n):ev G a (.const (.int k n))=.int k n:=Eq.trans rfl rfl
@[simp] theorem zAg(a:Nat→AV)(b):ev G a (.const (.bool b))=.bool b:=Eq.trans rfl rfl
@[simp] theorem zxe(a:Nat→AV):ev G a (.const (.slice none 0 0))=.nilsl:=Eq.trans rfl rfl
@[simp] theorem zxf(a:Nat→AV):ev G a (.const .nilIface)=.nilif:=Eq.trans rfl rfl
@[simp] theorem zBs(a:Nat→AV)(l):ev G a (.const (.string ⟨l⟩))=.str l.toList:=Eq.trans rfl rfl
variable {a : Nat → AV} {σ : AS} {K : (Nat → AV) → AS → Prop} {Q : AQ} {d : Option Nat}
@[simp] theorem zul(x):za1 P G (.move x) d a σ K Q=K (put a d (ev G a x)) σ:=Eq.trans rfl rfl
@[simp] theorem zrn(x):za1 P G (.assign x) d a σ K Q=K (put a d (ev G a x)) σ:=Eq.trans rfl rfl
def zmj(v x y:AV)(K:AV→Prop):Prop:=match v with
 | .bool b=>K (if b then x else y)
 | _=>False
@[simp] theorem zth(b x y)(K:AV→Prop):zmj (.bool b) x y K=K (if b then x else y):=Eq.trans rfl rfl
@[congr] theorem zro{dd:Prop}(_:blk=dd){v v' x x' y y':AV}{K:AV→Prop}(h:v=v')(h1:x=x')(h2:y=y'):zmj v x y K=zmj v' x' y' K:=by rw[h,h1,h2]
@[simp] theorem zum(c x y):za1 P G (.pick c x y) d a σ K Q=zmj (ev G a c) (ev G a x) (ev G a y) fun v=>K (put a d v) σ:=by
 simp only[za1,zbd,zbs,if_pos,zaZ,zmj]
 cases ev G a c with
 | bool b=>simp
 | _=>simp
def zxg(b:Bool)(t n o:Nat):AV:=if b=true then .pt t n o 0 else .ptr o 0
@[simp] theorem zti(t):zeX t=(t==88):=Eq.trans rfl rfl
@[simp] theorem zAh(t n o):zxg false t n o=.ptr o 0:=rfl
@[simp] theorem zxh(t n o):zxg true t n o=.pt t n o 0:=rfl
def zun(v:AV)(K:AV→Prop):Prop:=match v with
 | .ptr _ _|.pv _ _|.fn (.func _) _ _|.pt _ _ _ _=>K v
 | _=>False
@[simp] theorem zxi(o f)(K:AV→Prop):zun (.ptr o f) K=K (.ptr o f):=Eq.trans rfl rfl
@[simp] theorem zAi(t n o f)(K:AV→Prop):zun (.pt t n o f) K=K (.pt t n o f):=Eq.trans rfl rfl
@[congr] theorem ztj{dd:Prop}(_:blk=dd){v v':AV}{K:AV→Prop}(h:v=v'):zun v K=zun v' K:=by rw[h]
@[simp] theorem zoj(x):za1 P G (.nilCheck x) d a σ K Q=zun (ev G a x) fun v=>K (put a d v) σ:=Eq.trans rfl rfl
@[simp] theorem ztk(op t x y u):za1 P G (.binOp op t x y u) d a σ K Q=zcR P op t y (ev G a x) (ev G a y) fun v=>K (put a d v) σ:=Eq.trans rfl rfl
@[congr] theorem zrp{dd:Prop}(_:blk=dd){op t y}{x x' z z':AV}{K:AV→Prop}(h:x=x')(h2:z=z'):zcR P op t y x z K=zcR P op t y x' z' K:=by rw[h,h2]
section
variable {K : AV → Prop}
@[simp] theorem zuo(op t x y z):zcR P op t (.tmp x) y z K=zbj P op t y z K:=by unfold zcR;split<;>simp_all
@[simp] theorem zup(op t k n y z):zcR P op t (.const (.int k n)) y z K=zbj P op t y z K:=by unfold zcR;split<;>simp_all
@[simp] theorem zuq(op t s y z):zcR P op t (.const (.string s)) y z K=zbj P op t y z K:=by unfold zcR;split<;>simp_all
@[simp] theorem zxj(op t u v z):zcR P op t (.const .nilIface) (.iface u v) z K=zbj P op t (.iface u v) z K:=by unfold zcR;split<;>simp_all
@[simp] theorem zxk(t):zcR P .eql t (.const .nilIface) .nilif .nilif K=(zag P t=some true∧K (.bool true)):=Eq.trans rfl rfl
@[simp] theorem zur(t):zcR P .neq t (.const .nilIface) .nilif .nilif K=(zag P t=some true∧K (.bool false)):=Eq.trans rfl rfl
end
@[simp] theorem zus(op t x):za1 P G (.unOp op t x) d a σ K Q=aun op (ev G a x) fun v=>K (put a d v) σ:=Eq.trans rfl rfl
@[simp] theorem zkj(t x):za1 P G (.makeInterface t x) d a σ K Q=(zag P t=some false∧K (put a d (.iface t (ev G a x))) σ):=Eq.trans rfl rfl
@[simp] theorem znR(t x i):za1 P G (.fieldAddr t x i) d a σ K Q=zaa P t (ev G a x) i fun v=>K (put a d v) σ:=Eq.trans rfl rfl
@[simp] theorem znS(t x i):za1 P G (.indexAddr t x i) d a σ K Q=zy P t (ev G a x) (ev G a i) fun v=>K (put a d v) σ:=Eq.trans rfl rfl
@[simp] theorem ztl(t x i):za1 P G (.index t x i) d a σ K Q=zeW P t (ev G a x) (ev G a i) fun v=>K (put a d v) σ:=Eq.trans rfl rfl
def zmk(v:AV)(i:Nat)(K:AV→Prop):Prop:=match v with
 | .tuple vs=>zU vs[i]? K
 | _=>False
@[simp] theorem zrq(vs i)(K:AV→Prop):zmk (.tuple vs) i K=zU vs[i]? K:=Eq.trans rfl rfl
@[congr] theorem zrr{dd:Prop}(_:blk=dd){v v':AV}{i:Nat}{K:AV→Prop}(h:v=v'):zmk v i K=zmk v' i K:=by rw[h]
@[simp] theorem zqk(x i):za1 P G (.extract x i) d a σ K Q=zmk (ev G a x) i fun v=>K (put a d v) σ:=by
 simp only[za1,zbd,zbs,if_pos,zaZ,zmk,zU]
 cases ev G a x<;>rfl
@[simp] theorem ztm(t ps):za1 P G (.build t ps) d a σ K Q=zgr P t (ev G a) ps.toList fun v=>K (put a d v) σ:=Eq.trans rfl rfl
@[simp] theorem zml(t n ps)(ho:(ps.toList.length==108)=false):za1 P G (.buildSlice t n ps) d a σ K Q=if zd9 t ps.toList=true then zeY P t n (ev G a) ps.toList fun v=>K (put a d v) σ else zaf P t n (ev G a) ps.toList fun v=>K (put a d v) σ:=by
 have e:zbs (.buildSlice t n ps)=true:=by simp only[zbs,zt4,ho];rfl
 simp only[za1,zbd,e,zqc,zaZ,if_true,Bool.false_eq_true,if_false]
@[simp] theorem zxl(t x):za1 P G (.call ⟨.builtin .len,#[x],#[t]⟩) d a σ K Q=zia P t (ev G a x) fun v=>K (put a d v) σ:=Eq.trans rfl rfl
@[simp] theorem ztn(ts x):za1 P G (.call ⟨.builtin .unsafeSliceData,#[x],ts⟩) d a σ K Q=zeZ (ev G a x) fun v=>K (put a d v) σ:=Eq.trans rfl rfl
@[congr] theorem zql{dd:Prop}(_:blk=dd){x x':AV}{K:AV→Prop}(h:x=x'):zeZ x K=zeZ x' K:=by rw[h]
@[simp] theorem zto(e φ sz xs)(K:AV→Prop):zeZ (.tys e (.sl φ sz xs)) K=K (.tyd e (.sl φ sz xs)):=Eq.trans rfl rfl
@[congr] theorem ztp{dd:Prop}(_:blk=dd){t}{x x':AV}{K:AV→Prop}(h:x=x'):zt5 P t x K=zt5 P t x' K:=by rw[h]
def zhc(P:Program)(t:TypeId)(ok:Bool)(v:AV)(K:AV→Prop):Prop:=match v with
 | .iface u v=>zag P t=some false∧u=t∧K (if ok then .tuple [v,.bool true]else v)
 | _=>False
@[simp] theorem zok(t ok u v)(K:AV→Prop):zhc P t ok (.iface u v) K=(zag P t=some false∧u=t∧K (if ok then .tuple [v,.bool true]else v)):=Eq.trans rfl rfl
@[congr] theorem zol{dd:Prop}(_:blk=dd){t ok}{v v':AV}{K:AV→Prop}(h:v=v'):zhc P t ok v K=zhc P t ok v' K:=by rw[h]
@[simp] theorem zmm(x xt t ok):za1 P G (.typeAssert x xt t ok) d a σ K Q=zhc P t ok (ev G a x) fun v=>K (put a d v) σ:=Eq.trans rfl rfl
@[simp] theorem ztq(t x lo hi mx):za1 P G (.slice t x lo hi mx) d a σ K Q=zeV P (ev G a) t (ev G a x) lo hi mx fun v=>K (put a d v) σ:=Eq.trans rfl rfl
def zBt(f:Int→Int→Int)(x y:AV)(K:AV→Prop):Prop:=match x,y with
 | .int k m,.int k' n=>k=k'∧K (.int k (f m n))
 | _,_=>False
@[congr] theorem ztr{dd:Prop}(_:blk=dd){f}{x x' y y':AV}{K:AV→Prop}(h1:x=x')(h2:y=y'):zBt f x y K=zBt f x' y' K:=by rw[h1,h2]
@[simp] theorem zut(t x):za1 P G (.load t x) d a σ K Q=zbA P t (ev G a x) σ fun v=>K (put a d v) σ:=Eq.trans rfl rfl
@[simp] theorem zts(t p x):za1 P G (.store t p x) d a σ K Q=zed P t (ev G a p) (ev G a x) σ fun σ'=>K (put a d (.tuple [])) σ':=Eq.trans rfl rfl
@[simp] theorem ztt(t):za1 P G (.alloc t) d a σ K Q=zU (zN P t) fun z=>z.known=true∧K (put a d (zxg (zeX t) t z.cells.length σ.no)) (σ.newO z.cells):=Eq.trans rfl rfl
@[simp] theorem zxm(t x):za1 P G (.box t x) d a σ K Q=((ev G a x).known=true∧K (put a d (zxg (zeX t) t (ev G a x).cells.length σ.no)) (σ.newO (ev G a x).cells)):=Eq.trans rfl rfl
@[simp] theorem zuu(t l c):za1 P G (.makeSlice t l c) d a σ K Q=zle P t (ev G a l) (ev G a c) σ fun v σ'=>K (put a d v) σ':=Eq.trans rfl rfl
@[simp] theorem zrs(t u s x):za1 P G (.call ⟨.builtin .append,#[s,x],#[t,u]⟩) d a σ K Q=zda P t u (ev G a s) (ev G a x) σ fun v σ'=>K (put a d v) σ':=Eq.trans rfl rfl
@[simp] theorem zqm(t u s x):za1 P G (.call ⟨.builtin .unsafeString,#[s,x],#[t,u]⟩) d a σ K Q=zdR P t (ev G a s) (ev G a x) σ fun v σ'=>K (put a d v) σ':=Eq.trans rfl rfl
@[congr] theorem zom{dd:Prop}(_:blk=dd){t}{x x' y y':AV}{σ σ':AS}{K:AV→AS→Prop}(h:x=x')(h1:y=y')(h2:σ=σ'):zdR P t x y σ K=zdR P t x' y' σ' K:=by rw[h,h1,h2]
@[simp] theorem zuv(f args ts):za1 P G (.call ⟨.value f,args,ts⟩) d a σ K Q =
  zlf P G (ev G a f) (args.toList.map (ev G a)) σ (fun v σ'=>K (put a d v) σ') (fun v σ'=>Q (.panic v) zds σ'):=Eq.trans rfl rfl
def ziG(v:AV)(K:AV→Prop):Prop:=match v with
 | .iface t v=>K (.iface t v)
 | _=>False
@[simp] theorem zqn(t v)(K:AV→Prop):ziG (.iface t v) K=K (.iface t v):=Eq.trans rfl rfl
@[congr] theorem zqo{dd:Prop}(_:blk=dd){v v':AV}{K:AV→Prop}(h:v=v'):ziG v K=ziG v' K:=by rw[h]
@[simp] theorem ztu(x):za1 P G (.panic x) d a σ K Q=ziG (ev G a x) fun v=>Q (.panic v) zds σ:=by
 simp only[za1,zbd,zbs,zqc,ziG]
 cases ev G a x<;>simp
end
section
variable {P : Program} {K : AV → Prop}
theorem List.beq_dec(x y:List UInt8):(x==y)=decide (x=y):=by
 by_cases h:x=y<;>simp[h]
@[congr] theorem ztv{dd:Prop}(_:blk=dd){op t}{x x' y y':AV}(h:x=x')(h2:y=y'):zbj P op t x y K=zbj P op t x' y' K:=by rw[h,h2]
@[simp] theorem zxn(t k)(m n:Int):zbj P .add t (.int k m) (.int k n) K=K (.int k (k.wrap (m+n))):=by simp[zbj,zba]
@[simp] theorem zxo(t k)(m n:Int):zbj P .sub t (.int k m) (.int k n) K=K (.int k (k.wrap (m-n))):=by simp[zbj,zba]
@[simp] theorem zxp(t k)(m n:Int):zbj P .mul t (.int k m) (.int k n) K=K (.int k (k.wrap (m*n))):=by simp[zbj,zba]
@[simp] theorem zxq(t k)(m n:Int):zbj P .eql t (.int k m) (.int k n) K=K (.bool (decide (m=n))):=by simp[zbj,zba]
@[simp] theorem zxr(t k)(m n:Int):zbj P .neq t (.int k m) (.int k n) K=K (.bool (!decide (m=n))):=by simp[zbj,zba]
@[simp] theorem zxs(t k)(m n:Int):zbj P .lss t (.int k m) (.int k n) K=K (.bool (decide (m<n))):=by simp[zbj,zba]
@[simp] theorem zxt(t k)(m n:Int):zbj P .leq t (.int k m) (.int k n) K=K (.bool (decide (m≤n))):=by simp[zbj,zba]
@[simp] theorem zxu(t k)(m n:Int):zbj P .gtr t (.int k m) (.int k n) K=K (.bool (decide (n<m))):=by simp[zbj,zba]
@[simp] theorem zxv(t k)(m n:Int):zbj P .geq t (.int k m) (.int k n) K=K (.bool (decide (n≤m))):=by simp[zbj,zba]
@[simp] theorem zqp(t)(x y):zbj P .eql t (.str x) (.str y) K=K (.bool (decide (x=y))):=by simp only[zbj,zgq,List.beq_dec]
@[simp] theorem zqq(t)(x y):zbj P .neq t (.str x) (.str y) K=K (.bool (!decide (x=y))):=by simp only[zbj,zgq,List.beq_dec]
@[simp] theorem zxw(k0 k a b):zh5 (.int k0) (.int k a) (.int k b)=some (decide (a=b)):=by simp only[zh5,if_true];rfl
@[simp] theorem zxx(a b):zh5 .string (.str a) (.str b)=some (decide (a=b)):=by simp only[zh5,Bool.beq_eq_decide_eq]
@[simp] theorem zrt(e a b c):zh5 (.slice e) (.sl a b c) .nilsl=some false:=rfl
@[simp] theorem zqr(e a b c d):zh5 (.slice e) (.slm a b c d) .nilsl=some false:=rfl
@[simp] theorem zqs(e):zh5 (.slice e) .nilsl .nilsl=some true:=rfl
@[simp] theorem zqt(t)(x y):zbj P .eql t (.agg x) (.agg y) K=zU (aeq P t (.agg x) (.agg y)) fun r=>K (.bool r):=by simp[zbj,zU]
@[congr] theorem zuw{dd:Prop}(_:blk=dd){op}{x x':AV}(h:x=x'):aun op x K=aun op x' K:=by rw[h]
@[simp] theorem zAj(b):aun .not (.bool b) K=K (.bool !b):=Eq.trans rfl rfl
@[simp] theorem zAk(k n):aun .xor (.int k n) K=K (.int k (zbP k (· ^^^ ·) (if k.signed then -1 else k.max) n)):=Eq.trans rfl rfl
@[simp] theorem zAl(k n):aun .neg (.int k n) K=K (.int k (k.wrap (-n))):=Eq.trans rfl rfl
@[simp] theorem zru(n off cs):zaz true n off cs K=(off+n≤cs.length∧K (.agg ((cs.drop off).take n))):=Eq.trans rfl rfl
@[simp] theorem zqu(n off cs):zaz false n off cs K=zU cs[off]? K:=Eq.trans rfl rfl
@[congr] theorem zqv{dd:Prop}(_:blk=dd){g g' n off off'}{cs cs':List AV}(h:cs=cs')(h2:off=off')(h3:g=g'):zaz g n off cs K=zaz g' n off' cs' K:=by rw[h,h2,h3]
@[congr] theorem zlU{dd:Prop}(_:blk=dd){t f}{x x':AV}(h:x=x'):zaa P t x f K=zaa P t x' f K:=by rw[h]
@[simp] theorem znT(t f o off):zaa P t (.ptr o off) f K=zU (zbO P t f) fun i=>K (.ptr o (off+i.off)):=Eq.trans rfl rfl
@[simp] theorem znU(t u n o off):zaa P t (.pt u n o off) 0 K=zU (zbO P t 0) fun i=>K (.pt u n o (off+i.off)):=Eq.trans rfl rfl
@[simp] theorem zon(t f u n o off):zaa P t (.pt u n o off) (f+1) K=zU (zbO P t (f+1)) fun i=>K (.ptr o (off+i.off)):=Eq.trans rfl rfl
@[simp] theorem zoo(t f φ cs):zaa P t (.pv φ (.agg cs)) f K=zU (zbO P t f) fun i=>zaz i.agg i.size i.off cs fun v=>zn1 i.agg i.size v∧K (.pv φ v):=Eq.trans rfl rfl
@[simp] theorem zux(n v):zn1 true n v=(v.cells.length=n):=Eq.trans rfl rfl
@[simp] theorem ztw(n v):zn1 false n v=(v.cells=[v]):=Eq.trans rfl rfl
@[congr] theorem zqw{dd:Prop}(_:blk=dd){t f}{x x':AV}(h:x=x'):zh9 P t x f K=zh9 P t x' f K:=by rw[h]
@[congr] theorem zlV{dd:Prop}(_:blk=dd){t}{x x' i i':AV}(h:x=x')(h2:i=i'):zy P t x i K=zy P t x' i' K:=by rw[h,h2]
@[simp] theorem zop(t φ sz xs k n):zy P t (.sl φ sz xs) (.int k n) K=(zbM P t=some sz∧0≤n∧zU xs[n.toNat]? fun v=>K (.pv φ v)):=Eq.trans rfl rfl
@[simp] theorem znV(t o off sz len k n):zy P t (.slm o off sz len) (.int k n) K=(zbM P t=some sz∧0≤n∧n<len∧K (.ptr o (off+n.toNat * sz))):=Eq.trans rfl rfl
@[congr] theorem zqx{dd:Prop}(_:blk=dd){t}{x x' i i':AV}(h:x=x')(h2:i=i'):zeW P t x i K=zeW P t x' i' K:=by rw[h,h2]
@[simp] theorem ztx(t s k n):zeW P t (.str s) (.int k n) K=(za5 P t=true∧0≤n∧zU s[n.toNat]? fun b=>K (.int .u8 b.toNat)):=Eq.trans rfl rfl
@[congr] theorem zty{dd:Prop}(_:blk=dd){t}{x x':AV}(h:x=x'):zia P t x K=zia P t x' K:=by rw[h]
@[simp] theorem zxy(t s):zia P t (.str s) K=(za5 P t=true∧K (.int .i64 s.length)):=Eq.trans rfl rfl
@[simp] theorem ztz(t):zia P t .nilsl K=((zbM P t).isSome=true∧K (.int .i64 0)):=Eq.trans rfl rfl
@[simp] theorem zAm(t φ sz xs):zia P t (.sl φ sz xs) K=((zbM P t).isSome=true∧K (.int .i64 xs.length)):=Eq.trans rfl rfl
@[simp] theorem zqy(t e):zia P t (.tys e .nilsl) K=((zbM P t).isSome=true∧K (.int .i64 0)):=Eq.trans rfl rfl
@[simp] theorem zxz(t e φ sz xs):zia P t (.tys e (.sl φ sz xs)) K=((zbM P t).isSome=true∧K (.int .i64 xs.length)):=Eq.trans rfl rfl
@[simp] theorem zxA(t o off sz len):zia P t (.slm o off sz len) K=((zbM P t).isSome=true∧K (.int .i64 len)):=Eq.trans rfl rfl
variable {a : Operand → AV}
def zkk(P:Program)(t:TypeId)(i:Nat)(v:AV)(cs:List AV)(K:List AV→Prop):Prop :=
 zU (zbO P t i) fun f=>v.known=true∧v.cells.length=f.size∧f.off+f.size≤cs.length∧K (splice cs f.off v.cells)
@[congr] theorem zqz{dd:Prop}(_:blk=dd){t i}{v v':AV}{cs cs'}{K:List AV→Prop}(h:v=v')(h2:cs=cs'):zkk P t i v cs K=zkk P t i v' cs' K:=by rw[h,h2]
@[simp] theorem zuy(t i v cs)(K:List AV→Prop):zkk P t i v cs K=zU (zbO P t i) fun f=>v.known=true∧v.cells.length=f.size∧f.off+f.size≤cs.length∧K (splice cs f.off v.cells):=Eq.trans rfl rfl
@[congr] theorem zrv{dd:Prop}(_:blk=dd){t}{a a':Operand→AV}{l}{cs cs'}{K:List AV→Prop}(h2:cs=cs')(h:a=a'):zgX P t a l cs K=zgX P t a' l cs' K:=by rw[h,h2]
@[simp] theorem zuz(t cs)(K:List AV→Prop):zgX P t a [] cs K=K cs:=Eq.trans rfl rfl
@[simp] theorem ztA(t i x r cs)(K:List AV→Prop):zgX P t a ((i,x)::r) cs K=zkk P t i (a x) cs fun cs=>zgX P t a r cs K:=Eq.trans rfl rfl
@[congr] theorem zrw{dd:Prop}(_:blk=dd){n sz}{a a':Operand→AV}{l}{cs cs'}{K:List AV→Prop}(h2:cs=cs')(h:a=a'):zf4 n sz a l cs K=zf4 n sz a' l cs' K:=by rw[h,h2]
@[simp] theorem zuA(n sz cs)(K:List AV→Prop):zf4 n sz a [] cs K=K cs:=Eq.trans rfl rfl
@[simp] theorem ztB(n sz i x r cs)(K:List AV→Prop):zf4 n sz a ((i,x)::r) cs K=(i<n∧(a x).known=true∧(a x).cells.length=sz∧zf4 n sz a r (cs.set i (a x)) K):=Eq.trans rfl rfl
@[congr] theorem zqA{dd:Prop}(_:blk=dd){t}{a a':Operand→AV}{l l'}(h:a=a')(h2:l=l'):zgr P t a l K=zgr P t a' l' K:=by rw[h,h2]
@[simp] theorem zuB(t l):zgr P t a l K=((zaE P t=true∧zf5 P t=true)∧zU (zN P t) fun z=>z.known=true∧zgX P t a l z.cells fun cs=>K (.agg cs)):=Eq.trans rfl rfl
@[congr] theorem zln{dd:Prop}(_:blk=dd){t n}{a a':Operand→AV}{l l'}(h:a=a')(h2:l=l'):zaf P t n a l K=zaf P t n a' l' K:=by rw[h,h2]
@[simp] theorem znW(t n l):zaf P t n a l K=zU (zbM P t) fun sz=>zU (zaD P t) fun z=>z.cells.length=sz∧0<sz∧n*sz≤2^24∧zf4 n sz a l (List.replicate n z) fun xs=>K (.sl (.stat true) sz xs):=by
 simp[zaf,zU]
@[congr] theorem zmn{dd:Prop}(_:blk=dd){t n}{a a':Operand→AV}{l l'}{σ σ':AS}{K:AV→AS→Prop}(h:a=a')(h2:l=l')(h3:σ=σ'):zcj P t n a l σ K=zcj P t n a' l' σ' K:=by rw[h,h2,h3]
@[congr] theorem zqB{dd:Prop}(_:blk=dd){a a':Operand→AV}{n n' lo hi mx}{K:Nat→Nat→Nat→Prop}(h:a=a')(h2:n=n'):zdo a n lo hi mx K=zdo a' n' lo hi mx K:=by rw[h,h2]
@[simp] theorem zuC(n lo hi mx)(K:Nat→Nat→Nat→Prop):zdo a n lo hi mx K=zU (zbk a 0 lo) fun l=>zU (zbk a n hi) fun h=>zU (zbk a n mx) fun m =>
  0≤l∧l≤h∧h≤m∧m≤n∧(mx.isSome→hi.isSome)∧K l.toNat h.toNat m.toNat:=by simp[zdo,zU]
def zBu(v:AV):Option Int:=match v with
 | .int _ n=>some n
 | _=>none
@[simp] theorem zxB(k n):zBu (.int k n)=some n:=Eq.trans rfl rfl
@[simp] theorem zrx(d):zbk a d none=some d:=Eq.trans rfl rfl
@[simp] theorem zqC(d x):zbk a d (some x)=zBu (a x):=Eq.trans rfl rfl
@[congr] theorem zqD{dd:Prop}(_:blk=dd){a a':Operand→AV}{t x x' lo hi mx}(h:a=a')(h2:x=x'):zeV P a t x lo hi mx K=zeV P a' t x' lo hi mx K:=by rw[h,h2]
@[simp] theorem ztC(t s lo hi mx):zeV P a t (.str s) lo hi mx K=(za5 P t=true∧mx=none∧zdo a s.length lo hi none fun l h _=>K (.str ((s.take h).drop l))):=Eq.trans rfl rfl
@[simp] theorem zoq(F f):zl F (.stat f)=True:=Eq.trans rfl rfl
@[simp] theorem zqE(F g f):zl F (.fam g f)=(F g=.alive):=Eq.trans rfl rfl
@[simp] theorem zuD(l):(AV.agg l).cells=l:=Eq.trans rfl rfl
@[simp] theorem zuE(k n):(AV.int k n).cells=[.int k n]:=Eq.trans rfl rfl
@[simp] theorem ztD(b):(AV.bool b).cells=[.bool b]:=Eq.trans rfl rfl
@[simp] theorem zuF(b):(AV.str b).cells=[.str b]:=Eq.trans rfl rfl
@[simp] theorem zry:AV.nilsl.cells=[.nilsl]:=Eq.trans rfl rfl
@[simp] theorem zxC(o f x):(AV.sl o f x).cells=[.sl o f x]:=Eq.trans rfl rfl
@[simp] theorem zuG(o f x y):(AV.slm o f x y).cells=[.slm o f x y]:=Eq.trans rfl rfl
@[simp] theorem zrz(t v):(AV.iface t v).cells=[.iface t v]:=Eq.trans rfl rfl
variable {σ : AS}
@[simp] theorem zuH(cs):(σ.newO cs).objs=upd σ.objs σ.no (some cs):=Eq.trans rfl rfl
@[simp] theorem zAn(cs):(σ.newO cs).no=σ.no+1:=Eq.trans rfl rfl
@[simp] theorem zBv(cs):(σ.newO cs).F=σ.F:=Eq.trans rfl rfl
@[simp] theorem zAo(cs):(σ.newO cs).nf=σ.nf:=Eq.trans rfl rfl
@[simp] theorem zuI(o cs):(σ.setO o cs).objs=upd σ.objs o (some cs):=Eq.trans rfl rfl
@[simp] theorem zAp(o cs):(σ.setO o cs).no=σ.no:=Eq.trans rfl rfl
@[simp] theorem zBw(o cs):(σ.setO o cs).F=σ.F:=Eq.trans rfl rfl
@[simp] theorem zAq(o cs):(σ.setO o cs).nf=σ.nf:=Eq.trans rfl rfl
@[simp] theorem zuJ:σ.newF.objs=σ.objs:=Eq.trans rfl rfl
@[simp] theorem zAr:σ.newF.no=σ.no:=Eq.trans rfl rfl
@[simp] theorem zBx:σ.newF.F=upd σ.F σ.nf .alive:=Eq.trans rfl rfl
@[simp] theorem zAs:σ.newF.nf=σ.nf+1:=Eq.trans rfl rfl
@[simp] theorem zuK(f s):(σ.setF f s).objs=σ.objs:=Eq.trans rfl rfl
@[simp] theorem zAt(f s):(σ.setF f s).no=σ.no:=Eq.trans rfl rfl
@[simp] theorem zBy(f s):(σ.setF f s).F=upd σ.F f s:=Eq.trans rfl rfl
@[simp] theorem zAu(f s):(σ.setF f s).nf=σ.nf:=Eq.trans rfl rfl
@[congr] theorem zrA{dd:Prop}(_:blk=dd){t}{p p':AV}{σ σ':AS}(h:p=p')(h2:σ=σ'):zbA P t p σ K=zbA P t p' σ' K:=by rw[h,h2]
@[simp] theorem zuL(t o off):zbA P t (.ptr o off) σ K=zU (σ.objs o) fun cs=>zU (za4 P t) fun n=>zaz (zaR P t) n off cs K:=by simp[zbA,zU]
def ziH(g:Bool)(n:Nat)(v:AV)(K:AV→Prop):Prop:=if g then ∃cs,v=.agg cs∧cs.length=n∧K v else v.cells=[v]∧K v
@[congr] theorem zrB{dd:Prop}(_:blk=dd){g g' n}{v v':AV}(h:v=v')(h2:g=g'):ziH g n v K=ziH g' n v' K:=by rw[h,h2]
@[simp] theorem zuM(n cs):ziH true n (.agg cs) K=(cs.length=n∧K (.agg cs)):=by simp[ziH]
@[simp] theorem zuN(n v):ziH false n v K=(v.cells=[v]∧K v):=by simp[ziH]
@[simp] theorem zxD(t φ v):zbA P t (.pv φ v) σ K=(zl σ.F φ∧zU (za4 P t) fun n=>ziH (zaR P t) n v K):=by simp[zbA,zU,ziH]
@[congr] theorem zqF{dd:Prop}(_:blk=dd){t}{p p' v v':AV}{σ σ':AS}{K:AS→Prop}(h:p=p')(h1:v=v')(h2:σ=σ'):zed P t p v σ K=zed P t p' v' σ' K:=by rw[h,h1,h2]
@[simp] theorem ztE(t o off v)(K:AS→Prop):zed P t (.ptr o off) v σ K=zU (σ.objs o) fun cs=>v.known=true∧za4 P t=some v.cells.length∧off+v.cells.length≤cs.length∧(∀c∈v.cells,c.one=true)∧K (σ.setO o (splice cs off v.cells)):=Eq.trans rfl rfl
@[simp] theorem zuO(t f b u v)(K:AS→Prop):zed P t (.pv (.fam f b) u) v σ K=(σ.F f≠.dead∧v.known=true∧za4 P t=some v.cells.length∧u.cells.length=v.cells.length∧(∀c∈v.cells,c.one=true)∧K (σ.setF f .spoiled)):=Eq.trans rfl rfl
@[congr] theorem zor{dd:Prop}(_:blk=dd){t z sz}{x x':AV}{F F':Nat→FSt}{K:List AV→Prop}(h:x=x')(h2:F=F'):zci P t z sz x F K=zci P t z sz x' F' K:=by rw[h,h2]
variable {F : Nat → FSt}
@[simp] theorem ztF(t z sz φ s ys)(K:List AV→Prop):zci P t z sz (.sl φ s ys) F K=(zbM P t=some s∧s=sz∧zl F φ∧K ys):=Eq.trans rfl rfl
@[simp] theorem zrC(t z sz bs)(K:List AV→Prop):zci P t z sz (.str bs) F K=(za5 P t=true∧sz=1∧K (bs.map fun b=>.int .u8 b.toNat)):=Eq.trans rfl rfl
def zcb(el:Option TypeId)(bs sz:Nat)(s:AV)(ys:List AV)(σ:AS)(K:AV→AS→Prop):Prop :=
 match s with
 | .nilsl=>ys.length*bs≤2^47∧(ys=[]→K .nilsl σ)∧(ys≠[]→K (.sl (.fam σ.nf false) sz ys) σ.newF)
 | .sl (.stat true) s' xs=>s'=sz∧(xs.length+ys.length)*bs≤2^47∧(ys=[]→K (.sl (.stat true) s' xs) σ)∧(ys≠[]→K (.sl (.fam σ.nf false) sz (xs++ys)) σ.newF)
 | .sl (.fam f true) s' xs=>s'=sz∧(xs.length+ys.length)*bs≤2^47∧σ.F f=.alive∧(ys=[]→K (.sl (.fam f true) s' xs) σ)∧(ys≠[]→K (.sl (.fam σ.nf false) sz (xs++ys)) σ.newF)
 | .sl (.fam f false) s' xs=>s'=sz∧(xs.length+ys.length)*bs≤2^47∧σ.F f=.alive∧K (.sl (.fam σ.nf false) sz (xs++ys)) (σ.setF f .dead).newF
 | .sl (.stat false) s' xs=>ys=[]∧K (.sl (.stat false) s' xs) σ
 | .slm o off s' len=>s'=sz∧off=0∧(len+ys.length)*bs≤2^47∧∃cs,σ.objs o=some cs∧len*sz≤cs.length∧K (.slm σ.no 0 sz (len+ys.length)) (σ.moveO o (cs.take (len*sz)++zx ys))
 | .tys e .nilsl=>el=some e∧ys.length*bs≤2^47∧(ys=[]→K (.tys e .nilsl) σ)∧(ys≠[]→K (.tys e (.sl (.fam σ.nf false) sz ys)) σ.newF)
 | .tys e (.sl (.fam f false) s' xs)=>el=some e∧s'=sz∧(xs.length+ys.length)*bs≤2^47∧σ.F f=.alive∧K (.tys e (.sl (.fam σ.nf false) sz (xs++ys))) (σ.setF f .dead).newF
 | .lit bl=>1=sz∧(bl.length+ys.length)*bs≤2^47∧ys≠[]∧K (.sl (.fam σ.nf false) sz (B bl++ys)) σ.newF
 | _=>False
@[congr] theorem zrD{dd:Prop}(_:blk=dd){el bs sz}{s s':AV}{ys ys':List AV}{σ σ':AS}{K:AV→AS→Prop}(h:s=s')(h1:ys=ys')(h2:σ=σ'):zcb el bs sz s ys σ K=zcb el bs sz s' ys' σ' K:=by rw[h,h1,h2]
variable {KS : AV → AS → Prop}
def elT(P:Program)(t:TypeId):Option TypeId:=match P.underlying t with
 | some (.slice e)=>some e
 | _=>none
theorem zrE{P:Program}{t e:TypeId}:elT P t=some e↔P.underlying t=some (.slice e):=by
 unfold elT
 split
 ·rename_i h;rw[h];simp
 ·rename_i h;simp;intro q;exact h _ q
@[simp] theorem zhd(el bs sz e ys):zcb el bs sz (.tys e .nilsl) ys σ KS=(el=some e∧ys.length*bs≤2^47∧(ys=[]→KS (.tys e .nilsl) σ)∧(ys≠[]→KS (.tys e (.sl (.fam σ.nf false) sz ys)) σ.newF)):=Eq.trans rfl rfl
@[simp] theorem zhe(el bs sz e f s' xs ys):zcb el bs sz (.tys e (.sl (.fam f false) s' xs)) ys σ KS=(el=some e∧s'=sz∧(xs.length+ys.length)*bs≤2^47∧σ.F f=.alive∧KS (.tys e (.sl (.fam σ.nf false) sz (xs++ys))) (σ.setF f .dead).newF):=Eq.trans rfl rfl
@[simp] theorem znX(el bs sz y ys):zcb el bs sz .nilsl (y::ys) σ KS=((y::ys).length*bs≤2^47∧KS (.sl (.fam σ.nf false) sz (y::ys)) σ.newF):=by simp[zcb]
@[simp] theorem zuP(el bs sz f s' xs ys):zcb el bs sz (.sl (.fam f false) s' xs) ys σ KS=(s'=sz∧(xs.length+ys.length)*bs≤2^47∧σ.F f=.alive∧KS (.sl (.fam σ.nf false) sz (xs++ys)) (σ.setF f .dead).newF):=Eq.trans rfl rfl
@[simp] theorem zmo(el bs sz s' xs y ys):zcb el bs sz (.sl (.stat true) s' xs) (y::ys) σ KS=(s'=sz∧(xs.length+(y::ys).length)*bs≤2^47∧KS (.sl (.fam σ.nf false) sz (xs++y::ys)) σ.newF):=by simp[zcb]
@[congr] theorem zos{dd:Prop}(_:blk=dd){t u}{s s' x x':AV}{σ σ':AS}{K:AV→AS→Prop}(h:s=s')(h1:x=x')(h2:σ=σ'):zda P t u s x σ K=zda P t u s' x' σ' K:=by rw[h,h1,h2]
@[simp] theorem ztG(t u s x):zda P t u s x σ KS=zU (zbM P t) fun sz=>zU (zaS P t) fun bs=>0<bs∧zU (zaD P t) fun z=>z.known=true∧z.cells.length=sz∧0<sz ∧
  zci P u z sz x σ.F fun ys=>(∀y∈ys,y.cells.length=sz∧∀c∈y.cells,c.one=true)∧zcb (elT P t) bs sz s ys σ KS:=by
 simp only[zda,zU,zcb,zrE]
 apply propext
 constructor
 ·rintro ⟨sz,bs,z,h1,h2,h3,h4,h5,h6,h7,h8⟩
  exact⟨sz,h1,bs,h2,h3,z,h4,h5,h6,h7,h8⟩
 ·rintro ⟨sz,h1,bs,h2,h3,z,h4,h5,h6,h7,h8⟩
  exact⟨sz,bs,z,h1,h2,h3,h4,h5,h6,h7,h8⟩
def zuQ(K PK:AV→AS→Prop):Out→AS→Prop:=fun o σ'=>match o with
 | .ret v=>K v σ'
 | .panic v=>PK v σ'
@[simp] theorem zxE(K PK:AV→AS→Prop)(v σ'):zuQ K PK (.ret v) σ'=K v σ':=Eq.trans rfl rfl
@[simp] theorem ztH(K PK:AV→AS→Prop)(v σ'):zuQ K PK (.panic v) σ'=PK v σ':=Eq.trans rfl rfl
@[congr] theorem zrF{dd:Prop}(_:blk=dd){G}{f f':AV}{l l':List AV}{σ σ':AS}{K PK:AV→AS→Prop}(h:f=f')(h1:l=l')(h2:σ=σ'):zlf P G f l σ K PK=zlf P G f' l' σ' K PK:=by rw[h,h1,h2]
@[simp] theorem zxF(G n first cap l)(K PK:AV→AS→Prop):zlf P G (.fn (.func n) first cap) l σ K PK=(za P n=true∧ACalls P G n (first++l++cap) σ (zuQ K PK)):=by
 rfl
@[congr] theorem ztI{dd:Prop}(_:blk=dd){K PK:AV→AS→Prop}{o o':Out}{σ σ':AS}(h:o=o')(h1:σ=σ'):zuQ K PK o σ=zuQ K PK o' σ':=by rw[h,h1]
@[congr] theorem ztJ{dd:Prop}(_:blk=dd){l}{a a':Nat→AV}{σ σ':AS}{K:List AV→Prop}(h:a=a')(h2:σ=σ'):zh6 P l a σ K=zh6 P l a' σ' K:=by rw[h,h2]
@[simp] theorem zxG(a σ)(K:List AV→Prop):zh6 P [] a σ K=K []:=Eq.trans rfl rfl
@[simp] theorem zxH(t r a σ)(K:List AV→Prop):zh6 P (.tmp t::r) a σ K=zh6 P r a σ fun vs=>K (a t::vs):=Eq.trans rfl rfl
@[simp] theorem zuR(t ty r a σ)(K:List AV→Prop):zh6 P (.cell t ty::r) a σ K=zbA P ty (a t) σ fun v=>zh6 P r a σ fun vs=>K (v::vs):=Eq.trans rfl rfl
@[congr] theorem ztK{dd:Prop}(_:blk=dd){l}{R:Out→AS→Prop}{e:AExit}{a a':Nat→AV}{σ σ':AS}(h:a=a')(h2:σ=σ'):zcJ P l R e a σ=zcJ P l R e a' σ':=by rw[h,h2]
@[simp] theorem zrG(l)(R:Out→AS→Prop)(a σ):zcJ P l R .normal a σ=zh6 P l a σ fun vs=>R (.ret (tup vs)) σ:=Eq.trans rfl rfl
@[simp] theorem zxI(l)(R:Out→AS→Prop)(a σ):zcJ P l R .ret a σ=zh6 P l a σ fun vs=>R (.ret (tup vs)) σ:=Eq.trans rfl rfl
@[simp] theorem ztL(l)(R:Out→AS→Prop)(v a σ):zcJ P l R (.panic v) a σ=R (.panic v) σ:=Eq.trans rfl rfl
@[simp] theorem zAv(v):tup [v]=v:=Eq.trans rfl rfl
@[simp] theorem zAw:tup []=.tuple []:=Eq.trans rfl rfl
@[simp] theorem zAx(v w l):tup (v::w::l)=.tuple (v::w::l):=Eq.trans rfl rfl
@[simp] theorem ztM(b):(AV.bool b).known=true:=Eq.trans rfl rfl
@[simp] theorem zxJ(b):(AV.bool b).one=true:=Eq.trans rfl rfl
@[simp] theorem zuS(k n):(AV.int k n).known=true:=Eq.trans rfl rfl
@[simp] theorem zAy(k n):(AV.int k n).one=true:=Eq.trans rfl rfl
@[simp] theorem zuT(s):(AV.str s).known=true:=Eq.trans rfl rfl
@[simp] theorem zAz(s):(AV.str s).one=true:=Eq.trans rfl rfl
@[simp] theorem zrH:AV.nilsl.known=true:=Eq.trans rfl rfl
@[simp] theorem zuU:AV.nilsl.one=true:=Eq.trans rfl rfl
@[simp] theorem zxK(φ z l):(AV.sl φ z l).known=true:=Eq.trans rfl rfl
@[simp] theorem zBz(φ z l):(AV.sl φ z l).one=true:=Eq.trans rfl rfl
@[simp] theorem zuV(o i z l):(AV.slm o i z l).known=true:=Eq.trans rfl rfl
@[simp] theorem zuW(e v):(AV.tys e v).known=true:=Eq.trans rfl rfl
@[simp] theorem zAA(e v):(AV.tys e v).one=true:=Eq.trans rfl rfl
@[simp] theorem zuX(e v):(AV.tys e v).cells=[.tys e v]:=Eq.trans rfl rfl
@[simp] theorem zAB(o i z l):(AV.slm o i z l).one=true:=Eq.trans rfl rfl
@[simp] theorem zuY(l):(AV.agg l).known=true:=Eq.trans rfl rfl
theorem wrap_i64{n:Int}(h:-2^63≤n)(h2:n<2^63):yb3 .i64 n=n:=by
 unfold yb3
 simp[IntKind.bits,IntKind.signed]
 omega
end
end Go.Abs
namespace Go.Abs
open Go
def AS.zero:AS:=⟨fun _=>none,0,fun _=>.dead,0⟩
def Mp.all(w:World):Mp:=⟨fun B=>if B<w.heap.size then some .stat else none,fun _=>(0,0),0,0⟩
theorem zrI(w:World):Sim (Mp.all w) AS.zero w where
 no:=rfl
 nf:=rfl
 role B r h:=by
  simp only[Mp.all]at h
  split at h
  ·assumption
  ·cases h
 obj o cs h:=by simp[AS.zero]at h
 inj o o' h:=by simp[AS.zero]at h
theorem ACalls.run{P:Program}{G:Env}{f:FuncId}{args:List AV}{cargs:Array Value}{w:World}{R:Out→AS→Prop}
  (hG:GOk P G (Mp.all w) AS.zero.F w) (hc:Cells (Mp.all w) AS.zero.F w args cargs) (h:ACalls P G f args AS.zero R) :
  Calls P f cargs w fun e w'=>(∃out σ' M',R out σ'∧zbt M' σ'.F w' out e)∧RowKit.Below w.heap.size w w':=by
 refine(h _ w cargs (zrI w) hG hc).mono fun e w' ⟨out,σ',M',h1,h2,h3,h4⟩=>⟨⟨out,σ',M',h1,h2⟩,h4.io.1,h4.io.2.1,h4.io.2.2,h4.size,fun k hk=>?_⟩
 exact(h4.stat k false (by simp[Mp.all,hk])).2.exact
theorem ACalls.law{P:Program}{G:Env}{f:FuncId}{args:List AV}{cargs:Array Value}{w:World}
  (hG:GOk P G (Mp.all w) AS.zero.F w) (hc:Cells (Mp.all w) AS.zero.F w args cargs) (h:ACalls P G f args AS.zero fun o _=>o=.ret (.bool true)) :
  Calls P f cargs w fun e w'=>e=.returned (.bool true)∧RowKit.Below w.heap.size w w':=by
 refine(ACalls.run hG hc h).mono fun e w' ⟨⟨out,σ',M',h1,h2⟩,hb⟩=>⟨?_,hb⟩
 subst h1
 cases e with
 | returned v=>simp only[zbt]at h2;cases h2;rfl
 | _=>simp[zbt]at h2
end Go.Abs
namespace Go.Abs
open Go
section
variable {P : Program} {G : Env} {n : Nat} {pa pb : PC} {f : FuncId} {fn : Func} {assign body : Code}
end
theorem zdz{P:Program}{fn:Func}{a':Nat→AV}{σ':AS}{M':Mp}{w':World}{tmps:Array Value}{R:Out→AS→Prop}(S':Sim M' σ' w')(f':∀t,VR M' σ'.F w' (a' t) (tmps.getD t undef))
  (hq:zh6 P fn.results.toList a' σ' fun vs=>R (.ret (tup vs)) σ'):∃v,(results fn tmps).run P w'=.ok v w'∧∃out,R out σ'∧zbt M' σ'.F w' out (.returned v):=by
 have key:∀g:ResultVar→Sem Value,(∀t,(g (.tmp t)).run P w'=.ok (tmps.getD t undef) w')→(∀t ty q v,tmps.getD t undef=.pointer (some q)→(loadVar ty q).run P w'=.ok v w'→(g (.cell t ty)).run P w'=.ok v w') →
   ∃v,((((List.mapM g fn.results.toList).run P w').andThen fun a w'=>.ok a.toArray w').andThen fun vs w=>(pure (if h:vs.size=1 then vs[0]else .tuple vs):Sem Value).run P w)=.ok v w' ∧
    ∃out,R out σ'∧zbt M' σ'.F w' out (.returned v):=by
  intro g g1 g2
  obtain⟨vs,cs,hK,hr,hcc⟩:=zgE S' f' g1 g2 _ _ hq
  rw[hr]
  simp only[Result.andThen_ok,Sem.run_pure]
  refine⟨_,rfl,.ret (tup vs),hK,?_⟩
  have hl:=hcc.1
  simp only[zbt]
  have hget:=hcc.get
  split
  ·rename_i h1
   cases vs with
   | nil=>rw[h1]at hl;simp at hl
   | cons v r =>
    cases r with
    | nil=>exact hget 0 (by simp) (by rw[h1];exact Nat.one_pos)
    | cons _ _=>rw[h1]at hl;simp at hl
  ·rename_i h1
   have:tup vs=.tuple vs:=by
    cases vs with
    | nil=>rfl
    | cons v r =>
     cases r with
     | nil=>exact absurd (by simpa using hl) h1
     | cons _ _=>rfl
   rw[this]
   exact .tuple _ _ hl hget
 unfold results
 rw[Sem.run_bind,yb2,Sem.run_map]
 exact key _ (fun _=>rfl) (fun t ty q v h1 h2=>by
  simp only[h1,asAddr,Sem.run_bind,Sem.run_pure,Result.andThen_ok,h2])
theorem zgG{M F w n}{args:List AV}{cargs:Array Value}(hc:Cells M F w args cargs)(hn:args.length≤n):
  (cargs++ybV (n-cargs.size) undef).size=n∧∀t,VR M F w (zbC args t) ((cargs++ybV (n-cargs.size) undef).getD t undef):=by
 refine⟨?_,fun t=>?_⟩
 ·have:=hc.1
  simp only[ybg,yb0];omega
 ·unfold zbC
  rw[ybz]
  by_cases ht:t<args.length
  ·obtain⟨x,h1,h2⟩:=hc.2 t _ (yau ht)
   rw[ybi (by rw[hc.1];exact ht),h1,yau ht]
   exact h2
  ·rw[ybj (show cargs.size≤t by rw[hc.1];omega),yb1 (by omega),ybW]
   split<;>exact zdv ..
section
variable {P : Program} {b : Frame} {Q : Exit → Act → World → Prop} {a : Act} {w : World}
end
def zrJ(R:Out→AS→Prop)(M:Mp)(F:Nat→FSt)(w:World)(e:Ending)(w':World):Prop:=∃out σ' M',R out σ'∧zbt M' σ'.F w' out e∧Sim M' σ' w'∧Ext M F w M' σ'.F w'
theorem zmp{P:Program}{it:Nat}{C args:Array Value}(hcl:za P it=true)(w:World):(invoke (.fn (.func it) C) args).run P w=.ok (.enter it (args++C)) w:=by
 obtain ⟨fni, hfni, hbi, hname⟩ : ∃ fni, P.funcs[it]? = some fni ∧ fni.body.isSome = true ∧ (fni.name == "runtime.NumGoroutine") = false := by
  unfold za at hcl
  split at hcl
  ·simp only[Bool.and_eq_true,Bool.not_eq_true']at hcl
   exact⟨_,‹_›,hcl.1,hcl.2⟩
  ·cases hcl
 have hbn:fni.body.isNone=false:=by cases hq:fni.body<;>simp[hq]at hbi ⊢
 simp only[invoke,callFunc,Sem.run_bind,run_program,Result.andThen_ok,hfni,hname,hbn,Bool.false_eq_true,if_false,Sem.run_pure]
section
variable {P : Program} {G : Env} {f : FuncId} {fn : Func} {assign body : Code} {psA : Array Nat} {pa pb : PC} {a : Nat → AV} {σ : AS} {M : Mp} {w : World} {ac : Act}
end
def zbX(P:Program)(G:Env)(n:Nat)(py:PC)(d0 d1:Nat)(caps:List AV)(res:List ResultVar)(R:Out→AS→Prop)(pv:Option AV)(a:Nat→AV)(σ:AS):Prop :=
 avc P G n py (fun e _ σ2=>(e=.normal∨e=.ret)∧zh6 P res a σ2 fun vs=>R (.ret (tup vs)) σ2) (upd (upd (zbC caps) d0 (pv.getD .nilif)) d1 (pv.getD .nilif)) σ
def aq(H:Option AV→(Nat→AV)→AS→Prop):AQ
 | .normal,a,σ|.ret,a,σ=>H none a σ
 | .panic v,a,σ=>H (some v) a σ
 | .exit _,_,_=>False
def zkl(pv:Option Value):FrameMode:=match pv with
 | none=>.returning
 | some v=>.panicking [{ v:=v,recovered:=false }]
theorem zcu{P:Program}{G:Env}(hm:P.follows .mixedOrders=true){fn:Func}{k:FuncId}{fk:Func}{rid d0 d1:Nat}{ops:Array Oper}{r0 r1:Oper}{y:Code}{py:PC}(hk:P.funcs[k]?=some fk)(hbk:fk.body=some (.seq (.region rid ops false) y))(hops:ops.toList=[r0,r1])
  (h0:r0.op=.call ⟨.builtin .recover,#[],#[]⟩) (h0d:r0.dst=some d0) (h0g:r0.guard=none) (h1:r1.op=.assign (.tmp d0)) (h1d:r1.dst=some d1) (h1g:r1.guard=none) (hres:fk.results=#[]) (hpy:zdW fk.ntmps y=some py) (hd0:d0<fk.ntmps) (hd1:d1<fk.ntmps)
  {caps:List AV} {C:Array Value} {R:Out→AS→Prop} {pv:Option AV} {pw:Option Value} {a:Nat→AV} {σ:AS} {M:Mp} {w:World} {ac:Act} {n:Nat} {M0:Mp} {F0:Nat→FSt} {w0:World} (E0:Ext M0 F0 w0 M σ.F w) (S:Sim M σ w) (g:GOk P G M σ.F w) (f:Fr M σ.F w a ac n)
  (hC:Cells M σ.F w caps C) (hcl:caps.length≤fk.ntmps) (hpv:VR M σ.F w (pv.getD .nilif) (pw.getD .nilIface)) (h:zbX P G fk.ntmps py d0 d1 caps fn.results.toList R pv a σ) :
  CallsD P k (#[]++C) (zkl pw) w fun e u' w'=>match e with
   | .returned _=>Leaves P fn ac.tmps (zrJ R M0 F0 w0) [] (settle u') w'
   | .panicked chain=>Leaves P fn ac.tmps (zrJ R M0 F0 w0) [] (raised u' chain) w'
   | .outgrown=>zrJ R M0 F0 w0 .outgrown w':=by
 refine callsD_of_wpS hk hbk fun c₀ cs hu=>?_
 obtain⟨fr1,fr2⟩:=zgG hC hcl
 rw[Array.empty_append]
 generalize hac:({ tmps:=C++ybV (fk.ntmps-C.size) undef,defers:=[] }:Act)=ak
 have hf0:Fr M σ.F w (zbC caps) ak fk.ntmps:=by rw[←hac];exact⟨fr1,fr2⟩
 have hdk:ak.defers=[]:=by rw[←hac]
 have hsz:ops.size=2:=by rw[←Array.length_toList,hops];rfl
 have e0:ops[0]?=some r0:=by rw[←yb4,hops];rfl
 have e1:ops[1]?=some r1:=by rw[←yb4,hops];rfl
 -- behind the region
 have behind:∀(cs':List Frame) (u':FrameMode),cs'={ c₀ with mode:=u' }::cs→settle u'=.returning →
   y.wpS P (bodyPostS P fk c₀ cs fun e u' w'=>match e with
    | .returned _=>Leaves P fn ac.tmps (zrJ R M0 F0 w0) [] (settle u') w'
    | .panicked chain=>Leaves P fn ac.tmps (zrJ R M0 F0 w0) [] (raised u' chain) w'
    | .outgrown=>zrJ R M0 F0 w0 .outgrown w') ((ak.put (some d0) (pw.getD .nilIface)).put (some d1) (pw.getD .nilIface)) cs' w:=by
  intro cs' u' hcs hset
  have f1:=(hf0.put (d:=some d0) (by simpa [zg9]using hd0) hpv).put (d:=some d1) (by simpa [zg9]using hd1) hpv
  refine wpS_of_wp ((wpIn_wide (n:=0)).1 (wpIn_mono (zct hm y py hpy _ _ σ h none [] M σ.F w M w _ S g (.refl ..) f1 (by rw[zaA,zaA,hdk])) fun e a2 w2 hq=>?_))
  obtain⟨e',a',σ',M',q,r,S',g',E',f',hD'⟩:=hq
  obtain⟨he,hares⟩:=q
  have fin:∃v,(results fk a2.tmps).run P w2=.ok v w2∧Leaves P fn ac.tmps (zrJ R M0 F0 w0) [] (settle u') w2:=by
   obtain⟨v,hr,out,hR,hO⟩:=zdz S' (fun t=>(f.val t).mono E') hares
   obtain⟨v2,hr2,_⟩:=zdz (fn:=fk) (tmps:=a2.tmps) (R:=fun _ _=>True) S' f'.val (by rw[hres];exact trivial)
   rw[hset]
   exact⟨v2,hr2,v,hr,out,σ',M',hR,hO,S',E0.trans E'⟩
  rcases he with rfl|rfl
  ·cases e<;>simp only[zff]at r
   obtain⟨v2,hr2,hl⟩:=fin
   exact⟨hD',u',hcs,v2,hr2,hl⟩
  ·cases e<;>simp only[zff]at r
   obtain⟨v2,hr2,hl⟩:=fin
   exact⟨hD',u',hcs,v2,hr2,hl⟩
 have run0:∀ρ:Operand→Value,(execOp ρ r0).run P w=.ok .recover w:=by
  intro ρ
  unfold execOp;rw[h0]
  simp[resolve,invoke,builtin]
 have run1:∀(v:Value),(execOp (ak.put (some d0) v).eval r1).run P w=.ok (.value v) w:=by
  intro v
  have e:(ak.put (some d0) v).eval (.tmp d0)=v:=by
   simp only[Act.eval,Act.put]
   rw[ybz,ybY,if_pos rfl,if_pos (by have:=hf0.size;omega)]
   rfl
  unfold execOp;rw[h1]
  simp[e]
 have want0:∀y,Region.wanted r0 y=true:=fun y=>by simp[Region.wanted,h0g]
 have want1:∀y,Region.wanted r1 y=true:=fun y=>by simp[Region.wanted,h1g]
 refine wpS_seq (wpS_region ?_)
 rw[hsz,show ya7 2=[0,1] from rfl]
 simp only[wpOpsS,e0,e1,want0,want1,if_true,run0]
 cases pw with
 | none =>
  have hrec:recoverD (c₀::cs)=none:=by simp[recoverD,hu,zkl]
  rw[hrec]
  simp only[h0d,run1,Oper.upon_value,h1d]
  exact behind _ .returning (by rw[show({ c₀ with mode:=FrameMode.returning }:Frame)=c₀ by cases c₀;simp only[zkl]at hu;subst hu;rfl]) rfl
 | some v =>
  have hrec:recoverD (c₀::cs)=some (v,{ c₀ with mode:=.panicking [{ v,recovered:=true }] }::cs):=by simp[recoverD,hu,zkl]
  rw[hrec]
  simp only[h0d,run1,Oper.upon_value,h1d]
  exact behind _ (.panicking [{ v,recovered:=true }]) rfl (by simp[settle])
theorem Cells.mono'{M F w M' F' w' cs A}(h:Cells M F w cs A)(E:Ext M F w M' F' w'):Cells M' F' w' cs A:=⟨h.1,fun j v hj=>let ⟨c,a,b⟩:=h.2 j v hj;⟨c,a,b.mono E⟩⟩
theorem zge{P:Program}{G:Env}(hm:P.follows .mixedOrders=true){f:FuncId}{fn:Func}{n:Nat}{x z:Code}{qid t:Nat}{qops:Array Oper}{o0 o1:Oper}{capsA:Array Operand}{px pz:PC}{res:List ResultVar}{args:List AV}{σ:AS}{R:Out→AS→Prop}
  (hf:P.funcs[f]?=some fn) (hnt:fn.ntmps=n) (hres':fn.results.toList=res) (hb:fn.body=some (.seq x (.seq (.region qid qops false) z))) (hqops:qops.toList=[o0,o1]) (hx:zdW n x=some px) (hz:zdW n z=some pz) (hn:args.length≤n)
  {k:FuncId} {fk:Func} {nk rid d0 d1:Nat} {ops:Array Oper} {r0 r1:Oper} {y:Code} {py:PC}
  (m0:o0.op=.makeFunc (.func k) #[] capsA) (m0d:o0.dst=some t) (m0g:o0.guard=none) (m1:o1.op=.defer ⟨.value (.tmp t),#[],#[]⟩) (m1d:o1.dst=none) (m1g:o1.guard=none) (ht:t<n)
  (hk:P.funcs[k]?=some fk) (hnk:fk.ntmps=nk) (hck:za P k=true) (hbk:fk.body=some (.seq (.region rid ops false) y)) (hops:ops.toList=[r0,r1])
  (h0:r0.op=.call ⟨.builtin .recover,#[],#[]⟩) (h0d:r0.dst=some d0) (h0g:r0.guard=none) (h1:r1.op=.assign (.tmp d0)) (h1d:r1.dst=some d1) (h1g:r1.guard=none) (hres:fk.results=#[]) (hpy:zdW nk y=some py) (hd0:d0<nk) (hd1:d1<nk) (hcl:capsA.size≤nk)
  (h:avc P G n px (zaO (fun a σ=>avc P G n pz (aq (zbX P G nk py d0 d1 (capsA.toList.map (ev G a)) res R)) (upd a t (.fn (.func k) [] (capsA.toList.map (ev G a)))) σ) fun _ _ _=>False) (zbC args) σ):ACalls P G f args σ R:=by
 subst hnt;subst hres';subst hnk
 intro M w cargs S g0 hc
 obtain⟨fr1,fr2⟩:=zgG hc hn
 refine calls_of_wp_defers hf hb (wp_seq (wp_mono ((wpIn_wide (n:=0)).1 (zct hm x px hx _ _ σ h none [] M σ.F w M w { tmps:=_,defers:=[] } S g0 (.refl ..) ⟨fr1,fr2⟩ rfl)) fun e ac1 w1 hq=>?_))
 obtain⟨e',a1,σ1,M1,q,r,S1,g1,E1,f1,hD1⟩:=hq
 cases e' with
 | exit i=>exact q.elim
 | ret=>exact q.elim
 | panic v=>exact q.elim
 | normal =>
  cases e<;>simp only[zff]at r
  -- the closure is made and deferred
  have hC:Cells M1 σ1.F w1 (capsA.toList.map (ev G a1)) (capsA.map ac1.eval):=by
   refine Cells.of (by simp) fun j h h'=>?_
   simp only[yak,Array.getElem_map,Array.getElem_toList]
   exact zlh g1 f1 _
  have hfv:VR M1 σ1.F w1 (.fn (.func k) [] (capsA.toList.map (ev G a1))) (.func (.func k) #[] (capsA.map ac1.eval)) :=
   .fn _ _ _ _ _ rfl hC.1 (fun j h=>absurd h (yaA _)) hC.get
  have f2:=f1.put (d:=some t) (by simpa [zg9]using ht) hfv
  have run0:(execOp ac1.eval o0).run P w1=.ok (.value (.func (.func k) #[] (capsA.map ac1.eval))) w1:=by
   unfold execOp;rw[m0]
   simp[Instr.makeFunc]
  have run1:(execOp (ac1.put (some t) (.func (.func k) #[] (capsA.map ac1.eval))).eval o1).run P w1=.ok (.defer ⟨.fn (.func k) (capsA.map ac1.eval),#[]⟩) w1:=by
   have e:(ac1.put (some t) (.func (.func k) #[] (capsA.map ac1.eval))).eval (.tmp t)=.func (.func k) #[] (capsA.map ac1.eval):=by
    simp only[Act.eval,Act.put]
    rw[ybz,ybY,if_pos rfl,if_pos (by have:=f1.size;omega)]
    rfl
   unfold execOp;rw[m1]
   simp[resolve,e,Deferred.ofValue]
  have want0:∀y,Region.wanted o0 y=true:=fun y=>by simp[Region.wanted,m0g]
  have want1:∀y,Region.wanted o1 y=true:=fun y=>by simp[Region.wanted,m1g]
  have step:∀Q:Exit→Act→World→Prop,Q .normal { ac1.put (some t) (.func (.func k) #[] (capsA.map ac1.eval))with defers:=[⟨.fn (.func k) (capsA.map ac1.eval),#[]⟩] } w1→(Code.region qid qops false).wp P Q ac1 w1:=by
   intro Q hQ
   refine(wpIn_wide (n:=0)).1 (wpIn_region_list ?_)
   rw[hqops]
   unfold wpListIn
   rw[if_pos (want0 _)]
   refine⟨fun _ _=>trivial,?_⟩
   rw[show(o0.semAt Fence.wide.round ac1.eval)=execOp ac1.eval o0 from rfl,run0,Oper.uponIn_value,m0d]
   unfold wpListIn
   rw[if_pos (want1 _)]
   refine⟨fun _ _=>trivial,?_⟩
   rw[show(o1.semAt Fence.wide.round (ac1.put (some t) (.func (.func k) #[] (capsA.map ac1.eval))).eval)=execOp (ac1.put (some t) (.func (.func k) #[] (capsA.map ac1.eval))).eval o1 from rfl,run1,Oper.uponIn_defer,m1d,zaA,hD1]
   exact hQ
  refine wp_seq (step _ ?_)
  have f2':Fr M1 σ1.F w1 (upd a1 t (.fn (.func k) [] (capsA.toList.map (ev G a1)))) { ac1.put (some t) (.func (.func k) #[] (capsA.map ac1.eval))with defers:=[⟨.fn (.func k) (capsA.map ac1.eval),#[]⟩] } fn.ntmps:=⟨f2.size,f2.val⟩
  refine wp_mono ((wpIn_wide (n:=0)).1 (zct hm z pz hz _ _ σ1 q none [⟨.fn (.func k) (capsA.map ac1.eval),#[]⟩] M1 σ1.F w1 M1 w1 _ S1 g1 (.refl ..) f2' rfl)) fun e ac3 w3 hq3=>?_
  obtain⟨e3,a3,σ3,M3,q3,r3,S3,g3,E3,f3,hD3⟩:=hq3
  have hinv:∀w,(invoke (.fn (.func k) (capsA.map ac1.eval)) #[]).run P w=.ok (.enter k (#[]++capsA.map ac1.eval)) w:=fun w=>zmp hck w
  have hC3:=Cells.mono' hC E3
  have hcl':(capsA.toList.map (ev G a1)).length≤fk.ntmps:=by simpa using hcl
  cases e3 with
  | exit i=>exact q3.elim
  | normal =>
   cases e<;>simp only[zff]at r3
   simp only[bodyPostD,hD3]
   exact leaves_cons (by simp) (hinv w3) (CallsD.mono (zcu hm hk hbk hops h0 h0d h0g h1 h1d h1g hres hpy hd0 hd1 (pw:=none) (E1.trans E3) S3 g3 f3 hC3 hcl' .nilif q3) fun e u' w' h=>by cases e<;>exact h)
  | ret =>
   cases e<;>simp only[zff]at r3
   simp only[bodyPostD,hD3]
   exact leaves_cons (by simp) (hinv w3) (CallsD.mono (zcu hm hk hbk hops h0 h0d h0g h1 h1d h1g hres hpy hd0 hd1 (pw:=none) (E1.trans E3) S3 g3 f3 hC3 hcl' .nilif q3) fun e u' w' h=>by cases e<;>exact h)
  | panic v =>
   cases e<;>simp only[zff]at r3
   obtain⟨v',rfl,hv⟩:=r3
   simp only[bodyPostD,hD3]
   exact leaves_cons (by simp) (hinv w3) (CallsD.mono (zcu hm hk hbk hops h0 h0d h0g h1 h1d h1g hres hpy hd0 hd1 (pv:=some v) (pw:=some v') (E1.trans E3) S3 g3 f3 hC3 hcl' hv q3) fun e u' w' h=>by cases e<;>exact h)
section
variable {P : Program} {G : Env} {a : Nat → AV} {σ : AS} {K : (Nat → AV) → AS → Prop} {Q : AQ} {dst : Option Nat} {KS : AV → AS → Prop} {KV : AV → Prop}
def orB(x y:Prop):Prop:=x∨y
@[congr] theorem zuZ{dd:Prop}(_:blk=dd){x y:Prop}:orB x y=orB x y:=rfl
def zot(P:Program)(s d:TypeId)(v:AV)(σ:AS)(K:AV→AS→Prop):Prop:=match v with
 | .int _ _=>zf3 P s d v fun v=>K v σ
 | .str bs=>(za5 P d=true→(P.underlying s).isSome=true∧K (.str bs) σ)∧(za5 P d=false→zcY P s d v σ K)
 | _=>zcY P s d v σ K
def zgf(P:Program)(s d:TypeId)(v:AV)(σ:AS)(K:AV→AS→Prop):Prop:=if(s==d)=true then zn2 P s d v fun v=>K v σ else zot P s d v σ K
@[congr] theorem zrK{dd:Prop}(_:blk=dd){s d:TypeId}{v v':AV}{σ σ':AS}{K:AV→AS→Prop}(h:v=v')(h2:σ=σ'):zgf P s d v σ K=zgf P s d v' σ' K:=by rw[h,h2]
theorem zhf(s d x):za1 P G (.convert s d x) dst a σ K Q=zgf P s d (ev G a x) σ fun v σ'=>K (put a dst v) σ':=by
 unfold zgf
 split
 ·rename_i h
  have e:zbs (.convert s d x)=true:=h
  simp only[za1,zbd,e,if_true,zaZ]
 ·rename_i h
  have e:zbs (.convert s d x)=false:=by simp only[zbs];simpa using h
  simp only[za1,zbd,e,Bool.false_eq_true,if_false,zqc,zot]
  cases ev G a x<;>rfl
@[simp] theorem zqG(s d x):za1 P G (.convert s d x) dst a σ K Q=zgf P s d (ev G a x) σ fun v σ'=>K (put a dst v) σ':=zhf s d x
theorem zfo{P:Program}{s:TypeId}(h1:zlT P s=true)(h2:za5 P s=true):False:=by
 obtain⟨e,hu,_⟩:=zbz h1
 rw[zT h2]at hu
 cases hu
theorem ziI{P:Program}{s d:TypeId}{v:AV}{σ:AS}{K:AV→AS→Prop}(hv:∀bs,v≠.lit bs):zgf P s d v σ K=zot P s d v σ K:=by
 unfold zgf
 split
 ·rename_i h
  have h:s=d:=by simpa using h
  subst h
  unfold zot zn2
  cases v with
  | lit bs=>exact absurd rfl (hv bs)
  | int k n=>rfl
  | str bs =>
   simp only[zf3,zcY]
   cases hs:za5 P s with
   | true=>simp
   | false=>simp
  | nilsl=>simp only[zf3,zcY];exact propext ⟨fun h=>h.elim,fun h=>zfo h.1 h.2.1⟩
  | sl φ sz xs=>simp only[zf3,zcY];exact propext ⟨fun h=>h.elim,fun h=>zfo h.1 h.2.1⟩
  | slm o off sz len=>simp only[zf3,zcY];exact propext ⟨fun h=>h.elim,fun h=>zfo h.1 h.2.1⟩
  | _=>rfl
 ·rfl
@[simp] theorem zu0(s d k n):zgf P s d (.int k n) σ KS=zU (zd8 P d) fun k'=>(P.underlying s).isSome=true∧KS (.int k' (k'.wrap n)) σ:=by
 rw[ziI (by simp)];rfl
theorem zu1:∀{x y:List UInt8},B x=B y→x=y
 | [],[],_=>rfl
 | [],_::_,h=>by simp[B]at h
 | _::_,[],h=>by simp[B]at h
 | a::x,b::y,h=>by
  simp only[B,List.map_cons,List.cons.injEq,AV.int.injEq,true_and]at h
  have e:a=b:=UInt8.toNat_inj.1 (by exact_mod_cast h.1)
  rw[e,zu1 h.2]
@[simp] theorem zmq(s d φ z bs):zgf P s d (.sl φ z (B bs)) σ KS=(zlT P s=true∧za5 P d=true∧zl σ.F φ∧KS (.str bs) σ):=by
 rw[ziI (by simp)]
 refine propext ⟨fun⟨h1,h2,h3,bs',h4,h5⟩=>⟨h1,h2,h3,by rw[zu1 h4];exact h5⟩,fun⟨h1,h2,h3,h5⟩=>⟨h1,h2,h3,bs,rfl,h5⟩⟩
theorem zlo{s d φ z xs bs}(h:xs=B bs):zgf P s d (.sl φ z xs) σ KS=(zlT P s=true∧za5 P d=true∧zl σ.F φ∧KS (.str bs) σ):=by subst h;exact zmq ..
@[simp] theorem zxL(t k m n):zbj P .quo t (.int k m) (.int k n) KV=(n≠0∧KV (.int k (k.wrap (m.tdiv n)))):=by simp[zbj,zba]
@[simp] theorem zxM(t k m n):zbj P .rem t (.int k m) (.int k n) KV=(n≠0∧KV (.int k (m.tmod n))):=by simp[zbj,zba]
@[simp] theorem zxN(t k m n):zbj P .and t (.int k m) (.int k n) KV=KV (.int k (zbP k (· &&& ·) m n)):=by simp[zbj,zba]
@[simp] theorem zAC(t k m n):zbj P .or t (.int k m) (.int k n) KV=KV (.int k (zbP k (· ||| ·) m n)):=by simp[zbj,zba]
@[simp] theorem zlW(t φ cs k n):zy P t (.pv φ (.agg cs)) (.int k n) KV=zU (zn0 P t) fun p=>0≤n∧n<(p.1:Nat)∧zaz p.2.2 p.2.1 (n.toNat * p.2.1) cs fun v=>zn1 p.2.2 p.2.1 v∧KV (.pv φ v):=by
 refine propext ⟨fun⟨l,s,g,h1,h2⟩=>⟨(l,s,g),h1,h2⟩,fun⟨p,h1,h2⟩=>⟨p.1,p.2.1,p.2.2,h1,h2⟩⟩
@[simp] theorem znY(t o off k n):zy P t (.ptr o off) (.int k n) KV=zU (zn0 P t) fun p=>0≤n∧n<(p.1:Nat)∧KV (.ptr o (off+n.toNat * p.2.1)):=by
 refine propext ⟨fun⟨l,s,g,h1,h2⟩=>⟨(l,s,g),h1,h2⟩,fun⟨p,h1,h2⟩=>⟨p.1,p.2.1,p.2.2,h1,h2⟩⟩
theorem ACalls.of_below{f:FuncId}{args:List AV}{R:Out→AS→Prop}
  (h:∀(M:Mp) (w:World) (cargs:Array Value),Sim M σ w→GOk P G M σ.F w→Cells M σ.F w args cargs→Calls P f cargs w fun e w'=>(∃v c,e=.returned c∧(∀M F w,VR M F w v c)∧R (.ret v) σ)∧RowKit.Below w.heap.size w w'):ACalls P G f args σ R:=by
 intro M w cargs S g hc
 refine(h M w cargs S g hc).mono fun e w' ⟨⟨v,c,he,hv,hR⟩,hb⟩=>?_
 subst he
 have hlt:∀B r,M.role B=some r→B<w.heap.size:=S.role
 have E:Ext M σ.F w M σ.F w':=by
  refine⟨⟨hb.os,hb.tape,hb.output⟩,yah _,yah _,fun _ _=>rfl,fun _ _ h=>h,fun _ _ h=>by rw[h];simp,hb.size,fun B c e z h=>?_,fun B _ h=>⟨h,.inl (hb.block B (hlt B _ h))⟩,fun B hB h=>⟨h,hb.block B hB⟩,fun _ _ _ h _=>h,fun B f _ h _=>hb.block B (hlt B _ h)⟩
  exact .same (by rw[hb.block B (yaU.1 h).1];exact h) rfl
 refine⟨.ret v,σ,M,hR,hv ..,?_,E⟩
 refine⟨S.no,S.nf,fun B r h=>yag (S.role B r h) hb.size,fun o cs ho=>?_,S.inj⟩
 obtain⟨a1,a2,a3⟩:=S.obj o cs ho
 refine⟨a1,a2,fun j hj=>?_⟩
 obtain⟨c,h1,h2,h3⟩:=a3 j hj
 have hB:=hb.block _ (S.role _ _ a2)
 exact⟨c,(zh hB).trans h1,(zg hB).trans h2,h3.mono E⟩
end
def zfp(P:Program)(G:Env)(n:Nat)(p:PC)(Q:AQ):Nat→(Nat→AV)→AS→Prop
 | 0,_,_=>False
 | m+1,a,σ=>avc P G n p (zaO (zfp P G n p Q m) Q) a σ
@[simp] theorem zqH{P:Program}{G:Env}{n:Nat}{p:PC}{Q:AQ}(m:Nat)(a σ):zfp P G n p Q (m+1) a σ=avc P G n p (zaO (zfp P G n p Q m) Q) a σ:=Eq.trans rfl rfl
@[congr] theorem zou{dd:Prop}(_:blk=dd){P:Program}{G:Env}{n:Nat}{p:PC}{Q:AQ}{m:Nat}{a a':Nat→AV}{σ σ':AS}(h:a=a')(h2:σ=σ'):zfp P G n p Q m a σ=zfp P G n p Q m a' σ':=by rw[h,h2]
end Go.Abs
namespace Go.Abs
open Go
mutual
def mrg(f:Nat):AV→AV
 | .sl φ sz xs=>match φ with
  | .fam g b=>if g=f then .sl (.fam 0 b) sz (zov f xs)else .sl (.fam g b) sz (zov f xs)
  | .stat b=>.sl (.stat b) sz (zov f xs)
 | .agg cs=>.agg (zov f cs)
 | .tuple vs=>.tuple (zov f vs)
 | .iface t v=>.iface t (mrg f v)
 | v=>v
def zov(f:Nat):List AV→List AV
 | []=>[]
 | v::vs=>mrg f v::zov f vs
end
theorem zde(f:Nat):∀l,zov f l=l.map (mrg f)
 | []=>by simp[zov]
 | v::l=>by simp[zov,zde f l]
@[simp] theorem zgH(f g b sz xs):mrg f (.sl (.fam g b) sz xs)=.sl (if g=f then .fam 0 b else .fam g b) sz (xs.map (mrg f)):=by
 by_cases h:g=f<;>simp[mrg,zde,h]
@[simp] theorem zfq(f b sz xs):mrg f (.sl (.stat b) sz xs)=.sl (.stat b) sz (xs.map (mrg f)):=by simp[mrg,zde]
@[simp] theorem zrL(f cs):mrg f (.agg cs)=.agg (cs.map (mrg f)):=by simp[mrg,zde]
@[simp] theorem zmr(f cs):mrg f (.tuple cs)=.tuple (cs.map (mrg f)):=by simp[mrg,zde]
@[simp] theorem zms(f t v):mrg f (.iface t v)=.iface t (mrg f v):=by simp[mrg]
@[simp] theorem zAD(f k n):mrg f (.int k n)=.int k n:=by simp[mrg]
@[simp] theorem zxO(f b):mrg f (.bool b)=.bool b:=by simp[mrg]
@[simp] theorem zAE(f b):mrg f (.str b)=.str b:=by simp[mrg]
@[simp] theorem zu2(f):mrg f .nilsl=.nilsl:=by simp[mrg]
@[simp] theorem zxP(f):mrg f .nilp=.nilp:=by simp[mrg]
@[simp] theorem zu3(f):mrg f .nilif=.nilif:=by simp[mrg]
@[simp] theorem zAF(f o i):mrg f (.ptr o i)=.ptr o i:=by simp[mrg]
theorem zeC(f:Nat)(v:AV):(mrg f v).cells.length=v.cells.length:=by
 cases v with
 | agg cs=>simp[mrg,zde]
 | sl φ sz xs=>cases φ<;>simp[mrg];split<;>simp
 | _=>simp[mrg,AV.cells]
theorem zmt(f:Nat)(v:AV):(mrg f v).cells=v.cells.map (mrg f):=by
 cases v with
 | agg cs=>simp[mrg,zde]
 | sl φ sz xs=>cases φ<;>simp[mrg];split<;>simp
 | _=>simp[mrg,AV.cells]
theorem zhg(f:Nat)(l:List AV):zx (l.map (mrg f))=(zx l).map (mrg f):=by
 simp[zx,List.flatMap_map,List.map_flatMap,zmt]
open Classical in
noncomputable def Mp.mrg(M:Mp)(f:Nat):Mp:={ M with role:=fun B=>if M.role B=some (.fam f)then some (.fam 0)else M.role B }
def zf2(F:Nat→FSt)(f:Nat):Nat→FSt:=upd F f .dead
theorem zjD{M:Mp}{F:Nat→FSt}{w:World}{f:Nat}(h:F f=.alive):Ext M F w (M.mrg f) (zf2 F f) w where
 io:=.refl _
 no:=yah _
 nf:=yah _
 obj _ _:=rfl
 dead g _ hd:=by simp only[zf2,zgF];split<;>simp_all
 spoil g _ hs:=by simp only[zf2,zgF];split<;>simp_all
 size:=yah _
 shape _ _ _ _ h:=.same h rfl
 stat B _ hB:=⟨by simp[Mp.mrg,hB],.inl rfl⟩
 free B _ hB:=⟨by simp[Mp.mrg,hB],rfl⟩
 famr B g _ hB hd:=by
  have hg:g≠f:=by intro e;subst e;simp[zf2]at hd
  exact(if_neg (by rw[hB];simpa using hg)).trans hB
 famc _ _ _ _ _:=rfl
theorem VR.mrg{M:Mp}{F:Nat→FSt}{w:World}{f:Nat}(hn:0<M.nf)(ha:F f=.alive){v:AV}{c:Value}(h:VR M F w v c):VR (M.mrg f) (zf2 F f) w (mrg f v) c:=by
 have E:=zjD (M:=M) (w:=w) ha
 induction h with
 | slz b sz a=>rw[zfq];exact .slz b sz a
 | sl φ sz xs B off cap cs hcap hlit hsz hm hc hv ih =>
  have hrd:zl (zf2 F f) φ→zl F φ:=fun h=>(hm.readable E h).1
  have hl:(xs.map (Go.Abs.mrg f)).length=xs.length:=by simp
  have key:∀φ':Own,φ'.full=φ.full→Mem (M.mrg f) (zf2 F f) w φ' B off (cap*sz)→(zl (zf2 F f) φ'→zl F φ) →
    VR (M.mrg f) (zf2 F f) w (.sl φ' sz (xs.map (Go.Abs.mrg f))) (.slice (some ⟨B,off,none⟩) xs.length cap):=by
   intro φ' hfull hm' hr'
   have:=VR.sl (M:=M.mrg f) (F:=zf2 F f) (w:=w) φ' sz (xs.map (Go.Abs.mrg f)) B off cap cs (by simpa using hcap) (fun h=>by rw[hl];exact hlit (by rw[←hfull];exact h))
    (fun x hx=>by simp at hx;obtain⟨y,hy,rfl⟩:=hx;rw[zeC];exact hsz y hy) hm' (fun hr j hj=>hc (hr' hr) j (by rw[zhg]at hj;simpa using hj))
    (fun hr j hj=>by
     have hj':j<(zx xs).length:=by rw[zhg]at hj;simpa using hj
     have:=ih (hr' hr) j hj'
     simp only[zhg,yak]
     exact this)
   rw[hl]at this
   exact this
  cases φ with
  | stat b=>rw[zfq];exact key _ rfl (hm.mono E) hrd
  | fam g b =>
   rw[zgH]
   by_cases hg:g=f
   ·subst hg
    rw[if_pos rfl]
    refine key _ rfl ?_ (fun _=>ha)
    obtain⟨m1,m2⟩:=hm.2 (by rw[ha];simp)
    exact⟨hn,fun _=>⟨by simp[Mp.mrg,m1],m2⟩⟩
   ·rw[if_neg hg];exact key _ rfl (hm.mono E) hrd
 | agg cs A hA va ih=>rw[zrL];exact .agg _ _ (by simpa using hA) (fun j h h'=>by simpa using ih j (by simpa using h) h')
 | tuple cs A hA va ih=>rw[zmr];exact .tuple _ _ (by simpa using hA) (fun j h h'=>by simpa using ih j (by simpa using h) h')
 | iface t v c h ih=>rw[zms];exact .iface t _ _ ih
 | undef c=>simpa [Go.Abs.mrg]using VR.undef c
 | bool b=>simpa using VR.bool b
 | int k n=>simpa using VR.int k n
 | str s=>simpa using VR.str s
 | nilp=>simpa using VR.nilp
 | nilsl=>simpa using VR.nilsl
 | nilfn=>simpa [Go.Abs.mrg]using VR.nilfn
 | nilif=>simpa using VR.nilif
 | ptr o off h=>simpa using (VR.ptr (M:=M) (F:=F) (w:=w) o off h).mono E
 | pv φ v B off cs hm hc hv _=>simpa [Go.Abs.mrg]using (VR.pv φ v B off cs hm hc hv).mono E
 | mp ks vs b es c h1 h2 h3=>simpa [Go.Abs.mrg]using (VR.mp (M:=M) (F:=F) (w:=w) ks vs b es c h1 h2 h3).mono E
 | itr g ks vs seen B h1 h2 h3=>simpa [Go.Abs.mrg]using (VR.itr (M:=M) (F:=F) (w:=w) g ks vs seen B h1 h2 h3).mono E
 | mpo g ks vs B h1 h2 h3=>simpa [Go.Abs.mrg]using (VR.mpo (M:=M) (F:=F) (w:=w) g ks vs B h1 h2 h3).mono E
 | lit bs B e z h1 h2 h3=>simpa [Go.Abs.mrg]using (VR.lit (M:=M) (F:=F) (w:=w) bs B e z h1 h2 h3).mono E
 | sit g bs pos B h1 h2 h3=>simpa [Go.Abs.mrg]using (VR.sit (M:=M) (F:=F) (w:=w) g bs pos B h1 h2 h3).mono E
 | tys e v c h ht _=>simpa [Go.Abs.mrg]using (VR.tys e v c h ht).mono E
 | tyd e v a n cap h ht _=>simpa [Go.Abs.mrg]using (VR.tyd e v a n cap h ht).mono E
 | pt t n o off h h1 h2=>simpa [Go.Abs.mrg]using (VR.pt (M:=M) (F:=F) (w:=w) t n o off h h1 h2).mono E
 | slm o off sz len cap h hcap hr=>simpa [Go.Abs.mrg]using (VR.slm (M:=M) (F:=F) (w:=w) o off sz len cap h hcap hr).mono E
 | fn g first cap A B ha hb va vb _ _=>simpa [Go.Abs.mrg]using (VR.fn g first cap A B ha hb va vb).mono E
def AS.mrg(σ:AS)(f:Nat)(p:Nat→Bool):AS :=
 { σ with F:=zf2 σ.F f,objs:=fun o=>if p o then(σ.objs o).map (List.map (Go.Abs.mrg f))else σ.objs o }
theorem Sim.mrg{M:Mp}{σ:AS}{w:World}{f:Nat}{p:Nat→Bool}(S:Sim M σ w)(hn:0<σ.nf)(ha:σ.F f=.alive):Sim (M.mrg f) (σ.mrg f p) w where
 no:=S.no
 nf:=S.nf
 role B r h:=by
  simp only[Mp.mrg]at h
  split at h
  ·rename_i h1;exact S.role B _ h1
  ·exact S.role B r h
 obj o cs h:=by
  have E:=zjD (M:=M) (w:=w) ha
  simp only[AS.mrg]at h
  have fin:∀cs0,σ.objs o=some cs0→cs.length=cs0.length→(∀j (h:j<cs.length) (h':j<cs0.length),∀c,VR M σ.F w cs0[j] c→VR (M.mrg f) (zf2 σ.F f) w cs[j] c)→_:=fun cs0 h0 hl hk=>by
   obtain⟨h1,h2,h3⟩:=S.obj o cs0 h0
   refine(⟨h1,?_,fun j hj=>?_⟩:o<(σ.mrg f p).no∧(M.mrg f).role ((M.mrg f).obj o).1=some .obj∧∀j (h:j<cs.length),∃c,w.cell? ⟨((M.mrg f).obj o).1,((M.mrg f).obj o).2+j,none⟩=some c∧w.frozen? ⟨((M.mrg f).obj o).1,((M.mrg f).obj o).2+j,none⟩=false∧VR (M.mrg f) (σ.mrg f p).F w cs[j] c)
   ·simp[Mp.mrg,h2]
   ·obtain⟨c,a,b,d⟩:=h3 j (by omega)
    exact⟨c,a,b,hk j hj (by omega) c d⟩
  split at h
  ·cases h0:σ.objs o with
   | none=>rw[h0]at h;simp at h
   | some cs0 =>
    rw[h0]at h;simp at h;subst h
    exact fin cs0 h0 (by simp) (fun j hj hj' c hc=>by simpa using hc.mrg (by rw[S.nf];exact hn) ha)
  ·exact fin cs h rfl (fun j hj hj' c hc=>hc.mono E)
 inj o o' h h':=by
  refine S.inj o o' ?_ ?_
  ·simp only[AS.mrg]at h;split at h<;>simpa using h
  ·simp only[AS.mrg]at h';split at h'<;>simpa using h'
theorem zrM{P:Program}{G:Env}{f:FuncId}{args:List AV}{σ:AS}{R:Out→AS→Prop}
  (h:ACalls P G f args σ fun o σ'=>R o σ'∨∃v g p,o=.ret v∧0<σ'.nf∧σ'.F g=.alive∧R (.ret (mrg g v)) (σ'.mrg g p)):ACalls P G f args σ R:=by
 intro M w cargs S g c
 refine(h M w cargs S g c).mono fun e w' ⟨o,σ',M',hR,h2,h3,h4⟩=>?_
 rcases hR with hR|⟨v,k,p,ho,hn,ha,hR⟩
 ·exact⟨o,σ',M',hR,h2,h3,h4⟩
 subst ho
 refine⟨_,_,M'.mrg k,hR,?_,h3.mrg hn ha,h4.trans (zjD ha)⟩
 cases e<;>simp only[zbt]at h2 ⊢
 exact h2.mrg (by rw[h3.nf];exact hn) ha
theorem ACalls.newF{P:Program}{G:Env}{f:FuncId}{args:List AV}{σ:AS}{R:Out→AS→Prop}(h:ACalls P G f args σ.newF R):ACalls P G f args σ R:=by
 intro M w cargs S g c
 have E:Ext M σ.F w { M with nf:=M.nf+1 } σ.newF.F w:={
  io:=.refl _
  no:=yah _
  nf:=Nat.le_succ _
  obj:=fun _ _=>rfl
  dead:=fun k hk hd=>by simp only[AS.newF,zgF];rw[if_neg (by have:=S.nf;omega)];exact hd
  spoil:=fun k hk hs=>by simp only[AS.newF,zgF];rw[if_neg (by have:=S.nf;omega),hs];simp
  size:=yah _
  shape:=fun _ _ _ _ h=>.same h rfl
  stat:=fun _ _ h=>⟨h,.inl rfl⟩
  free:=fun _ _ h=>⟨h,rfl⟩
  famr:=fun _ _ _ h _=>h
  famc:=fun _ _ _ _ _=>rfl }
 have S':Sim { M with nf:=M.nf+1 } σ.newF w:=by
  refine⟨S.no,by simp[AS.newF,S.nf],S.role,fun o cs ho=>?_,S.inj⟩
  obtain⟨h1,h2,h3⟩:=S.obj o cs ho
  exact⟨h1,h2,fun j hj=>let ⟨c,a,b,d⟩:=h3 j hj;⟨c,a,b,d.mono E⟩⟩
 refine(h _ w cargs S' (g.mono E) (c.mono' E)).mono fun e w' ⟨o,σ',M',h1,h2,h3,h4⟩=>⟨o,σ',M',h1,h2,h3,E.trans h4⟩
end Go.Abs
namespace Go.Abs
open Go
section
variable (σ : AS)
end
section
variable {P : Program} {G : Env} {a : Nat → AV} {σ : AS} {K : (Nat → AV) → AS → Prop} {Q : AQ} {d : Option Nat}
@[congr] theorem zow{dd:Prop}(_:blk=dd){t:TypeId}{m m' k k':AV}{ok:Bool}{K:AV→Prop}(h:m=m')(h2:k=k'):zaU P t m k ok K=zaU P t m' k' ok K:=by rw[h,h2]
@[congr] theorem zqI{dd:Prop}(_:blk=dd){t:TypeId}{x x':AV}{σ σ':AS}{K:AV→AS→Prop}(h:x=x')(h2:σ=σ'):zef P t x σ K=zef P t x' σ' K:=by rw[h,h2]
@[congr] theorem zqJ{dd:Prop}(_:blk=dd){x x':AV}{σ σ':AS}{K:AV→Prop}(h:x=x')(h2:σ=σ'):zis x σ K=zis x' σ' K:=by rw[h,h2]
@[congr] theorem zrN{dd:Prop}(_:blk=dd){x x':AV}{σ σ':AS}{K:AV→AV→AS→Prop}(h:x=x')(h2:σ=σ'):zl3 x σ K=zl3 x' σ' K:=by rw[h,h2]
@[congr] theorem znZ{dd:Prop}(_:blk=dd){t:TypeId}{m m' k k':AV}{ok:Bool}{σ σ':AS}{K:AV→Prop}(h:m=m')(h2:k=k')(h3:σ=σ'):zbR P t m k ok σ K=zbR P t m' k' ok σ' K:=by rw[h,h2,h3]
@[simp] theorem zqK(t f ks vs k ok)(K:AV→Prop):zbR P t (.mpo f ks vs) k ok σ K=(σ.F f=.alive∧zaU P t (.mp ks vs) k ok K):=Eq.trans rfl rfl
@[simp] theorem zqL(t r):za1 P G (.makeMap t r) d a σ K Q=zcI (r.map (ev G a)) σ fun v σ'=>K (put a d v) σ':=Eq.trans rfl rfl
theorem zhh{K:AV→AS→Prop}:zcI none σ K=K (.mpo σ.nf [] []) σ.newF:=by simp[zcI]
@[congr] theorem zox{dd:Prop}(_:blk=dd){t:TypeId}{m m' k k' v v':AV}{σ σ':AS}{K:AV→AS→Prop}(h:m=m')(h1:k=k')(h2:v=v')(h3:σ=σ'):zbw P t m k v σ K=zbw P t m' k' v' σ' K:=by rw[h,h1,h2,h3]
@[simp] theorem zrO(t x k v):za1 P G (.insert t (.tmp x) k v) d a σ K Q=zbw P t (a x) (ev G a k) (ev G a v) σ fun m σ'=>K (put (upd a x m) d (.tuple [])) σ':=Eq.trans rfl rfl
@[simp] theorem zrP(t m k ok):za1 P G (.lookup t m k ok) d a σ K Q=zbR P t (ev G a m) (ev G a k) ok σ fun v=>K (put a d v) σ:=Eq.trans rfl rfl
@[simp] theorem ztN(t x):za1 P G (.range t x) d a σ K Q=zef P t (ev G a x) σ fun v σ'=>K (put a d v) σ':=Eq.trans rfl rfl
@[congr] theorem zqM{dd:Prop}(_:blk=dd){x x':AV}{σ σ':AS}{K:AV→AV→AS→Prop}(h:x=x')(h2:σ=σ'):zfc x σ K=zfc x' σ' K:=by rw[h,h2]
@[simp] theorem ztO(x):za1 P G (.next (.tmp x) true) d a σ K Q=zfc (a x) σ fun v2 v σ'=>K (put (upd a x v2) d v) σ':=Eq.trans rfl rfl
@[simp] theorem ztP{K:AV→AV→AS→Prop}(f bs pos):zfc (.sit f bs pos) σ K=(σ.F f=.alive∧(pos<bs.length→K (.sit σ.nf bs (pos+(Utf8.decode ⟨bs.toArray⟩ pos).2)) (.tuple [.bool true,.int .i64 (pos:Int),.int .i32 ((Utf8.decode ⟨bs.toArray⟩ pos).1:Int)]) (σ.turn f))∧(¬pos<bs.length→K (.sit f bs pos) (.tuple [.bool false]) σ)):=Eq.trans rfl rfl
end
@[congr] theorem zrQ{P:Program}{dd:Prop}(_:blk=dd){t:TypeId}{x x' y y':AV}{σ σ':AS}{K:AV→AS→Prop}(h:x=x')(h1:y=y')(h2:σ=σ'):zl4 P t x y σ K=zl4 P t x' y' σ' K:=by rw[h,h1,h2]
@[congr] theorem zoy{dd:Prop}(_:blk=dd){o off len:Nat}{ys ys':List AV}{σ σ':AS}{K:AV→AS→Prop}(h:ys=ys')(h2:σ=σ'):zfd o off len ys σ K=zfd o off len ys' σ' K:=by rw[h,h2]
@[simp] theorem zBA(ks vs):(AV.mp ks vs).one=true:=rfl
@[simp] theorem zxQ(ks vs):(AV.mp ks vs).cells=[AV.mp ks vs]:=rfl
@[simp] theorem zxR(ks vs):(AV.mp ks vs).known=true:=rfl
@[simp] theorem zAG(f ks vs s):(AV.itr f ks vs s).one=true:=rfl
@[simp] theorem zu4(f ks vs s):(AV.itr f ks vs s).known=true:=rfl
@[simp] theorem zAH(f ks vs):(AV.mpo f ks vs).one=true:=rfl
@[simp] theorem zu5(f ks vs):(AV.mpo f ks vs).known=true:=rfl
section
variable (σ : AS)
end
def Mp.calm(M:Mp)(nf:Nat):Mp where
 role B:=match M.role B with
  | some (.st m)=>some (.st m)
  | some _=>some .stat
  | none=>none
 obj:=M.obj
 no:=0
 nf:=nf
def AS.bare:AS:={ objs:=fun _=>none,no:=0,F:=fun _=>.alive,nf:=1 }
theorem zhi{M:Mp}{nf B m}(h:M.role B=some (.st m)):(M.calm nf).role B=some (.st m):=by
 simp[Mp.calm,h]
theorem zcK{M:Mp}{nf B}{r:Role}(h:M.role B=some r)(hr:∀m,r≠.st m):(M.calm nf).role B=some .stat:=by
 cases r with
 | st m=>exact absurd rfl (hr m)
 | fam f=>simp[Mp.calm,h]
 | obj=>simp[Mp.calm,h]
theorem Sim.calm{M:Mp}{σ:AS}{w:World}(S:Sim M σ w):Sim (M.calm 1) AS.bare w where
 no:=rfl
 nf:=rfl
 role B r h:=by
  cases hq:M.role B with
  | none=>simp[Mp.calm,hq]at h
  | some r'=>exact S.role B r' hq
 obj o cs h:=by cases h
 inj o o' h:=by cases h
theorem Ext.calm{M M':Mp}{σ:AS}{w w':World}{F':Nat→FSt}(S:Sim M σ w)(E:Ext (M.calm 1) AS.bare.F w M' F' w'):Ext M σ.F w M σ.F w' where
 io:=E.io
 no:=yah _
 nf:=yah _
 obj _ _:=rfl
 dead _ _ h:=h
 spoil _ _ h:=by rw[h];simp
 size:=E.size
 shape B c e z h:=by
  obtain⟨c',z',h1,h2,h3⟩:=E.shape B c e z h
  refine⟨c',z',h1,h2,fun hn=>?_⟩
  have hq:w'.heap[B]?=w.heap[B]?:=by
   cases hr:M.role B with
   | none=>exact(E.free B (yaU.1 h).1 (by simp[Mp.calm,hr])).2
   | some r=>exact(E.stat B false (zcK hr (fun m q=>hn m (by rw[hr,q])))).2.exact
  rw[hq,h]at h1
  cases h1
  exact fun _ _ q=>q
 stat B m h:=⟨h,(E.stat B m (zhi h)).2⟩
 free B hB h:=⟨h,(E.free B hB (by simp[Mp.calm,h])).2⟩
 famr _ _ _ h _:=h
 famc B f _ h _:=(E.stat B false (zcK h (fun m q=>by cases q))).2.exact
theorem Sim.calmed{M M':Mp}{σ:AS}{w w':World}{F':Nat→FSt}(S:Sim M σ w)(E:Ext (M.calm 1) AS.bare.F w M' F' w'):Sim M σ w' where
 no:=S.no
 nf:=S.nf
 role B r h:=yag (S.role B r h) E.size
 obj o cs h:=by
  obtain⟨h1,h2,h3⟩:=S.obj o cs h
  have hq:w'.heap[(M.obj o).1]?=w.heap[(M.obj o).1]?:=(E.stat _ false (zcK h2 (fun m q=>by cases q))).2.exact
  refine⟨h1,h2,fun j hj=>?_⟩
  obtain⟨c,a,b,d⟩:=h3 j hj
  exact⟨c,by rw[zh hq,a],by rw[zg hq,b],d.mono (Ext.calm S E)⟩
 inj:=S.inj
end Go.Abs
